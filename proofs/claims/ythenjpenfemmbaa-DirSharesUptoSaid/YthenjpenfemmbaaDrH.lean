/- Layer 12: each key has one group: the plain law, and the walk of DirCovers. -/
import Derived.Test.YthenjpenfemmbaaDrG
namespace Go.Proofs.Ythenjpenfemmbaa
open Go.RowKit
set_option linter.unusedSimpArgs false
set_option linter.unusedVariables false

theorem bl_nil (a : ByteArray) : bl a E0 = false := by
  unfold bl E0
  rw [show (ByteArray.mk #[]).toList = [] from tl []]
  cases a.toList <;> rfl
theorem le_nil (a : ByteArray) : le E0 a = true := by unfold le; rw [bl_nil]; rfl
theorem le_of_rises {L : List ByteArray} (hR : Rises L) {s : ByteArray} {i j : Nat} (hij : i ≤ j) (hj : j < L.length) (h : le (gx L j) s = true) : le (gx L i) s = true := by
  by_cases e : i = j
  · rw [e]; exact h
  · have h1 := hR.lt i j (by omega) hj
    have h2 := lt_le h1 h
    unfold le
    rw [bl_anti h2]
    rfl
theorem le_place {L : List ByteArray} (hR : Rises L) (s : ByteArray) : (∀ t, t < cntE L s → le (gx L t) s = true) ∧ (∀ t, cntE L s ≤ t → t < L.length → le (gx L t) s = false) := by
  have : ∀ n, n ≤ L.length → (∃ k, k ≤ n ∧ (∀ t, t < k → le (gx L t) s = true) ∧ (∀ t, k ≤ t → t < n → le (gx L t) s = false)) := by
    intro n
    induction n with
    | zero => intro _; exact ⟨0, Nat.le_refl _, fun t h => absurd h (by omega), fun t h h' => absurd h' (by omega)⟩
    | succ n ih =>
      intro hn
      obtain ⟨k, hk, h1, h2⟩ := ih (by omega)
      cases hb : le (gx L n) s with
      | true => exact ⟨n + 1, Nat.le_refl _, fun t ht => le_of_rises hR (by omega) (by omega) hb, fun t h h' => absurd h (by omega)⟩
      | false => exact ⟨k, by omega, h1, fun t h h' => by
          by_cases e : t = n
          · rw [e]; exact hb
          · exact h2 t h (by omega)⟩
  obtain ⟨k, hk, h1, h2⟩ := this _ (Nat.le_refl _)
  have e : cntE L s = k := count_at _ L k hk h1 h2
  rw [e]
  exact ⟨h1, h2⟩
theorem bl_of_not_le {a b : ByteArray} (h : le a b = false) : bl b a = true := by simpa [le] using h
/-- its own group's range holds a key -/
theorem in_own {L : List ByteArray} (hR : Rises L) (s : ByteArray) : le (fromK L (cntE L s)) s = true ∧ (cntE L s < L.length → bl s (toK L (cntE L s)) = true) ∧ (¬ cntE L s < L.length → toK L (cntE L s) = E0) := by
  obtain ⟨h1, h2⟩ := le_place hR s
  refine ⟨?_, fun h => ?_, fun h => ?_⟩
  · unfold fromK
    split
    · exact h1 _ (by omega)
    · exact le_nil s
  · unfold toK
    rw [if_pos h]
    exact bl_of_not_le (h2 _ (Nat.le_refl _) h)
  · unfold toK
    rw [if_neg h]
/-- a range ahead of it does not -/
theorem in_low {L : List ByteArray} (hR : Rises L) {s : ByteArray} {i : Nat} (hi : i < cntE L s) : le (fromK L i) s = true ∧ bl s (toK L i) = false ∧ toK L i ≠ E0 := by
  obtain ⟨h1, h2⟩ := le_place hR s
  have hl := cntE_le L s
  have hil : i < L.length := by omega
  refine ⟨?_, ?_, ?_⟩
  · unfold fromK
    split
    · exact h1 _ (by omega)
    · exact le_nil s
  · unfold toK
    rw [if_pos hil]
    have := h1 i hi
    unfold le at this
    simpa using this
  · unfold toK
    rw [if_pos hil]
    intro e
    have := key_yes (hR.key i hil)
    rw [e] at this
    exact absurd this.1 (by decide)
/-- nor does one behind it -/
theorem in_high {L : List ByteArray} (hR : Rises L) {s : ByteArray} {i : Nat} (hi : cntE L s < i) (hl : i ≤ L.length) : le (fromK L i) s = false := by
  obtain ⟨h1, h2⟩ := le_place hR s
  unfold fromK
  rw [if_pos (by omega)]
  exact h2 (i - 1) (by omega) (by omega)
theorem cnt_mono (L : List ByteArray) {a b : ByteArray} (h : le a b = true) : cntE L a ≤ cntE L b := by
  unfold cntE
  exact List.countP_mono_left (fun x _ hx => le_trans' hx h)

def CovRel (L : List ByteArray) (G : Nat) (w0 : World) (n i : Value) (wr : World) : Prop :=
  ∃ (k : Nat) (m : Int), i = .int .i64 k ∧ k ≤ L.length + 1 ∧ n = .int .i64 m ∧ (k ≤ G → m = 0) ∧ (G < k → m = 1) ∧ wr = w0
def Done (w : World) (e : Ending) (w' : World) : Prop := e = .returned (.bool true) ∧ Below w.heap.size w w'
set_option maxHeartbeats 4000000 in
set_option maxRecDepth 100000 in
theorem covers_any (A : Option Addr) (c : Nat) (L : List ByteArray) (a b : ByteArray) (w : World) (hr : Reads w w.heap.size 1 A L.length (sc L)) (hl : L.length ≤ 8796093022200) :
    Calls Try.prog 4 #[.slice A L.length c, .string a, .string b] w (Done w) := by
  have HW := Lib.hid (works_any w)
  by_cases hE : newE L = 0
  · have H := Lib.hid hE
    have hRi := newE_zero hE
    have hfew := hRi.few
    clear hE
    go_enter Try.func4, Try.ntmps4
    go_wp2_with fail
    refine HW.out.mono ?_
    clear HW
    rintro e w1 ⟨rfl, hb1⟩
    go_wp2_with fail
    refine (dnew_ok A c w.heap.size L w1 (hr.below hb1) hb1.size (by omega) H.out).mono ?_
    rintro e w2 ⟨d, Ad, cd, rfl, hD, hb2, _, _⟩
    have hbe := hb1.trans (hb2.mono hb1.size)
    have HGa := Lib.hid (group_any d Ad cd L a w2 hD hRi)
    have HGb := Lib.hid (group_any d Ad cd L b w2 hD hRi)
    have HKa := Lib.hid (dkey_any d a w2)
    have HKb := Lib.hid (dkey_any d b w2)
    have HGs := Lib.hid (groups_any d Ad cd L w2 hD hfew)
    clear hb1 hb2
    cases ka : keyB a with
    | false =>
      rw [show grp L a = -1 by unfold grp; rw [ka]; rfl] at HGa
      rw [ka] at HKa
      simp only [Bool.false_eq_true, if_false] at HKa
      clear ka
      generalize grp L b = gb at *
      go_wp2_with (go_at_call 9; refine (num_any _ _).mono ?_; rintro e w' ⟨rfl, rfl⟩)
      refine HGa.out.mono ?_
      rintro e w' ⟨rfl, rfl⟩
      go_wp2_with fail
      refine HGb.out.mono ?_
      rintro e w' ⟨rfl, rfl⟩
      go_wp2_with (first | (go_at_call 9; refine (num_any _ _).mono ?_; rintro e w' ⟨rfl, rfl⟩) | (go_at_call 15; refine HKa.out.mono ?_; rintro e w' ⟨rfl, rfl⟩))
      go_ret
      exact ⟨rfl, hbe⟩
    | true =>
      rw [show grp L a = (cntE L a : Int) by unfold grp; rw [ka]; rfl] at HGa
      rw [ka] at HKa
      simp only [if_true] at HKa
      cases kb : keyB b with
      | false =>
        rw [show grp L b = -1 by unfold grp; rw [kb]; rfl] at HGb
        rw [kb] at HKb
        simp only [Bool.false_eq_true, if_false] at HKb
        clear ka kb
        generalize cntE L a = ga at *
        go_wp2_with (go_at_call 9; refine (num_any _ _).mono ?_; rintro e w' ⟨rfl, rfl⟩)
        refine HGa.out.mono ?_
        rintro e w' ⟨rfl, rfl⟩
        go_wp2_with fail
        refine HGb.out.mono ?_
        rintro e w' ⟨rfl, rfl⟩
        go_wp2_with (go_at_call 9; refine (num_any _ _).mono ?_; rintro e w' ⟨rfl, rfl⟩)
        refine HKa.out.mono ?_
        rintro e w' ⟨rfl, rfl⟩
        go_wp2_with (go_at_call 9; refine (num_any _ _).mono ?_; rintro e w' ⟨rfl, rfl⟩)
        refine HKb.out.mono ?_
        rintro e w' ⟨rfl, rfl⟩
        go_wp2_with (go_at_call 9; refine (num_any _ _).mono ?_; rintro e w' ⟨rfl, rfl⟩)
        refine HKa.out.mono ?_
        rintro e w' ⟨rfl, rfl⟩
        go_wp2_with (go_at_call 9; refine (num_any _ _).mono ?_; rintro e w' ⟨rfl, rfl⟩)
        go_ret
        exact ⟨rfl, hbe⟩
      | true =>
        rw [show grp L b = (cntE L b : Int) by unfold grp; rw [kb]; rfl] at HGb
        rw [kb] at HKb
        simp only [if_true] at HKb
        clear ka kb
        go_wp2_with (go_at_call 9; refine (num_any _ _).mono ?_; rintro e w' ⟨rfl, rfl⟩)
        refine HGa.out.mono ?_
        rintro e w' ⟨rfl, rfl⟩
        go_wp2_with fail
        refine HGb.out.mono ?_
        rintro e w' ⟨rfl, rfl⟩
        go_wp2_with (go_at_call 9; refine (num_any _ _).mono ?_; rintro e w' ⟨rfl, rfl⟩)
        refine HKa.out.mono ?_
        rintro e w' ⟨rfl, rfl⟩
        go_wp2_with (go_at_call 9; refine (num_any _ _).mono ?_; rintro e w' ⟨rfl, rfl⟩)
        refine HKb.out.mono ?_
        rintro e w' ⟨rfl, rfl⟩
        have hGl := cntE_le L a
        have hown := Lib.hid (in_own hRi a)
        have hlow := Lib.hid (fun i => @in_low L hRi a i)
        have hhigh := Lib.hid (fun i => @in_high L hRi a i)
        have hkey := Lib.hid hRi.key
        have hord : (bl a b = true ∧ cntE L a ≤ cntE L b) ∨ a = b ∨ (bl a b = false ∧ a ≠ b ∧ cntE L b ≤ cntE L a) := by
          cases h1 : bl a b with
          | true => exact .inl ⟨rfl, cnt_mono L (by unfold le; rw [bl_anti h1]; rfl)⟩
          | false =>
            by_cases e : a = b
            · exact .inr (.inl e)
            · exact .inr (.inr ⟨rfl, e, cnt_mono L (by unfold le; rw [h1]; rfl)⟩)
        generalize hG : cntE L a = G at *
        generalize hH : cntE L b = Hn at *
        have z2 : decide ((G : Int) < 0) = false := decide_eq_false (by omega)
        have z3 : decide ((L.length : Int) + 1 ≤ (G : Int)) = false := decide_eq_false (by omega)
        rcases hord with ⟨hlt, hgh⟩ | rfl | ⟨hge, hne, hgh⟩
        · have f1 : Op.bytesLess a.toList b.toList = true := hlt
          have z1 : decide (Hn < G) = false := decide_eq_false (by omega)
          clear hlt hG hH
          go_wp2_with (first | (go_at_call 9; refine (num_any _ _).mono ?_; rintro e w' ⟨rfl, rfl⟩) | (go_at_call 10; refine HGs.out.mono ?_; rintro e w' ⟨rfl, rfl⟩))
          go_loopw [11, 12] (CovRel L G w2) (fun _ i _ => L.length + 1 - (intOf i).toNat)
          case atStart => exact ⟨0, 0, rfl, by omega, rfl, fun _ => rfl, fun h => absurd h (by omega), rfl⟩
          case round =>
            obtain ⟨k, m, rfl, hk, rfl, hm0, hm1, rfl⟩ := hrel
            by_cases hkl : k ≤ L.length
            · have HR : Hid (Calls Try.prog 16 #[.pointer (some ⟨d, 0, none⟩), .int .i64 k] wr fun e w' => e = .returned (.tuple #[.string (fromK L k), .string (toK L k), .int .i64 0]) ∧ wr = w') := Lib.hid (range_in d Ad cd L k wr hD hfew hkl)
              by_cases c1 : k < G
              · obtain rfl := hm0 (by omega)
                obtain ⟨r1, r2, r3⟩ := hlow.out k c1
                clear hm0 hm1
                generalize fromK L k = fr at *
                generalize toK L k = tk at *
                have g1 : (Op.bytesLess fr.toList a.toList || fr.toList == a.toList) = true := by rw [le_or]; exact r1
                have g2 : ¬ tk.toList = [] := fun h => r3 (toList_inj (h.trans (tl []).symm))
                have g3 : tk.toList.isEmpty = false := by rw [List.isEmpty_eq_false_iff]; exact g2
                have g4 : Op.bytesLess a.toList tk.toList = false := r2
                clear r1 r2 r3
                go_wp2_with (first | (go_at_call 9; refine (num_any _ _).mono ?_; rintro e w' ⟨rfl, rfl⟩) | (go_at_call 10; refine HGs.out.mono ?_; rintro e w' ⟨rfl, rfl⟩) | (go_at_call 16; refine HR.out.mono ?_; rintro e w' ⟨rfl, rfl⟩))
                go_roundw
                case rel => have hrel1 : CovRel L G wr (.int .i64 0) (.int .i64 ((k : Int) + 1)) wr := ⟨k + 1, 0, by go_num, by omega, rfl, fun _ => rfl, fun h => absurd h (by omega), rfl⟩; first | exact hrel1 | ((repeat with_reducible apply Exists.intro); exact ⟨hrel1, rfl⟩)
                case measure => simp [intOf]; omega
              by_cases c2 : k = G
              · obtain rfl := hm0 (by omega)
                subst c2
                obtain ⟨r1, r2, r3⟩ := hown.out
                clear hm0 hm1
                by_cases c3 : k < L.length
                · have r4 := r2 c3
                  have r5 : toK L k ≠ E0 := by
                    unfold toK
                    rw [if_pos c3]
                    intro e
                    have := key_yes (hkey.out k c3)
                    rw [e] at this
                    exact absurd this.1 (by decide)
                  clear r2 r3
                  generalize fromK L k = fr at *
                  generalize toK L k = tk at *
                  have g1 : (Op.bytesLess fr.toList a.toList || fr.toList == a.toList) = true := by rw [le_or]; exact r1
                  have g2 : ¬ tk.toList = [] := fun h => r5 (toList_inj (h.trans (tl []).symm))
                  have g3 : tk.toList.isEmpty = false := by rw [List.isEmpty_eq_false_iff]; exact g2
                  have g4 : Op.bytesLess a.toList tk.toList = true := r4
                  clear r1 r4 r5
                  go_wp2_with (first | (go_at_call 9; refine (num_any _ _).mono ?_; rintro e w' ⟨rfl, rfl⟩) | (go_at_call 10; refine HGs.out.mono ?_; rintro e w' ⟨rfl, rfl⟩) | (go_at_call 16; refine HR.out.mono ?_; rintro e w' ⟨rfl, rfl⟩))
                  go_roundw
                  case rel => have hrel1 : CovRel L k wr (.int .i64 1) (.int .i64 ((k : Int) + 1)) wr := ⟨k + 1, 1, by go_num, by omega, rfl, fun h => absurd h (by omega), fun _ => rfl, rfl⟩; first | exact hrel1 | ((repeat with_reducible apply Exists.intro); exact ⟨hrel1, rfl⟩)
                  case measure => simp [intOf]; omega
                · have r4 := r3 c3
                  rw [r4] at HR
                  clear r2 r3 r4
                  generalize fromK L k = fr at *
                  have g1 : (Op.bytesLess fr.toList a.toList || fr.toList == a.toList) = true := by rw [le_or]; exact r1
                  have g2 : (ByteArray.mk #[]).toList = [] := tl []
                  clear r1
                  simp only [E0] at HR
                  go_wp2_with (first | (go_at_call 9; refine (num_any _ _).mono ?_; rintro e w' ⟨rfl, rfl⟩) | (go_at_call 10; refine HGs.out.mono ?_; rintro e w' ⟨rfl, rfl⟩) | (go_at_call 16; refine HR.out.mono ?_; rintro e w' ⟨rfl, rfl⟩))
                  go_roundw
                  case rel => have hrel1 : CovRel L k wr (.int .i64 1) (.int .i64 ((k : Int) + 1)) wr := ⟨k + 1, 1, by go_num, by omega, rfl, fun h => absurd h (by omega), fun _ => rfl, rfl⟩; first | exact hrel1 | ((repeat with_reducible apply Exists.intro); exact ⟨hrel1, rfl⟩)
                  case measure => simp [intOf]; omega
              · obtain rfl := hm1 (by omega)
                have r1 := hhigh.out k (by omega) hkl
                clear hm0 hm1
                generalize fromK L k = fr at *
                generalize toK L k = tk at *
                have g1 : (Op.bytesLess fr.toList a.toList || fr.toList == a.toList) = false := by rw [le_or]; exact r1
                clear r1
                go_wp2_with (first | (go_at_call 9; refine (num_any _ _).mono ?_; rintro e w' ⟨rfl, rfl⟩) | (go_at_call 10; refine HGs.out.mono ?_; rintro e w' ⟨rfl, rfl⟩) | (go_at_call 16; refine HR.out.mono ?_; rintro e w' ⟨rfl, rfl⟩))
                go_roundw
                case rel => have hrel1 : CovRel L G wr (.int .i64 1) (.int .i64 ((k : Int) + 1)) wr := ⟨k + 1, 1, by go_num, by omega, rfl, fun h => absurd h (by omega), fun _ => rfl, rfl⟩; first | exact hrel1 | ((repeat with_reducible apply Exists.intro); exact ⟨hrel1, rfl⟩)
                case measure => simp [intOf]; omega
            · obtain rfl := hm1 (by omega)
              clear hm0 hm1
              go_wp2_with (first | (go_at_call 9; refine (num_any _ _).mono ?_; rintro e w' ⟨rfl, rfl⟩) | (go_at_call 10; refine HGs.out.mono ?_; rintro e w' ⟨rfl, rfl⟩))
              go_ret
              exact ⟨rfl, hbe⟩
        · obtain rfl : G = Hn := hG.symm.trans hH
          have f1 : Op.bytesLess a.toList a.toList = false := bl_irr _
          have z1 : decide (G < G) = false := decide_eq_false (by omega)
          clear hG hH
          go_wp2_with (first | (go_at_call 9; refine (num_any _ _).mono ?_; rintro e w' ⟨rfl, rfl⟩) | (go_at_call 10; refine HGs.out.mono ?_; rintro e w' ⟨rfl, rfl⟩))
          go_loopw [11, 12] (CovRel L G w2) (fun _ i _ => L.length + 1 - (intOf i).toNat)
          case atStart => exact ⟨0, 0, rfl, by omega, rfl, fun _ => rfl, fun h => absurd h (by omega), rfl⟩
          case round =>
            obtain ⟨k, m, rfl, hk, rfl, hm0, hm1, rfl⟩ := hrel
            by_cases hkl : k ≤ L.length
            · have HR : Hid (Calls Try.prog 16 #[.pointer (some ⟨d, 0, none⟩), .int .i64 k] wr fun e w' => e = .returned (.tuple #[.string (fromK L k), .string (toK L k), .int .i64 0]) ∧ wr = w') := Lib.hid (range_in d Ad cd L k wr hD hfew hkl)
              by_cases c1 : k < G
              · obtain rfl := hm0 (by omega)
                obtain ⟨r1, r2, r3⟩ := hlow.out k c1
                clear hm0 hm1
                generalize fromK L k = fr at *
                generalize toK L k = tk at *
                have g1 : (Op.bytesLess fr.toList a.toList || fr.toList == a.toList) = true := by rw [le_or]; exact r1
                have g2 : ¬ tk.toList = [] := fun h => r3 (toList_inj (h.trans (tl []).symm))
                have g3 : tk.toList.isEmpty = false := by rw [List.isEmpty_eq_false_iff]; exact g2
                have g4 : Op.bytesLess a.toList tk.toList = false := r2
                clear r1 r2 r3
                go_wp2_with (first | (go_at_call 9; refine (num_any _ _).mono ?_; rintro e w' ⟨rfl, rfl⟩) | (go_at_call 10; refine HGs.out.mono ?_; rintro e w' ⟨rfl, rfl⟩) | (go_at_call 16; refine HR.out.mono ?_; rintro e w' ⟨rfl, rfl⟩))
                go_roundw
                case rel => have hrel1 : CovRel L G wr (.int .i64 0) (.int .i64 ((k : Int) + 1)) wr := ⟨k + 1, 0, by go_num, by omega, rfl, fun _ => rfl, fun h => absurd h (by omega), rfl⟩; first | exact hrel1 | ((repeat with_reducible apply Exists.intro); exact ⟨hrel1, rfl⟩)
                case measure => simp [intOf]; omega
              by_cases c2 : k = G
              · obtain rfl := hm0 (by omega)
                subst c2
                obtain ⟨r1, r2, r3⟩ := hown.out
                clear hm0 hm1
                by_cases c3 : k < L.length
                · have r4 := r2 c3
                  have r5 : toK L k ≠ E0 := by
                    unfold toK
                    rw [if_pos c3]
                    intro e
                    have := key_yes (hkey.out k c3)
                    rw [e] at this
                    exact absurd this.1 (by decide)
                  clear r2 r3
                  generalize fromK L k = fr at *
                  generalize toK L k = tk at *
                  have g1 : (Op.bytesLess fr.toList a.toList || fr.toList == a.toList) = true := by rw [le_or]; exact r1
                  have g2 : ¬ tk.toList = [] := fun h => r5 (toList_inj (h.trans (tl []).symm))
                  have g3 : tk.toList.isEmpty = false := by rw [List.isEmpty_eq_false_iff]; exact g2
                  have g4 : Op.bytesLess a.toList tk.toList = true := r4
                  clear r1 r4 r5
                  go_wp2_with (first | (go_at_call 9; refine (num_any _ _).mono ?_; rintro e w' ⟨rfl, rfl⟩) | (go_at_call 10; refine HGs.out.mono ?_; rintro e w' ⟨rfl, rfl⟩) | (go_at_call 16; refine HR.out.mono ?_; rintro e w' ⟨rfl, rfl⟩))
                  go_roundw
                  case rel => have hrel1 : CovRel L k wr (.int .i64 1) (.int .i64 ((k : Int) + 1)) wr := ⟨k + 1, 1, by go_num, by omega, rfl, fun h => absurd h (by omega), fun _ => rfl, rfl⟩; first | exact hrel1 | ((repeat with_reducible apply Exists.intro); exact ⟨hrel1, rfl⟩)
                  case measure => simp [intOf]; omega
                · have r4 := r3 c3
                  rw [r4] at HR
                  clear r2 r3 r4
                  generalize fromK L k = fr at *
                  have g1 : (Op.bytesLess fr.toList a.toList || fr.toList == a.toList) = true := by rw [le_or]; exact r1
                  have g2 : (ByteArray.mk #[]).toList = [] := tl []
                  clear r1
                  simp only [E0] at HR
                  go_wp2_with (first | (go_at_call 9; refine (num_any _ _).mono ?_; rintro e w' ⟨rfl, rfl⟩) | (go_at_call 10; refine HGs.out.mono ?_; rintro e w' ⟨rfl, rfl⟩) | (go_at_call 16; refine HR.out.mono ?_; rintro e w' ⟨rfl, rfl⟩))
                  go_roundw
                  case rel => have hrel1 : CovRel L k wr (.int .i64 1) (.int .i64 ((k : Int) + 1)) wr := ⟨k + 1, 1, by go_num, by omega, rfl, fun h => absurd h (by omega), fun _ => rfl, rfl⟩; first | exact hrel1 | ((repeat with_reducible apply Exists.intro); exact ⟨hrel1, rfl⟩)
                  case measure => simp [intOf]; omega
              · obtain rfl := hm1 (by omega)
                have r1 := hhigh.out k (by omega) hkl
                clear hm0 hm1
                generalize fromK L k = fr at *
                generalize toK L k = tk at *
                have g1 : (Op.bytesLess fr.toList a.toList || fr.toList == a.toList) = false := by rw [le_or]; exact r1
                clear r1
                go_wp2_with (first | (go_at_call 9; refine (num_any _ _).mono ?_; rintro e w' ⟨rfl, rfl⟩) | (go_at_call 10; refine HGs.out.mono ?_; rintro e w' ⟨rfl, rfl⟩) | (go_at_call 16; refine HR.out.mono ?_; rintro e w' ⟨rfl, rfl⟩))
                go_roundw
                case rel => have hrel1 : CovRel L G wr (.int .i64 1) (.int .i64 ((k : Int) + 1)) wr := ⟨k + 1, 1, by go_num, by omega, rfl, fun h => absurd h (by omega), fun _ => rfl, rfl⟩; first | exact hrel1 | ((repeat with_reducible apply Exists.intro); exact ⟨hrel1, rfl⟩)
                case measure => simp [intOf]; omega
            · obtain rfl := hm1 (by omega)
              clear hm0 hm1
              go_wp2_with (first | (go_at_call 9; refine (num_any _ _).mono ?_; rintro e w' ⟨rfl, rfl⟩) | (go_at_call 10; refine HGs.out.mono ?_; rintro e w' ⟨rfl, rfl⟩))
              go_ret
              exact ⟨rfl, hbe⟩
        · have f1 : Op.bytesLess a.toList b.toList = false := hge
          have f2 : (a.toList == b.toList) = false := by rw [eq_toList]; exact decide_eq_false hne
          have z1 : decide (G < Hn) = false := decide_eq_false (by omega)
          clear hge hne hG hH
          go_wp2_with (first | (go_at_call 9; refine (num_any _ _).mono ?_; rintro e w' ⟨rfl, rfl⟩) | (go_at_call 10; refine HGs.out.mono ?_; rintro e w' ⟨rfl, rfl⟩))
          go_loopw [11, 12] (CovRel L G w2) (fun _ i _ => L.length + 1 - (intOf i).toNat)
          case atStart => exact ⟨0, 0, rfl, by omega, rfl, fun _ => rfl, fun h => absurd h (by omega), rfl⟩
          case round =>
            obtain ⟨k, m, rfl, hk, rfl, hm0, hm1, rfl⟩ := hrel
            by_cases hkl : k ≤ L.length
            · have HR : Hid (Calls Try.prog 16 #[.pointer (some ⟨d, 0, none⟩), .int .i64 k] wr fun e w' => e = .returned (.tuple #[.string (fromK L k), .string (toK L k), .int .i64 0]) ∧ wr = w') := Lib.hid (range_in d Ad cd L k wr hD hfew hkl)
              by_cases c1 : k < G
              · obtain rfl := hm0 (by omega)
                obtain ⟨r1, r2, r3⟩ := hlow.out k c1
                clear hm0 hm1
                generalize fromK L k = fr at *
                generalize toK L k = tk at *
                have g1 : (Op.bytesLess fr.toList a.toList || fr.toList == a.toList) = true := by rw [le_or]; exact r1
                have g2 : ¬ tk.toList = [] := fun h => r3 (toList_inj (h.trans (tl []).symm))
                have g3 : tk.toList.isEmpty = false := by rw [List.isEmpty_eq_false_iff]; exact g2
                have g4 : Op.bytesLess a.toList tk.toList = false := r2
                clear r1 r2 r3
                go_wp2_with (first | (go_at_call 9; refine (num_any _ _).mono ?_; rintro e w' ⟨rfl, rfl⟩) | (go_at_call 10; refine HGs.out.mono ?_; rintro e w' ⟨rfl, rfl⟩) | (go_at_call 16; refine HR.out.mono ?_; rintro e w' ⟨rfl, rfl⟩))
                go_roundw
                case rel => have hrel1 : CovRel L G wr (.int .i64 0) (.int .i64 ((k : Int) + 1)) wr := ⟨k + 1, 0, by go_num, by omega, rfl, fun _ => rfl, fun h => absurd h (by omega), rfl⟩; first | exact hrel1 | ((repeat with_reducible apply Exists.intro); exact ⟨hrel1, rfl⟩)
                case measure => simp [intOf]; omega
              by_cases c2 : k = G
              · obtain rfl := hm0 (by omega)
                subst c2
                obtain ⟨r1, r2, r3⟩ := hown.out
                clear hm0 hm1
                by_cases c3 : k < L.length
                · have r4 := r2 c3
                  have r5 : toK L k ≠ E0 := by
                    unfold toK
                    rw [if_pos c3]
                    intro e
                    have := key_yes (hkey.out k c3)
                    rw [e] at this
                    exact absurd this.1 (by decide)
                  clear r2 r3
                  generalize fromK L k = fr at *
                  generalize toK L k = tk at *
                  have g1 : (Op.bytesLess fr.toList a.toList || fr.toList == a.toList) = true := by rw [le_or]; exact r1
                  have g2 : ¬ tk.toList = [] := fun h => r5 (toList_inj (h.trans (tl []).symm))
                  have g3 : tk.toList.isEmpty = false := by rw [List.isEmpty_eq_false_iff]; exact g2
                  have g4 : Op.bytesLess a.toList tk.toList = true := r4
                  clear r1 r4 r5
                  go_wp2_with (first | (go_at_call 9; refine (num_any _ _).mono ?_; rintro e w' ⟨rfl, rfl⟩) | (go_at_call 10; refine HGs.out.mono ?_; rintro e w' ⟨rfl, rfl⟩) | (go_at_call 16; refine HR.out.mono ?_; rintro e w' ⟨rfl, rfl⟩))
                  go_roundw
                  case rel => have hrel1 : CovRel L k wr (.int .i64 1) (.int .i64 ((k : Int) + 1)) wr := ⟨k + 1, 1, by go_num, by omega, rfl, fun h => absurd h (by omega), fun _ => rfl, rfl⟩; first | exact hrel1 | ((repeat with_reducible apply Exists.intro); exact ⟨hrel1, rfl⟩)
                  case measure => simp [intOf]; omega
                · have r4 := r3 c3
                  rw [r4] at HR
                  clear r2 r3 r4
                  generalize fromK L k = fr at *
                  have g1 : (Op.bytesLess fr.toList a.toList || fr.toList == a.toList) = true := by rw [le_or]; exact r1
                  have g2 : (ByteArray.mk #[]).toList = [] := tl []
                  clear r1
                  simp only [E0] at HR
                  go_wp2_with (first | (go_at_call 9; refine (num_any _ _).mono ?_; rintro e w' ⟨rfl, rfl⟩) | (go_at_call 10; refine HGs.out.mono ?_; rintro e w' ⟨rfl, rfl⟩) | (go_at_call 16; refine HR.out.mono ?_; rintro e w' ⟨rfl, rfl⟩))
                  go_roundw
                  case rel => have hrel1 : CovRel L k wr (.int .i64 1) (.int .i64 ((k : Int) + 1)) wr := ⟨k + 1, 1, by go_num, by omega, rfl, fun h => absurd h (by omega), fun _ => rfl, rfl⟩; first | exact hrel1 | ((repeat with_reducible apply Exists.intro); exact ⟨hrel1, rfl⟩)
                  case measure => simp [intOf]; omega
              · obtain rfl := hm1 (by omega)
                have r1 := hhigh.out k (by omega) hkl
                clear hm0 hm1
                generalize fromK L k = fr at *
                generalize toK L k = tk at *
                have g1 : (Op.bytesLess fr.toList a.toList || fr.toList == a.toList) = false := by rw [le_or]; exact r1
                clear r1
                go_wp2_with (first | (go_at_call 9; refine (num_any _ _).mono ?_; rintro e w' ⟨rfl, rfl⟩) | (go_at_call 10; refine HGs.out.mono ?_; rintro e w' ⟨rfl, rfl⟩) | (go_at_call 16; refine HR.out.mono ?_; rintro e w' ⟨rfl, rfl⟩))
                go_roundw
                case rel => have hrel1 : CovRel L G wr (.int .i64 1) (.int .i64 ((k : Int) + 1)) wr := ⟨k + 1, 1, by go_num, by omega, rfl, fun h => absurd h (by omega), fun _ => rfl, rfl⟩; first | exact hrel1 | ((repeat with_reducible apply Exists.intro); exact ⟨hrel1, rfl⟩)
                case measure => simp [intOf]; omega
            · obtain rfl := hm1 (by omega)
              clear hm0 hm1
              go_wp2_with (first | (go_at_call 9; refine (num_any _ _).mono ?_; rintro e w' ⟨rfl, rfl⟩) | (go_at_call 10; refine HGs.out.mono ?_; rintro e w' ⟨rfl, rfl⟩))
              go_ret
              exact ⟨rfl, hbe⟩
  · have hx0 : (newE L == 0) = false := beq_eq_false_iff_ne.2 hE
    have hx1 : (newE L != 0) = true := by simp [hE]
    have HN := Lib.hid (fun w1 (hb1 : Below w.heap.size w w1) => dnew_no A c w.heap.size L w1 (hr.below hb1) hb1.size (by omega) hE)
    generalize newE L = x at *
    clear hE
    go_enter Try.func4, Try.ntmps4
    go_wp2_with fail
    refine HW.out.mono ?_
    clear HW
    rintro e w1 ⟨rfl, hb1⟩
    go_wp2_with fail
    refine (HN.out w1 hb1).mono ?_
    clear HN
    rintro e w2 ⟨rfl, hb2⟩
    have hbe := hb1.trans (hb2.mono hb1.size)
    clear hb1 hb2
    go_wp2_with (go_at_call 9; refine (num_any _ _).mono ?_; rintro e w' ⟨rfl, rfl⟩)
    go_ret
    exact ⟨rfl, hbe⟩
end Go.Proofs.Ythenjpenfemmbaa
