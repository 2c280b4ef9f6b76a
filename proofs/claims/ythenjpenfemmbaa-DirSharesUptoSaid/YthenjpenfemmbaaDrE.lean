/- Layer 12: the directory's own calls: how many groups, a key's group, what is wrong with a key, a group's range. -/
import Derived.Test.YthenjpenfemmbaaDrD
namespace Go.Proofs.Ythenjpenfemmbaa
open Go.RowKit
set_option linter.unusedSimpArgs false
set_option linter.unusedVariables false

theorem nan38 (s : ByteArray) (w : World) : Calls Try.prog 38 #[.string s] w fun e w' => e = .returned (.bool false) ∧ w = w' := by
  go_enter Try.func38, Try.ntmps38
  go_wp2
  go_ret
  exact ⟨by simp, rfl⟩
theorem nan34 (s : ByteArray) (w : World) : Calls Try.prog 34 #[.string s] w fun e w' => e = .returned (.bool false) ∧ w = w' := by
  go_enter Try.func34, Try.ntmps34
  go_wp2
  go_ret
  exact ⟨by simp, rfl⟩
theorem less_any (a b : ByteArray) (w : World) : Calls Try.prog 33 #[.string a, .string b] w fun e w' => e = .returned (.bool (bl a b)) ∧ w = w' := by
  go_enter Try.func33, Try.ntmps33
  go_wp2_with (go_at_call 38; refine (nan38 _ _).mono ?_; rintro e w' ⟨rfl, rfl⟩)
  go_ret
  exact ⟨rfl, rfl⟩

/-- is the key itself a first key? -/
def fndB (L : List ByteArray) (s : ByteArray) : Bool := decide (cntL L s < L.length ∧ gx L (cntL L s) = s)
def HalfRel (L : List ByteArray) (s : ByteArray) (i j : Value) : Prop :=
  ∃ lo hi : Nat, i = .int .i64 lo ∧ j = .int .i64 hi ∧ lo ≤ hi ∧ hi ≤ L.length ∧ (∀ t, t < lo → bl (gx L t) s = true) ∧ (∀ t, hi ≤ t → t < L.length → bl (gx L t) s = false)
theorem eq_toList (a b : ByteArray) : (a.toList == b.toList) = decide (a = b) := by
  rw [Bool.eq_iff_iff]
  simp only [beq_iff_eq, decide_eq_true_eq]
  exact ⟨toList_inj, fun h => by rw [h]⟩
/-- below every one that is behind a greater one -/
theorem bl_le_of {L : List ByteArray} (hR : Rises L) {s : ByteArray} {i j : Nat} (hij : i ≤ j) (hj : j < L.length) (h : bl (gx L j) s = true) : bl (gx L i) s = true := by
  by_cases e : i = j
  · rw [e]; exact h
  · exact bl_lt (hR.lt i j (by omega) hj) h
def Search (L : List ByteArray) (s : ByteArray) (w : World) (e : Ending) (w' : World) : Prop := e = .returned (.tuple #[.int .i64 (cntL L s), .bool (fndB L s)]) ∧ w = w'
set_option maxHeartbeats 4000000 in
set_option maxRecDepth 100000 in
theorem search_any (A : Option Addr) (c B : Nat) (L : List ByteArray) (s : ByteArray) (w : World) (hr : Reads w B 1 A L.length (sc L)) (hR : Rises L) :
    Calls Try.prog 27 #[.slice A L.length c, .string s] w (Search L s w) := by
  have hfew := hR.few
  go_enter Try.func27, Try.ntmps27
  go_wp2
  go_loop [7, 8] (HalfRel L s) (fun i j => (intOf j - intOf i).toNat)
  case atStart => exact ⟨0, L.length, rfl, rfl, Nat.zero_le _, Nat.le_refl _, fun t h => absurd h (by omega), fun t h h' => absurd h (by omega)⟩
  case round =>
    obtain ⟨lo, hi, rfl, rfl, hle, hhi, h1, h2⟩ := hrel
    by_cases hlt : lo < hi
    · have hm : (lo + hi) / 2 < L.length := by omega
      obtain ⟨ad, rfl, _, hcell⟩ := hr.text hm
      have HL := Lib.hid (less_any (gx L ((lo + hi) / 2)) s w)
      have hlt2 : decide ((lo : Int) < hi) = true := decide_eq_true (by omega)
      have hlt3 : decide (lo < hi) = true := decide_eq_true (by omega)
      cases hb : bl (gx L ((lo + hi) / 2)) s with
      | true =>
        have H1 := Lib.hid (fun t (ht : t < (lo + hi) / 2 + 1) => bl_le_of hR (i := t) (by omega) hm hb)
        have H2 := Lib.hid h2
        rw [hb] at HL
        clear h1 h2 hb
        go_wp2_with (go_at_call 33; refine HL.out.mono ?_; rintro e w' ⟨rfl, rfl⟩)
        go_round
        case rel => exact ⟨(lo + hi) / 2 + 1, hi, by go_num, rfl, by omega, hhi, H1.out, H2.out⟩
        case measure => simp [intOf]; omega
      | false =>
        have H1 := Lib.hid h1
        have H2 : Hid (∀ t, (lo + hi) / 2 ≤ t → t < L.length → bl (gx L t) s = false) := Lib.hid (fun t ht htl => by
          cases hx : bl (gx L t) s with
          | false => rfl
          | true => rw [bl_le_of hR ht htl hx] at hb; cases hb)
        rw [hb] at HL
        clear h1 h2 hb
        go_wp2_with (go_at_call 33; refine HL.out.mono ?_; rintro e w' ⟨rfl, rfl⟩)
        go_round
        case rel => exact ⟨lo, (lo + hi) / 2, rfl, by go_num, by omega, by omega, H1.out, H2.out⟩
        case measure => simp [intOf]; omega
    · obtain rfl : lo = hi := by omega
      have hends := Lib.hid (half_ends hR hhi h1 h2)
      clear h1 h2
      have hlt2 : decide ((lo : Int) < lo) = false := decide_eq_false (by omega)
      by_cases hn : lo < L.length
      · obtain ⟨ad, rfl, _, hcell⟩ := hr.text hn
        have hlt4 : decide ((lo : Int) < L.length) = true := decide_eq_true (by omega)
        by_cases heq : gx L lo = s
        · have hq : ((gx L lo).toList == s.toList) = true := by rw [eq_toList]; exact decide_eq_true heq
          have hF := Lib.hid (show fndB L s = true by unfold fndB; rw [hends.out.1]; exact decide_eq_true ⟨hn, heq⟩)
          have hQ := Lib.hid heq
          clear heq
          go_wp2_with (go_at_call 34; refine (nan34 _ _).mono ?_; rintro e w' ⟨rfl, rfl⟩)
          go_ret2
          exact ⟨by rw [hF.out, hends.out.1]; rfl, rfl⟩
        · have hq : ((gx L lo).toList == s.toList) = false := by rw [eq_toList]; exact decide_eq_false heq
          have hF := Lib.hid (show fndB L s = false by unfold fndB; rw [hends.out.1]; exact decide_eq_false (fun h => heq h.2))
          clear heq
          go_wp2_with (go_at_call 34; refine (nan34 _ _).mono ?_; rintro e w' ⟨rfl, rfl⟩)
          go_ret2
          exact ⟨by rw [hF.out, hends.out.1]; rfl, rfl⟩
      · have hlt4 : decide ((lo : Int) < L.length) = false := decide_eq_false (by omega)
        have hF := Lib.hid (show fndB L s = false by unfold fndB; rw [hends.out.1]; exact decide_eq_false (fun h => hn h.1))
        go_wp2_with (go_at_call 34; refine (nan34 _ _).mono ?_; rintro e w' ⟨rfl, rfl⟩)
        go_ret2
        exact ⟨by rw [hF.out, hends.out.1]; rfl, rfl⟩
theorem cnt_found {L : List ByteArray} (hR : Rises L) {s : ByteArray} : (fndB L s = true → cntE L s = cntL L s + 1) ∧ (fndB L s = false → cntE L s = cntL L s) := by
  have hk : cntL L s ≤ L.length := List.countP_le_length
  -- the place where the keys ahead of s end
  have place : ∃ k, k ≤ L.length ∧ (∀ t, t < k → bl (gx L t) s = true) ∧ (∀ t, k ≤ t → t < L.length → bl (gx L t) s = false) := by
    have : ∀ n, n ≤ L.length → (∃ k, k ≤ n ∧ (∀ t, t < k → bl (gx L t) s = true) ∧ (∀ t, k ≤ t → t < n → bl (gx L t) s = false)) := by
      intro n
      induction n with
      | zero => intro _; exact ⟨0, Nat.le_refl _, fun t h => absurd h (by omega), fun t h h' => absurd h' (by omega)⟩
      | succ n ih =>
        intro hn
        obtain ⟨k, hk, h1, h2⟩ := ih (by omega)
        cases hb : bl (gx L n) s with
        | true => exact ⟨n + 1, Nat.le_refl _, fun t ht => bl_le_of hR (by omega) (by omega) hb, fun t h h' => absurd h (by omega)⟩
        | false => exact ⟨k, by omega, h1, fun t h h' => by
            by_cases e : t = n
            · rw [e]; exact hb
            · exact h2 t h (by omega)⟩
    exact this _ (Nat.le_refl _)
  obtain ⟨k, hkl, h1, h2⟩ := place
  obtain ⟨e1, e2, e3⟩ := half_ends hR hkl h1 h2
  unfold fndB
  rw [e1]
  constructor
  · intro h
    obtain ⟨a, b⟩ := of_decide_eq_true h
    exact e2 a b
  · intro h
    refine e3 (fun a b => ?_)
    exact absurd ⟨a, b⟩ (of_decide_eq_false h)

set_option maxHeartbeats 1000000 in
theorem groups_any (d : Nat) (A : Option Addr) (c : Nat) (L : List ByteArray) (w : World) (h : IsD w d L A c) (hl : L.length < 8) :
    Calls Try.prog 10 #[.pointer (some ⟨d, 0, none⟩)] w fun e w' => e = .returned (.int .i64 (L.length + 1)) ∧ w = w' := by
  have c0 := h.blk.cell 0
  simp only [List.getElem?_toArray, List.getElem?_cons_zero] at c0
  go_enter Try.func10, Try.ntmps10
  go_wp2
  go_ret
  exact ⟨rfl, rfl⟩
set_option maxHeartbeats 1000000 in
theorem rgroups_any (A : Option Addr) (c : Nat) (L : List ByteArray) (w : World) (hl : L.length < 8) :
    Calls Try.prog 11 #[.agg #[.slice A L.length c]] w fun e w' => e = .returned (.int .i64 (L.length + 1)) ∧ Below w.heap.size w w' := by
  go_enter Try.func11, Try.ntmps11
  go_wp2
  go_ret
  exact ⟨rfl, (Below.refl _ _).alloc (Nat.le_refl _) _⟩
set_option maxHeartbeats 2000000 in
theorem group_any (d : Nat) (A : Option Addr) (c : Nat) (L : List ByteArray) (s : ByteArray) (w : World) (h : IsD w d L A c) (hR : Rises L) :
    Calls Try.prog 12 #[.pointer (some ⟨d, 0, none⟩), .string s] w fun e w' => e = .returned (.int .i64 (grp L s)) ∧ w = w' := by
  have c0 := h.blk.cell 0
  simp only [List.getElem?_toArray, List.getElem?_cons_zero] at c0
  have hfew := hR.few
  have hcl : cntL L s ≤ L.length := List.countP_le_length
  have HS := Lib.hid (search_any A c w.heap.size L s w h.row hR)
  cases hk : keyB s with
  | false =>
    have HG := Lib.hid (show grp L s = -1 by unfold grp; rw [hk]; rfl)
    have HK := key_false s w hk
    clear hk
    go_enter Try.func12, Try.ntmps12
    go_wp2_with (go_at_call 25; refine HK.mono ?_; rintro e w' ⟨rfl, rfl⟩)
    go_ret
    exact ⟨by rw [HG.out]; rfl, rfl⟩
  | true =>
    have HK := key_true s w hk
    cases hf : fndB L s with
    | true =>
      have HG := Lib.hid (show grp L s = (cntL L s : Int) + 1 by unfold grp; rw [hk, (cnt_found hR).1 hf]; rfl)
      have HF := Lib.hid hf
      clear hk hf
      go_enter Try.func12, Try.ntmps12
      go_wp2_with (first | (go_at_call 25; refine HK.mono ?_; rintro e w' ⟨rfl, rfl⟩) | (go_at_call 27; refine HS.out.mono ?_; rintro e w' ⟨rfl, rfl⟩; rw [HF.out]))
      go_ret
      exact ⟨by rw [HG.out]; rfl, rfl⟩
    | false =>
      have HG := Lib.hid (show grp L s = (cntL L s : Int) by unfold grp; rw [hk, (cnt_found hR).2 hf]; rfl)
      have HF := Lib.hid hf
      clear hk hf
      go_enter Try.func12, Try.ntmps12
      go_wp2_with (first | (go_at_call 25; refine HK.mono ?_; rintro e w' ⟨rfl, rfl⟩) | (go_at_call 27; refine HS.out.mono ?_; rintro e w' ⟨rfl, rfl⟩; rw [HF.out]))
      go_ret
      exact ⟨by rw [HG.out]; rfl, rfl⟩
set_option maxHeartbeats 1000000 in
theorem dkey_any (d : Nat) (s : ByteArray) (w : World) :
    Calls Try.prog 15 #[.pointer (some ⟨d, 0, none⟩), .string s] w fun e w' => e = .returned (.int .i64 (if keyB s then 0 else 120)) ∧ w = w' := by
  cases hk : keyB s with
  | false =>
    have HK := key_false s w hk
    clear hk
    go_enter Try.func15, Try.ntmps15
    go_wp2_with (go_at_call 25; refine HK.mono ?_; rintro e w' ⟨rfl, rfl⟩)
    go_ret
    exact ⟨rfl, rfl⟩
  | true =>
    have HK := key_true s w hk
    clear hk
    go_enter Try.func15, Try.ntmps15
    go_wp2_with (go_at_call 25; refine HK.mono ?_; rintro e w' ⟨rfl, rfl⟩)
    go_ret
    exact ⟨rfl, rfl⟩
end Go.Proofs.Ythenjpenfemmbaa
