/- RlogMatch: the walk. -/
import Derived.Test.YtdcnfdhhflmdcaaRmA
import Derived.Test.YtdcnfdhhflmdcaaRmC
import Derived.IntWalk
namespace Go.Proofs.Ytdcnfdhhflmdcaa
open Go.RowKit
set_option linter.unusedSimpArgs false
set_option linter.unusedVariables false

/-- three logs, in an array of pointers -/
structure Three (B : Nat) (w : World) (g : Nat) (D : Nat → Nat) (F : Nat → List Nat) (L : Nat → List Ent) : Prop where
  arr : Blk w g 26 #[.pointer (some ⟨D 0, 0, none⟩), .pointer (some ⟨D 1, 0, none⟩), .pointer (some ⟨D 2, 0, none⟩)]
  log : ∀ i, i < 3 → IsLog 69 w (D i) (F i) 0 0 (L i)
  sep : ∀ i j, i < 3 → j < 3 → i ≠ j → ∀ k ∈ F i, k ∉ F j
  far : ∀ i, i < 3 → g ∉ F i
  low : ∀ i, i < 3 → ∀ k ∈ F i, B ≤ k
section
variable {B : Nat} {w w' : World} {g : Nat} {D : Nat → Nat} {F : Nat → List Nat} {L : Nat → List Ent}
theorem Three.ptr (h : Three B w g D F L) {i : Nat} (hi : i < 3) : w.cell? ⟨g, i, none⟩ = some (.pointer (some ⟨D i, 0, none⟩)) := by
  rw [h.arr.cell]
  rcases i with _ | _ | _ | i
  · rfl
  · rfl
  · rfl
  · omega
theorem Three.below (h : Three B w g D F L) (hb : Below w.heap.size w w') : Three B w' g D F L :=
  ⟨h.arr.below hb h.arr.lt, fun i hi => (h.log i hi).below hb, h.sep, h.far, h.low⟩
theorem Three.drewN (h : Three B w g D F L) (n : Nat) : Three B (w.drewN n) g D F L := h.below (below_drewN (Below.refl _ _) n)
theorem Three.step (h : Three B w g D F L) {i : Nat} (hi : i < 3) {l : List Ent} (hB : B ≤ w.heap.size) (hs : ∃ F', IsLog 69 w' (D i) F' 0 0 l ∧ Moves (F i) F' w w') : ∃ F', Three B w' g D F' (upd L i l) ∧ Kept (F i) w w' := by
  obtain ⟨F', hl, hm⟩ := hs
  refine ⟨upd F i F', ⟨hm.kept.blk h.arr (h.far i hi), fun j hj => ?_, fun j k hj hk hne x hx => ?_, fun j hj hm2 => ?_, fun j hj k hk => ?_⟩, hm.kept⟩
  · by_cases hji : j = i
    · subst hji; rw [upd_same, upd_same]; exact hl
    · rw [upd_other _ _ hji, upd_other _ _ hji]
      exact (h.log j hj).kept hm.kept (h.sep j i hj hi hji)
  · by_cases hji : j = i
    · subst hji
      rw [upd_same] at hx
      rw [upd_other _ _ (Ne.symm hne)]
      intro hxk
      rcases hm.foot x hx with h1 | h1
      · exact h.sep j k hj hk hne x h1 hxk
      · have := (h.log k hk).lt x hxk; omega
    · rw [upd_other _ _ hji] at hx
      by_cases hki : k = i
      · subst hki
        rw [upd_same]
        intro hxk
        rcases hm.foot x hxk with h1 | h1
        · exact h.sep j k hj hk hne x hx h1
        · have := (h.log j hj).lt x hx; omega
      · rw [upd_other _ _ hki]; exact h.sep j k hj hk hne x hx
  · by_cases hji : j = i
    · subst hji
      rw [upd_same] at hm2
      rcases hm.foot g hm2 with h1 | h1
      · exact h.far j hj h1
      · have := h.arr.lt; omega
    · rw [upd_other _ _ hji] at hm2; exact h.far j hj hm2
  · by_cases hji : j = i
    · subst hji
      rw [upd_same] at hk
      rcases hm.foot k hk with h1 | h1
      · exact h.low j hj k h1
      · omega
    · rw [upd_other _ _ hji] at hk; exact h.low j hj k hk
end
theorem rem_u64 (x : Int) (m : Nat) (hm : 0 < m) : ∃ a : Nat, a < m ∧ (IntKind.u64.wrap x).tmod (m : Int) = (a : Int) := by
  have h0 : 0 ≤ IntKind.u64.wrap x := by rw [IntKind.wrap_u64]; omega
  rw [Int.tmod_eq_emod_of_nonneg h0]
  have h1 := Int.emod_nonneg (IntKind.u64.wrap x) (show (m : Int) ≠ 0 by omega)
  have h2 := Int.emod_lt_of_pos (IntKind.u64.wrap x) (show (0 : Int) < (m : Int) by omega)
  exact ⟨(IntKind.u64.wrap x % (m : Int)).toNat, by omega, by omega⟩
def ARel (W : World) (g : Nat) (D : Nat → Nat) (T ld n : Nat) (i : Value) (wr : World) : Prop :=
  ∃ (j : Nat) (F : Nat → List Nat) (L : Nat → List Ent), i = .int .i64 j ∧ j ≤ n ∧ Inv T ld L ∧ Three W.heap.size wr g D F L ∧ Below W.heap.size W wr
def XRel (w : World) (n : Nat) (i : Value) (wr : World) : Prop := ∃ k : Nat, i = .int .i64 k ∧ k ≤ n ∧ Below w.heap.size w wr
def MRel (W : World) (g : Nat) (D : Nat → Nat) (t ld i : Value) (wr : World) : Prop :=
  ∃ (k T : Nat) (F : Nat → List Nat) (L : Nat → List Ent), i = .int .i64 k ∧ k ≤ 122 ∧ T ≤ k ∧ t = .int .i64 T ∧ Three W.heap.size wr g D F L ∧ Below W.heap.size W wr ∧
    ((ld = .int .i64 (-1) ∧ T = 0 ∧ L = fun _ => []) ∨ ∃ a : Nat, a < 3 ∧ ld = .int .i64 a ∧ Inv T a L)
set_option maxHeartbeats 4000000 in
set_option maxRecDepth 100000 in
theorem rlogMatch_any (A : Option Addr) (c : Nat) (P : List Int) (W : World) (hP : Reads W W.heap.size 1 A P.length (ic P)) (hn : P.length ≤ 17592186044416) :
    Calls Try.prog 3 #[.slice A P.length c] W fun e w' => e = .returned (.bool true) ∧ Below W.heap.size W w' := by
  have HP := Lib.hid hP
  clear hP
  go_enter Try.func3, Try.ntmps3
  go_wp2_with fail
  refine (works_any W).mono ?_
  rintro e w0 ⟨rfl, hb0⟩
  go_wp2_with fail
  refine (new_any _).mono ?_
  rintro e w1 ⟨rfl, hw1⟩
  have HW1 := Lib.hid hw1
  clear hw1
  go_wp2_with fail
  refine (new_any _).mono ?_
  rintro e w2 ⟨rfl, hw2⟩
  have HW2 := Lib.hid hw2
  clear hw2
  go_wp2_with fail
  refine (new_any _).mono ?_
  rintro e w3 ⟨rfl, hw3⟩
  have HW3 := Lib.hid hw3
  clear hw3
  have hw1 := HW1.out
  have hw2 := HW2.out
  have hw3 := HW3.out
  clear HW1 HW2 HW3
  obtain ⟨D, hD⟩ : ∃ D : Nat → Nat, D = fun i => if i = 0 then w0.heap.size else if i = 1 then w1.heap.size else w2.heap.size := ⟨_, rfl⟩
  have hD0 : w0.heap.size = D 0 := by rw [hD]; rfl
  have hD1 : w1.heap.size = D 1 := by rw [hD]; rfl
  have hD2 : w2.heap.size = D 2 := by rw [hD]; rfl
  have hz1 : w1.heap.size = w0.heap.size + 1 := by rw [hw1]; simp
  have hz2 : w2.heap.size = w0.heap.size + 2 := by rw [hw2]; simp [hz1]
  have hz3 : w3.heap.size = w0.heap.size + 3 := by rw [hw3]; simp [hz2]
  have hB1 : Below w0.heap.size w0 w1 := by rw [hw1]; exact below_alloc _ _
  have hB2 : Below w1.heap.size w1 w2 := by rw [hw2]; exact below_alloc _ _
  have hB3 : Below w2.heap.size w2 w3 := by rw [hw3]; exact below_alloc _ _
  have hI1 : IsLog 69 w1 (D 0) [D 0] 0 0 [] := by rw [← hD0, hw1]; exact new_is _ _
  have hI2 : IsLog 69 w2 (D 1) [D 1] 0 0 [] := by rw [← hD1, hw2]; exact new_is _ _
  have hI3 : IsLog 69 w3 (D 2) [D 2] 0 0 [] := by rw [← hD2, hw3]; exact new_is _ _
  have hB03 : Below W.heap.size W w3 := hb0.trans ((hB1.trans ((hB2.trans (hB3.mono hB2.size)).mono hB1.size)).mono hb0.size)
  have h3 : Three W.heap.size (w3.alloc (.cells #[.pointer (some ⟨D 0, 0, none⟩), .pointer (some ⟨D 1, 0, none⟩), .pointer (some ⟨D 2, 0, none⟩)] 26)) w3.heap.size D (fun i => [D i]) (fun _ => []) := by
    have ha := below_alloc w3 (.cells #[.pointer (some ⟨D 0, 0, none⟩), .pointer (some ⟨D 1, 0, none⟩), .pointer (some ⟨D 2, 0, none⟩)] 26)
    have hs0 := hb0.size
    refine ⟨Blk.new _ _ _, fun i hi => ?_, fun i j hi hj hne k hk => ?_, fun i hi hm => ?_, fun i hi k hk => ?_⟩
    · rcases i with _ | _ | _ | i
      · exact ((hI1.below hB2).below hB3).below ha
      · exact (hI2.below hB3).below ha
      · exact hI3.below ha
      · omega
    · rw [List.mem_singleton.1 hk, List.mem_singleton]
      rw [hD]
      rcases i with _ | _ | _ | i <;> rcases j with _ | _ | _ | j <;> simp at hne hi hj ⊢ <;> omega
    · have := List.mem_singleton.1 hm
      rw [hD] at this
      rcases i with _ | _ | _ | i <;> simp at this hi <;> omega
    · rw [List.mem_singleton.1 hk, hD]
      rcases i with _ | _ | _ | i <;> simp at hi ⊢ <;> omega
  have H3 := Lib.hid h3
  have HB03 := Lib.hid hB03
  rw [hD0, hD1, hD2]
  clear h3 hI1 hI2 hI3 hB1 hB2 hB3 hz1 hz2 hz3 hw1 hw2 hw3 hD0 hD1 hD2 hD hB03 hb0
  go_wp2
  obtain ⟨wA, hwA⟩ : ∃ wA, wA = w3.alloc (.cells #[.pointer (some ⟨D 0, 0, none⟩), .pointer (some ⟨D 1, 0, none⟩), .pointer (some ⟨D 2, 0, none⟩)] 26) := ⟨_, rfl⟩
  have HBA : Hid (Below W.heap.size W wA) := Lib.hid (by rw [hwA]; exact HB03.out.alloc HB03.out.size _)
  obtain ⟨g, hg⟩ : ∃ g, g = w3.heap.size := ⟨_, rfl⟩
  rw [← hwA, ← hg] at H3 ⊢
  clear hg hwA HB03
  go_loopw [4, 5, 6] (MRel W g D) (fun _ _ i _ => 123 - (intOf i).toNat)
  case atStart => exact ⟨0, 0, _, _, rfl, by omega, by omega, rfl, H3.out, HBA.out, .inl ⟨rfl, rfl, rfl⟩⟩
  case round =>
    obtain ⟨k, T, F, L, rfl, hk, hT, rfl, h3, hb, hI⟩ := hrel
    by_cases hgo : k + 2 < P.length ∧ k < 120
    · obtain ⟨hg1, hg2⟩ := hgo
      obtain ⟨ad, rfl, hadb, y0⟩ := HP.out.numb (k := k) (by omega)
      obtain ⟨ad', hA', _, y1⟩ := HP.out.numb (k := k + 1) (by omega)
      cases hA'
      obtain ⟨ad', hA', _, y2⟩ := HP.out.numb (k := k + 2) (by omega)
      cases hA'
      generalize gm P k = x0 at *
      generalize gm P (k + 1) = x1 at *
      generalize gm P (k + 2) = x2 at *
      have g0 : (k : Int) + 2 < (P.length : Int) := by omega
      have g1 : (k : Int) + 1 < (P.length : Int) := by omega
      have g2 : (k : Int) < 120 := by omega
      have g3 : (k : Int) < (P.length : Int) := by omega
      have g4 : (0 : Int) ≤ (k : Int) := by omega
      obtain ⟨ad', hA', _, y00⟩ := HP.out.numb (k := 0) (by omega)
      cases hA'
      obtain ⟨b, off, sp⟩ := ad
      obtain rfl : sp = none := by have := spot_none y00; simpa [Addr.add] using this
      clear y00
      rw [Addr.add_lit] at y0 y1 y2
      have HY1 := Lib.hid y1
      have hbW : b < W.heap.size := hadb
      obtain ⟨a, ha3, ea⟩ := rem_u64 x0 3 (by omega)
      obtain ⟨n, hn4, en⟩ := rem_u64 x2 4 (by omega)
      obtain ⟨r, hr4, er⟩ := rem_u64 x1 4 (by omega)
      have ea : (IntKind.u64.wrap x0).tmod 3 = (a : Int) := ea
      have en : (IntKind.u64.wrap x2).tmod 4 = (n : Int) := en
      have er : (IntKind.u64.wrap x1).tmod 4 = (r : Int) := er
      have HI := Lib.hid hI
      have H3 := Lib.hid h3
      clear hI h3 hg1 hadb
      have yb1 := (hb.cell (p := ⟨b, off + (k + 1), none⟩) hbW).trans y1
      have yb0 := (hb.cell (p := ⟨b, off + k, none⟩) hbW).trans y0
      have yb2 := (hb.cell (p := ⟨b, off + (k + 2), none⟩) hbW).trans y2
      have yb2' : wr.cell? ⟨b, off + (k + 1 + 1), none⟩ = some (.int .i64 x2) := yb2
      have HB := Lib.hid hb
      have a0 : (0 : Int) ≤ (a : Int) := by omega
      have a3 : (a : Int) < 3 := by omega
      have n0 : (0 : Int) ≤ (n : Int) := by omega
      have n4 : (n : Int) < 4 := by omega
      clear y0 y1 y2
      by_cases hr : r = 0
      · have z1 : ((r : Int) == 0) = true := by rw [hr]; rfl
        have z2 : decide ((a : Int) < 0) = false := decide_eq_false (by omega)
        have T0 : (T : Int) ≤ 122 := by omega
        have hld := ha3
        obtain ⟨TT, hTT⟩ : ∃ TT, TT = T + 1 := ⟨_, rfl⟩
        have hTk : TT ≤ k + 3 := by omega
        have eT : (T : Int) + 1 = (TT : Int) := by omega
        have hIn : Inv (TT : Int) a L := by
          rw [← eT]
          rcases HI.out with ⟨_, hT0, hL0⟩ | ⟨l0, _, _, h⟩
          · rw [hL0, hT0]; exact (Inv.start 0).next a
          · exact h.next a
        have HINV := Lib.hid hIn
        have HET := Lib.hid eT
        clear hIn HI hr eT hTT
        go_wp2
        rw [HET.out]
        go_loopw [9] (ARel W g D (TT : Nat) a n) (fun i _ => n - (intOf i).toNat)
        case atStart => exact ⟨0, F, L, rfl, Nat.zero_le _, HINV.out, H3.out, HB.out⟩
        case round =>
          clear H3 HB HINV
          obtain ⟨j, F, L, rfl, hj, hI, h3, hb⟩ := hrel
          have HINV := Lib.hid hI
          have H3 := Lib.hid h3
          have HB := Lib.hid hb
          have q0 := h3.ptr hld
          have d0 : (0 : Int) ≤ (a : Int) := by omega
          have d1 : (a : Int) < 3 := by omega
          clear hI h3
          by_cases hjn : j < n
          · have j1 : (j : Int) < (n : Int) := by omega
            have HA := Lib.hid (append_any (D a) (F a) 0 0 (L a) ⟨⟨((TT : Nat) : Int), 7, ((TT : Nat) : Int), j, 0, ⟨#[]⟩, 0, [], [], 0, 0, 0, k⟩, none, 0, none, 0⟩ wr (H3.out.log a hld) (fine_nil _ _ _ rfl rfl) (small_nil _ rfl rfl))
            unfold magg at HA
            go_wp2_with fail
            refine HA.out.mono ?_
            rintro e w1 ⟨rfl, hs⟩
            obtain ⟨F', h3', hk'⟩ := H3.out.step hld HB.out.size hs
            have hb' : Below W.heap.size W w1 := HB.out.trans (hk'.below HB.out.size (H3.out.low a hld))
            have hI' : Inv ((TT : Nat) : Int) a (upd L a (appL 0 0 (L a) ⟨((TT : Nat) : Int), 7, ((TT : Nat) : Int), j, 0, ⟨#[]⟩, 0, [], [], 0, 0, 0, k⟩)) := by
              unfold appL
              split
              · exact HINV.out.app hld _ rfl
              · exact HINV.out.same _
            have HI' := Lib.hid hI'
            have H3' := Lib.hid h3'
            have HB' := Lib.hid hb'
            clear hI' h3' hb' hs hk' HA
            go_wp2
            go_roundw
            case rel => exact ⟨j + 1, _, _, by go_num, by omega, HI'.out, H3'.out, HB'.out⟩
            case measure => simp [intOf]; omega
          · have j1 : ¬ (j : Int) < (n : Int) := by omega
            have hN := (H3.out.log a hld).few
            have HLL := Lib.hid (H3.out.log a hld)
            obtain ⟨l, hl⟩ : ∃ l, l = L a := ⟨_, rfl⟩
            rw [← hl] at HLL hN
            have HLS := Lib.hid hl
            clear hl
            obtain ⟨N, hNN⟩ : ∃ N, N = l.length := ⟨_, rfl⟩
            have HLA := Lib.hid (last_log HLL.out)
            unfold LastEnds lastI at HLA
            rw [← hNN, Int.zero_add] at HLA
            rw [← hNN] at hN
            obtain ⟨pv, hpv, epv⟩ := rem_u64 x1 (N + 1) (by omega)
            rw [show ((N + 1 : Nat) : Int) = (N : Int) + 1 by omega] at epv
            have eN : IntKind.u64.wrap ((N : Int) + 1) = (N : Int) + 1 := IntWalk.u64_in _ (by omega)
            have y1 : ∀ q, (wr.drewN q).cell? ⟨b, off + (k + 1), none⟩ = some (.int .i64 x1) := fun q => ((below_drewN HB.out q).cell (p := ⟨b, off + (k + 1), none⟩) hbW).trans HY1.out
            have hTE : termE 0 l (pv : Int) = 0 := termE_zero.2 (by omega)
            have HTL := Lib.hid (fun q => term_log (HLL.out.drewN q) (pv : Int))
            unfold TermEnds at HTL
            rw [hTE] at HTL
            obtain ⟨V, hV⟩ : ∃ V, V = termV 0 0 l (pv : Int) := ⟨_, rfl⟩
            rw [← hV] at HTL
            have HV := Lib.hid hV
            have hSE : sliceE 0 l ((pv : Int) + 1) = 0 := by unfold sliceE; rw [if_neg (by omega), if_neg (by omega)]
            have hSL : sliceL 0 l ((pv : Int) + 1) (1 + (n : Int)) = (l.drop pv).take (1 + n) := by
              unfold sliceL
              rw [if_pos hSE, show ((pv : Int) + 1 - 0 - 1).toNat = pv by omega, show (1 + (n : Int)).toNat = 1 + n by omega]
            have HSLL := Lib.hid (fun q => slice_log (HLL.out.drewN q) ((pv : Int) + 1) (1 + (n : Int)))
            have HSE := Lib.hid hSE
            have HSL := Lib.hid hSL
            have HNN := Lib.hid hNN
            have pv0 : (0 : Int) ≤ (pv : Int) := by omega
            have pv1 : (pv : Int) ≤ 512 := by omega
            have n1 : (n : Int) ≤ 4 := by omega
            clear hTE hV hSE hSL hNN
            go_wp2_with fail
            refine HLA.out.mono ?_
            rintro e w' ⟨rfl, q1, rfl⟩
            have y1q := y1 q1
            clear y1
            go_wp2_with fail
            refine (HTL.out q1).mono ?_
            rintro e w' ⟨rfl, q2, rfl⟩
            go_wp2_with fail
            refine (HSLL.out (q1 + q2)).mono ?_
            rintro e w1 ⟨A1, c1, ms, he, hms, hO, hb1⟩
            rw [HSE.out] at he
            rw [HSL.out] at hms
            subst he
            have HMS := Lib.hid hms
            have HO := Lib.hid hO
            have hBd : Below wr.heap.size wr w1 := (below_drewN (Below.refl _ _) (q1 + q2)).trans hb1
            have HBD := Lib.hid hBd
            clear hms hO hb1 hBd
            by_cases hal : a = a
            · have z5 : ((a : Int) != (a : Int)) = false := by rw [hal]; simp
              clear hal
              go_wp2
              go_roundw
              case rel => exact ⟨k + 3, _, F, L, by go_num, by omega, by omega, rfl, H3.out.below HBD.out, HB.out.trans (HBD.out.mono HB.out.size), .inr ⟨a, hld, rfl, HINV.out⟩⟩
              case measure => simp [intOf]; omega
            · exact absurd rfl hal
      · have z1 : ((r : Int) == 0) = false := beq_eq_false_iff_ne.2 (by omega)
        rcases HI.out with ⟨rfl, hT0, hL0⟩ | ⟨ld, hld, rfl, hIn⟩
        · have HT0 : Hid (T = 0 ∧ L = fun _ => []) := Lib.hid ⟨hT0, hL0⟩
          clear HI hr hT0 hL0
          go_wp2
          go_roundw
          case rel => exact ⟨k + 3, T, F, L, by go_num, by omega, by omega, rfl, H3.out, HB.out, .inl ⟨rfl, HT0.out.1, HT0.out.2⟩⟩
          case measure => simp [intOf]; omega
        · have z2 : decide ((ld : Int) < 0) = false := decide_eq_false (by omega)
          have hTk : T ≤ k + 3 := by omega
          have HINV := Lib.hid hIn
          clear HI hr hIn
          go_wp2
          go_loopw [9] (ARel W g D (T : Nat) ld n) (fun i _ => n - (intOf i).toNat)
          case atStart => exact ⟨0, F, L, rfl, Nat.zero_le _, HINV.out, H3.out, HB.out⟩
          case round =>
            clear H3 HB HINV
            obtain ⟨j, F, L, rfl, hj, hI, h3, hb⟩ := hrel
            have HINV := Lib.hid hI
            have H3 := Lib.hid h3
            have HB := Lib.hid hb
            have q0 := h3.ptr hld
            have d0 : (0 : Int) ≤ (ld : Int) := by omega
            have d1 : (ld : Int) < 3 := by omega
            clear hI h3
            by_cases hjn : j < n
            · have j1 : (j : Int) < (n : Int) := by omega
              have HA := Lib.hid (append_any (D ld) (F ld) 0 0 (L ld) ⟨⟨((T : Nat) : Int), 7, ((T : Nat) : Int), j, 0, ⟨#[]⟩, 0, [], [], 0, 0, 0, k⟩, none, 0, none, 0⟩ wr (H3.out.log ld hld) (fine_nil _ _ _ rfl rfl) (small_nil _ rfl rfl))
              unfold magg at HA
              go_wp2_with fail
              refine HA.out.mono ?_
              rintro e w1 ⟨rfl, hs⟩
              obtain ⟨F', h3', hk'⟩ := H3.out.step hld HB.out.size hs
              have hb' : Below W.heap.size W w1 := HB.out.trans (hk'.below HB.out.size (H3.out.low ld hld))
              have hI' : Inv ((T : Nat) : Int) ld (upd L ld (appL 0 0 (L ld) ⟨((T : Nat) : Int), 7, ((T : Nat) : Int), j, 0, ⟨#[]⟩, 0, [], [], 0, 0, 0, k⟩)) := by
                unfold appL
                split
                · exact HINV.out.app hld _ rfl
                · exact HINV.out.same _
              have HI' := Lib.hid hI'
              have H3' := Lib.hid h3'
              have HB' := Lib.hid hb'
              clear hI' h3' hb' hs hk' HA
              go_wp2
              go_roundw
              case rel => exact ⟨j + 1, _, _, by go_num, by omega, HI'.out, H3'.out, HB'.out⟩
              case measure => simp [intOf]; omega
            · have j1 : ¬ (j : Int) < (n : Int) := by omega
              have hN := (H3.out.log ld hld).few
              have HLL := Lib.hid (H3.out.log ld hld)
              obtain ⟨l, hl⟩ : ∃ l, l = L ld := ⟨_, rfl⟩
              rw [← hl] at HLL hN
              have HLS := Lib.hid hl
              clear hl
              obtain ⟨N, hNN⟩ : ∃ N, N = l.length := ⟨_, rfl⟩
              have HLA := Lib.hid (last_log HLL.out)
              unfold LastEnds lastI at HLA
              rw [← hNN, Int.zero_add] at HLA
              rw [← hNN] at hN
              obtain ⟨pv, hpv, epv⟩ := rem_u64 x1 (N + 1) (by omega)
              rw [show ((N + 1 : Nat) : Int) = (N : Int) + 1 by omega] at epv
              have eN : IntKind.u64.wrap ((N : Int) + 1) = (N : Int) + 1 := IntWalk.u64_in _ (by omega)
              have y1 : ∀ q, (wr.drewN q).cell? ⟨b, off + (k + 1), none⟩ = some (.int .i64 x1) := fun q => ((below_drewN HB.out q).cell (p := ⟨b, off + (k + 1), none⟩) hbW).trans HY1.out
              have hTE : termE 0 l (pv : Int) = 0 := termE_zero.2 (by omega)
              have HTL := Lib.hid (fun q => term_log (HLL.out.drewN q) (pv : Int))
              unfold TermEnds at HTL
              rw [hTE] at HTL
              obtain ⟨V, hV⟩ : ∃ V, V = termV 0 0 l (pv : Int) := ⟨_, rfl⟩
              rw [← hV] at HTL
              have HV := Lib.hid hV
              have hSE : sliceE 0 l ((pv : Int) + 1) = 0 := by unfold sliceE; rw [if_neg (by omega), if_neg (by omega)]
              have hSL : sliceL 0 l ((pv : Int) + 1) (1 + (n : Int)) = (l.drop pv).take (1 + n) := by
                unfold sliceL
                rw [if_pos hSE, show ((pv : Int) + 1 - 0 - 1).toNat = pv by omega, show (1 + (n : Int)).toNat = 1 + n by omega]
              have HSLL := Lib.hid (fun q => slice_log (HLL.out.drewN q) ((pv : Int) + 1) (1 + (n : Int)))
              have HSE := Lib.hid hSE
              have HSL := Lib.hid hSL
              have HNN := Lib.hid hNN
              have pv0 : (0 : Int) ≤ (pv : Int) := by omega
              have pv1 : (pv : Int) ≤ 512 := by omega
              have n1 : (n : Int) ≤ 4 := by omega
              clear hTE hV hSE hSL hNN
              go_wp2_with fail
              refine HLA.out.mono ?_
              rintro e w' ⟨rfl, q1, rfl⟩
              have y1q := y1 q1
              clear y1
              go_wp2_with fail
              refine (HTL.out q1).mono ?_
              rintro e w' ⟨rfl, q2, rfl⟩
              go_wp2_with fail
              refine (HSLL.out (q1 + q2)).mono ?_
              rintro e w1 ⟨A1, c1, ms, he, hms, hO, hb1⟩
              rw [HSE.out] at he
              rw [HSL.out] at hms
              subst he
              have HMS := Lib.hid hms
              have HO := Lib.hid hO
              have hBd : Below wr.heap.size wr w1 := (below_drewN (Below.refl _ _) (q1 + q2)).trans hb1
              have HBD := Lib.hid hBd
              clear hms hO hb1 hBd
              by_cases hal : a = ld
              · have z5 : ((a : Int) != (ld : Int)) = false := by rw [hal]; simp
                clear hal
                go_wp2
                go_roundw
                case rel => exact ⟨k + 3, _, F, L, by go_num, by omega, by omega, rfl, H3.out.below HBD.out, HB.out.trans (HBD.out.mono HB.out.size), .inr ⟨ld, hld, rfl, HINV.out⟩⟩
                case measure => simp [intOf]; omega
              · have z5 : ((a : Int) != (ld : Int)) = true := bne_iff_ne.2 (by omega)
                have h3d := H3.out.below HBD.out
                have HT := Lib.hid (try_any (D a) (F a) 0 0 (L a) (pv : Int) V A1 c1 ms w1 (h3d.log a ha3) HO.out.ents ⟨by have h1 := congrArg List.length HMS.out; rw [es_len, List.length_take] at h1; omega, HLL.out.small (fun e he => by rw [HMS.out] at he; exact List.mem_of_mem_drop (List.mem_of_mem_take he))⟩ (own_cap HO.out.row).1)
                rw [HMS.out, HV.out] at HT
                have q3 := h3d.ptr ha3
                have H3D := Lib.hid h3d
                have a0 : (0 : Int) ≤ (a : Int) := by omega
                have a1 : (a : Int) < 3 := by omega
                have HAL : Hid (a ≠ ld) := Lib.hid hal
                clear h3d hal
                have HV2 := HV.out
                subst HV2
                go_wp2_with fail
                refine HT.out.mono ?_
                rintro e w2 ⟨rfl, hs⟩
                have hBW1 : Below W.heap.size W w1 := HB.out.trans (HBD.out.mono HB.out.size)
                obtain ⟨F', h3', hk'⟩ := H3D.out.step ha3 hBW1.size hs
                have hb' : Below W.heap.size W w2 := hBW1.trans (hk'.below hBW1.size (H3D.out.low a ha3))
                have hI' : Inv ((T : Nat) : Int) ld (upd L a (tryR 0 0 (L a) (pv : Int) (termV 0 0 l (pv : Int)) ((l.drop pv).take (1 + n))).2) := by
                  have hm := HINV.out.mt a ld ha3 hld
                  rw [← HLS.out] at hm
                  obtain ⟨m, h | h⟩ := try_match (m := 1 + n) hm (prev := pv) (by rw [← HNN.out]; omega)
                  · rw [h]; exact HINV.out.same a
                  · rw [h, HLS.out]; exact HINV.out.pre hld a ha3 HAL.out m
                have HI' := Lib.hid hI'
                have H3' := Lib.hid h3'
                have HB' := Lib.hid hb'
                clear hI' h3' hb' hs hk' hBW1 HT
                go_wp2
                go_roundw
                case rel => exact ⟨k + 3, _, _, _, by go_num, by omega, by omega, rfl, H3'.out, HB'.out, .inr ⟨ld, hld, rfl, HI'.out⟩⟩
                case measure => simp [intOf]; omega
    · have hMt : ∀ a b, a < 3 → b < 3 → Mt (L a) (L b) := by
        rcases hI with ⟨_, _, hL⟩ | ⟨ld, _, _, h⟩
        · rw [hL]; exact fun _ _ _ _ => Mt.refl _
        · exact h.mt
      have HMT := Lib.hid hMt
      have H3 := Lib.hid h3
      have HB := Lib.hid hb
      have hz : decide ((k : Int) + 2 < (P.length : Int)) = false ∨ (decide ((k : Int) + 2 < (P.length : Int)) = true ∧ decide ((k : Int) < 120) = false) := by
        by_cases h1 : k + 2 < P.length
        · exact .inr ⟨decide_eq_true (by omega), decide_eq_false (by omega)⟩
        · exact .inl (decide_eq_false (by omega))
      clear hI h3 hMt hgo
      obtain ⟨wp, rfl⟩ : ∃ wp, wp = wr := ⟨_, rfl⟩
      rcases hz with z1 | ⟨z1, z2⟩
      all_goals
        go_wp2
        go_loopw [17] (XRel wp 3) (fun i _ => 3 - (intOf i).toNat)
        case atStart => exact ⟨0, rfl, by omega, Below.refl _ _⟩
        case round =>
          obtain ⟨a, rfl, ha, hbz⟩ := hrel
          by_cases ha3 : a < 3
          · have a3 : (a : Int) < 3 := by omega
            have a0 : (0 : Int) ≤ (a : Int) := by omega
            go_wp2
            go_loopw [18] (XRel wp a) (fun i _ => a - (intOf i).toNat)
            case atStart => exact ⟨0, rfl, by omega, hbz⟩
            case round =>
              clear hbz
              obtain ⟨b, rfl, hba, hbz⟩ := hrel
              by_cases hlt : b < a
              · have b3 : (b : Int) < 3 := by omega
                have b0 : (0 : Int) ≤ (b : Int) := by omega
                have b1 : (b : Int) < (a : Int) := by omega
                have h3z := (H3.out.below hbz).drewN 1
                have pa := h3z.ptr ha3
                have pb := h3z.ptr (show b < 3 by omega)
                have hgl := h3z.arr.lt
                have HC := Lib.hid (match_any (D a) (D b) (F a) (F b) (L a) (L b) wr.drew (h3z.log a ha3) (h3z.log b (by omega)) (HMT.out a b ha3 (by omega)))
                clear h3z
                have pa1 : wr.drew.cell? ⟨g, a, none⟩ = some (.pointer (some ⟨D a, 0, none⟩)) := pa
                have pb1 : wr.drew.cell? ⟨g, b, none⟩ = some (.pointer (some ⟨D b, 0, none⟩)) := pb
                go_wp2
                go_region_held3 (fun w' => w'.cell? ⟨g, a, none⟩ = some (.pointer (some ⟨D a, 0, none⟩)) ∧ w'.cell? ⟨g, b, none⟩ = some (.pointer (some ⟨D b, 0, none⟩))) (first | exact ⟨pa1, pb1⟩ | exact ⟨pa2, pb2⟩)
                  ((go_at_call 14; refine HC.out.mono ?_; rintro e w1 ⟨rfl, hbc⟩; have pa2 := (hbc.cell (p := ⟨g, a, none⟩) hgl).trans pa1; have pb2 := (hbc.cell (p := ⟨g, b, none⟩) hgl).trans pb1))
                have hbn : Below wp.heap.size wp w1 := hbz.trans (((below_drewN (Below.refl _ _) 1).trans hbc).mono hbz.size)
                go_wp2
                go_roundw
                case rel => exact ⟨b + 1, by go_num, by omega, hbn⟩
                case measure => simp [intOf]; omega
              · have b1 : ¬ (b : Int) < (a : Int) := by omega
                go_wp2
                go_roundw
                case rel => exact ⟨a + 1, by go_num, by omega, hbz⟩
                case measure => simp [intOf]; omega
          · have a3 : ¬ (a : Int) < 3 := by omega
            go_wp2
            go_ret
            exact ⟨rfl, HB.out.trans (hbz.mono HB.out.size)⟩
end Go.Proofs.Ytdcnfdhhflmdcaa
