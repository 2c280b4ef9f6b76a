/- Layer 12: DeleteFunc, walked. -/
import Derived.Test.YthenjpenfemmbaaDsD
namespace Go.Proofs.Ythenjpenfemmbaa
open Go.RowKit
set_option linter.unusedSimpArgs false
set_option linter.unusedVariables false

def keepW (p : Wrt → Bool) (l : List Wrt) : List Wrt := l.filter fun x => !p x
theorem keep_all {p : Wrt → Bool} {l : List Wrt} (h : ∀ i, i < l.length → p (gw l i) = false) : keepW p l = l := by
  unfold keepW
  rw [List.filter_eq_self]
  intro x hx
  obtain ⟨i, hi, rfl⟩ := List.mem_iff_getElem.1 hx
  rw [← gw_at hi, h i hi]
  rfl
theorem keep_take {p : Wrt → Bool} {l : List Wrt} {k : Nat} (hk : k ≤ l.length) (h : ∀ i, i < k → p (gw l i) = false) : keepW p (l.take k) = l.take k := by
  refine keep_all (fun i hi => ?_)
  rw [List.length_take] at hi
  have : gw (l.take k) i = gw l i := by
    rw [gw_at (by rw [List.length_take]; omega), gw_at (by omega), List.getElem_take]
  rw [this]
  exact h i (by omega)
theorem take_onW {l : List Wrt} {k : Nat} (h : k < l.length) : l.take (k + 1) = l.take k ++ [gw l k] := by rw [List.take_succ_eq_append_getElem h, gw_at h]
theorem keep_on {p : Wrt → Bool} {l : List Wrt} {k : Nat} (h : k < l.length) : keepW p (l.take (k + 1)) = keepW p (l.take k) ++ (if p (gw l k) then [] else [gw l k]) := by
  rw [take_onW h]
  unfold keepW
  rw [List.filter_append]
  cases hp : p (gw l k) <;> simp [hp]
def DelRel (p : Wrt → Bool) (l : List Wrt) (w : World) (d : Nat) (L : List ByteArray) (A : Option Addr) (c : Nat) (gr : Int) (b1 b2 g c2 : Nat) (i j : Value) (wr : World) : Prop :=
  ∃ (a b : Nat) (M : List Wrt), i = .int .i64 a ∧ j = .int .i64 b ∧ a < b ∧ b ≤ l.length ∧ M.length = l.length ∧ M.take a = keepW p (l.take b) ∧ M.drop b = l.drop b ∧
    wr.ownsRow 0 45 3 (.slice (some ⟨g, 0, none⟩) l.length c2) l.length (wc M) ∧ Kept [g] w wr ∧ ShEnv wr d L A c gr b1 b2
def DelEnds (p : Wrt → Bool) (l : List Wrt) (A : Option Addr) (c : Nat) (w : World) (e : Ending) (w' : World) : Prop :=
  e = .returned (.slice A (keepW p l).length c) ∧ w'.ownsRow 0 45 3 (.slice A (keepW p l).length c) (keepW p l).length (wc (keepW p l)) ∧ Kept (ob A) w w'
theorem gw_drop {l M : List Wrt} {b : Nat} (h : M.drop b = l.drop b) (hb : b < l.length) (hM : M.length = l.length) : gw M b = gw l b := by
  rw [gw_at hb, gw_at (by omega)]
  rw [List.drop_eq_getElem_cons hb, List.drop_eq_getElem_cons (by omega)] at h
  exact (List.cons.inj h).1
set_option maxHeartbeats 4000000 in
set_option maxRecDepth 100000 in
theorem wdelete_any (w : World) (d : Nat) (L : List ByteArray) (A : Option Addr) (c : Nat) (gr : Int) (b1 b2 : Nat) (h : ShEnv w d L A c gr b1 b2) (A2 : Option Addr) (c2 : Nat) (l : List Wrt) (hown : w.ownsRow 0 45 3 (.slice A2 l.length c2) l.length (wc l)) (hfar : ∀ k ∈ [d, b1, b2], k ∉ ob A2) (hfar2 : 0 < L.length → ∀ k ∈ ob A, k ∉ ob A2) (hl : l.length ≤ 1000000) :
    Calls Try.prog 29 #[.slice A2 l.length c2, .func (.func 28) #[] #[.pointer (some ⟨b1, 0, none⟩), .pointer (some ⟨b2, 0, none⟩)]] w (DelEnds (oth L gr) l A2 c2 w) := by
  have HI := Lib.hid (windex_any w d L A c gr b1 b2 h A2 c2 l (Reads.of_own hown) hl)
  go_enter Try.func29, Try.ntmps29
  go_wp2_with fail
  refine HI.out.mono ?_
  clear HI
  rintro e w1 ⟨r, rfl, hr, hb1⟩
  have hown1 := (Kept.of_below (S := []) hb1).own hown (by simp)
  have hE1 := h.below hb1
  rcases hr with ⟨rfl, hall⟩ | ⟨k, hkl, rfl, hpk, hno⟩
  · have hK := Lib.hid (keep_all hall)
    clear hall
    go_wp2
    go_ret
    unfold DelEnds
    rw [hK.out]
    exact ⟨rfl, hown1, Kept.of_below hb1⟩
  · obtain ⟨g, cap, hv, _, hgl⟩ := hown1.form (by omega)
    injection hv with hA _ hc
    subst hA hc
    have hcap := own_cap hown1
    have hc1 : l.length ≤ c2 := hcap.1
    have hkt := Lib.hid (keep_take (Nat.le_of_lt hkl) hno)
    have hkon := Lib.hid (keep_on (p := oth L gr) hkl)
    have hP := Lib.hid hpk
    have hne : ((k : Int) == -1) = false := by rw [beq_eq_false_iff_ne]; omega
    clear hno hpk hown h hcap
    go_wp2
    go_loopw [5, 6] (DelRel (oth L gr) l w d L A c gr b1 b2 g c2) (fun _ j _ => l.length - (intOf j).toNat)
    case atStart => exact ⟨k, k + 1, l, rfl, by go_num, by omega, by omega, rfl, by rw [hkon.out, hP.out, hkt.out]; simp, rfl, hown1, Kept.of_below hb1, hE1⟩
    case round =>
      obtain ⟨a, b, M, rfl, rfl, hab, hbl, hMl, hMt, hMd, hown, hkp, hE⟩ := hrel
      have HMT := Lib.hid hMt
      have HMD := Lib.hid hMd
      clear hown1 hE1 hMt hMd hkon hkt hP hb1
      by_cases hlt : b < l.length
      · obtain ⟨y0, y1, y2⟩ := wc_at (l := M) (i := b) (by omega)
        have x0 := (hown.cellAt (b * 3) (by omega)).trans y0
        have x1 := (hown.cellAt (b * 3 + 1) (by omega)).trans y1
        have x2 := (hown.cellAt (b * 3 + 2) (by omega)).trans y2
        rw [gw_drop HMD.out hlt hMl] at x0 x1 x2
        have f0 := hown.frozenAt (a * 3)
        have f1 := hown.frozenAt (a * 3 + 1)
        have f2 := hown.frozenAt (a * 3 + 2)
        clear y0 y1 y2
        obtain ⟨z0, z1, z2⟩ := wc_at (l := M) (i := a) (by omega)
        have u0 := (hown.cellAt (a * 3) (by omega)).trans z0
        have u1 := (hown.cellAt (a * 3 + 1) (by omega)).trans z1
        have u2 := (hown.cellAt (a * 3 + 2) (by omega)).trans z2
        clear z0 z1 z2
        have kb : (0 : Int) ≤ (b : Int) := by omega
        have kbU : (b : Int) < (l.length : Int) := by omega
        have ka : (0 : Int) ≤ (a : Int) := by omega
        have kaU : (a : Int) < (l.length : Int) := by omega
        obtain ⟨x, hx⟩ : ∃ x, x = gw l b := ⟨_, rfl⟩
        rw [← hx] at x0 x1 x2
        have hEv := hE.below (below_alloc wr (.cells #[.string x.key, .string x.val, .bool x.del] 45))
        have HC := Lib.hid (oth_any (wr.alloc (.cells #[.string x.key, .string x.val, .bool x.del] 45)) d L A c gr b1 b2 x hEv)
        have HX := Lib.hid hx
        clear hx
        cases hp : oth L gr x with
        | true =>
          rw [hp] at HC
          have HP := Lib.hid hp
          clear hp
          go_wp2_with fail
          refine HC.out.mono ?_
          rintro e w2 ⟨rfl, hb2⟩
          have hbb := (below_alloc wr (.cells #[.string x.key, .string x.val, .bool x.del] 45)).trans (hb2.mono (by simp))
          have hown2 := (Kept.of_below (S := []) hbb).own hown (by simp)
          have hE2 := hEv.below hb2
          clear x0 x1 x2 f0 f1 f2 u0 u1 u2
          go_wp2
          go_roundw
          case rel => exact ⟨a, b + 1, M, rfl, by go_num, by omega, by omega, hMl, by rw [HMT.out, keep_on hlt, ← HX.out, HP.out]; simp, by rw [← List.drop_drop, ← List.drop_drop, HMD.out], hown2, hkp.trans (Kept.of_below (S := []) hbb) (by simp), hE2⟩
          case measure => simp [intOf]; omega
        | false =>
          rw [hp] at HC
          have HP := Lib.hid hp
          clear hp
          go_wp2_with fail
          refine HC.out.mono ?_
          rintro e w2 ⟨rfl, hb2⟩
          have hbb := (below_alloc wr (.cells #[.string x.key, .string x.val, .bool x.del] 45)).trans (hb2.mono (by simp))
          have hown2 := (Kept.of_below (S := []) hbb).own hown (by simp)
          have hE2 := hEv.below hb2
          have hvb := (Blk.new wr 45 #[.string x.key, .string x.val, .bool x.del]).below hb2 (by simp)
          have v0 := hvb.cell 0
          have v1 := hvb.cell 1
          have v2 := hvb.cell 2
          simp only [List.getElem?_toArray, List.getElem?_cons_zero, List.getElem?_cons_succ] at v0 v1 v2
          clear x0 x1 x2 f0 f1 f2 u0 u1 u2
          obtain ⟨z0, z1, z2⟩ := wc_at (l := M) (i := a) (by omega)
          have u0 := (hown2.cellAt (a * 3) (by omega)).trans z0
          have u1 := (hown2.cellAt (a * 3 + 1) (by omega)).trans z1
          have u2 := (hown2.cellAt (a * 3 + 2) (by omega)).trans z2
          have f0 := hown2.frozenAt (a * 3)
          have f1 := hown2.frozenAt (a * 3 + 1)
          have f2 := hown2.frozenAt (a * 3 + 2)
          clear z0 z1 z2
          have hgne : wr.heap.size ≠ g := by have := hown.form (by omega); obtain ⟨g', _, hv', _, hlt'⟩ := this; simp at hv'; omega
          go_wp2
          obtain ⟨s0, _⟩ := hown2.stored (a * 3) (.string x.key)
          obtain ⟨s1, _⟩ := s0.stored (a * 3 + 1) (.string x.val)
          obtain ⟨s2, _⟩ := s1.stored (a * 3 + 2) (.bool x.del)
          rw [wc_set M x a (by omega)] at s2
          have hk3 : Kept [g] w2 (((w2.setCell ⟨g, a * 3, none⟩ (.string x.key)).setCell ⟨g, a * 3 + 1, none⟩ (.string x.val)).setCell ⟨g, a * 3 + 2, none⟩ (.bool x.del)) :=
            (((Kept.refl _ _).setCell _ (.inl (by simp))).setCell _ (.inl (by simp))).setCell _ (.inl (by simp))
          have hE3 := hE2.kept hk3 (fun k hk => by have := hfar k hk; simpa [ob] using this) (fun h0 k hk => by have := hfar2 h0 k hk; simpa [ob] using this)
          refine ⟨⟨a + 1, b + 1, M.set a x, by go_num, by go_num, by omega, by omega, by rw [List.length_set]; exact hMl, ?_, ?_, s2, (hkp.trans (Kept.of_below (S := []) hbb) (by simp)).trans hk3 (fun _ hx => .inl hx), hE3⟩, by simp [intOf]; omega⟩
          · rw [take_onW (by rw [List.length_set]; omega), List.take_set_of_le (Nat.le_refl _), HMT.out, keep_on hlt, ← HX.out, HP.out, gw_at (by rw [List.length_set]; omega), List.getElem_set_self]
            simp
          · rw [List.drop_set_of_lt (by omega), ← List.drop_drop, ← List.drop_drop, HMD.out]
      · have hb : b = l.length := by omega
        have hfin := HMT.out
        rw [hb, List.take_length] at hfin
        have hal : (keepW (oth L gr) l).length = a := by rw [← hfin, List.length_take]; omega
        obtain ⟨w', hcl, hown', hk'⟩ := run_clear_tail wr g c2 M a (by omega) (by rw [hMl]; exact hown) 0 (c2 - a)
        rw [hMl] at hcl
        rw [hfin] at hown'
        have HAL := Lib.hid hal
        have hac : ¬ c2 = a := by omega
        have hac2 : (c2 == a) = false := by rw [beq_eq_false_iff_ne]; exact hac
        have ka : (0 : Int) ≤ (a : Int) := by omega
        have kaU : (a : Int) ≤ (l.length : Int) := by omega
        have kaC : (a : Int) ≤ (c2 : Int) := by omega
        clear hfin hal hown hE hfar hfar2 hkl hgl
        go_wp2
        go_ret
        unfold DelEnds
        rw [HAL.out]
        exact ⟨rfl, hown', hkp.trans hk' (fun _ hx => .inl hx)⟩
end Go.Proofs.Ythenjpenfemmbaa
