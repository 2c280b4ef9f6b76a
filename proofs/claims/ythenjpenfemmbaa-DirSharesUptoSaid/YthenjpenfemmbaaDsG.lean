/- Layer 12: Range and Share of the reference, Range out of bounds. -/
import Derived.Test.YthenjpenfemmbaaDsF
import Derived.Test.YthenjpenfemmbaaDrH
namespace Go.Proofs.Ythenjpenfemmbaa
open Go.RowKit
set_option linter.unusedSimpArgs false
set_option linter.unusedVariables false

/-- Range's answer -/
def rngA (L : List ByteArray) (g : Int) : ByteArray := if 0 ≤ g ∧ g ≤ L.length then fromK L g.toNat else E0
def rngB (L : List ByteArray) (g : Int) : ByteArray := if 0 ≤ g ∧ g ≤ L.length then toK L g.toNat else E0
def rngE (L : List ByteArray) (g : Int) : Int := if 0 ≤ g ∧ g ≤ L.length then 0 else 2
def RangeOf (L : List ByteArray) (g : Int) (w : World) (e : Ending) (w' : World) : Prop := e = .returned (.tuple #[.string (rngA L g), .string (rngB L g), .int .i64 (rngE L g)]) ∧ w = w'
def RRangeOf (L : List ByteArray) (g : Int) (w : World) (e : Ending) (w' : World) : Prop := e = .returned (.tuple #[.string (rngA L g), .string (rngB L g), .int .i64 (rngE L g)]) ∧ Below w.heap.size w w'
set_option maxHeartbeats 2000000 in
theorem range_any (d : Nat) (A : Option Addr) (c : Nat) (L : List ByteArray) (g : Int) (w : World) (h : IsD w d L A c) (hfew : L.length < 8) :
    Calls Try.prog 16 #[.pointer (some ⟨d, 0, none⟩), .int .i64 g] w (RangeOf L g w) := by
  by_cases hg : 0 ≤ g ∧ g ≤ L.length
  · obtain ⟨k, rfl⟩ := Int.eq_ofNat_of_zero_le hg.1
    have := range_in d A c L k w h hfew (by omega)
    unfold RangeOf rngA rngB rngE
    rw [if_pos hg, if_pos hg, if_pos hg]
    exact this
  · have HE : Hid (rngA L g = E0 ∧ rngB L g = E0 ∧ rngE L g = 2) := Lib.hid (by unfold rngA rngB rngE; rw [if_neg hg, if_neg hg, if_neg hg]; exact ⟨rfl, rfl, rfl⟩)
    by_cases h0 : g < 0
    · have z1 : decide (g < 0) = true := decide_eq_true h0
      clear hg
      go_enter Try.func16, Try.ntmps16
      go_wp2_with (go_at_call 10; refine (groups_any d _ c L _ h hfew).mono ?_; rintro e w' ⟨rfl, rfl⟩)
      go_ret3
      unfold RangeOf
      rw [HE.out.1, HE.out.2.1, HE.out.2.2]
      exact ⟨rfl, rfl⟩
    · have z1 : decide (g < 0) = false := decide_eq_false h0
      have z2 : decide ((L.length : Int) + 1 ≤ g) = true := decide_eq_true (by omega)
      clear hg
      go_enter Try.func16, Try.ntmps16
      go_wp2_with (go_at_call 10; refine (groups_any d _ c L _ h hfew).mono ?_; rintro e w' ⟨rfl, rfl⟩)
      go_ret3
      unfold RangeOf
      rw [HE.out.1, HE.out.2.1, HE.out.2.2]
      exact ⟨rfl, rfl⟩
set_option maxHeartbeats 4000000 in
set_option maxRecDepth 100000 in
theorem rrange_any (A : Option Addr) (c B : Nat) (L : List ByteArray) (g : Int) (w : World) (hr : Reads w B 1 A L.length (sc L)) (hB : B ≤ w.heap.size) (hfew : L.length < 8) :
    Calls Try.prog 18 #[.agg #[.slice A L.length c], .int .i64 g] w (RRangeOf L g w) := by
  have hb0 := below_alloc w (.cells #[.slice A L.length c] 28)
  have hx0 := Blk.new w 28 #[.slice A L.length c]
  have c0 := hx0.cell 0
  simp only [List.getElem?_toArray, List.getElem?_cons_zero] at c0
  by_cases hg : 0 ≤ g ∧ g ≤ L.length
  · obtain ⟨k, rfl⟩ := Int.eq_ofNat_of_zero_le hg.1
    have HE : Hid (rngA L k = fromK L k ∧ rngB L k = toK L k ∧ rngE L k = 0) := Lib.hid (by unfold rngA rngB rngE; rw [if_pos hg, if_pos hg, if_pos hg]; exact ⟨rfl, rfl, rfl⟩)
    have hkl : k ≤ L.length := by omega
    have z1 : decide ((k : Int) < 0) = false := decide_eq_false (by omega)
    have z2 : decide ((L.length : Int) + 1 ≤ (k : Int)) = false := decide_eq_false (by omega)
    have z3 : ¬ ((k : Int) < 0) := by omega
    clear hg
    by_cases h0 : 0 < k
    · have h1 : 1 ≤ k := h0
      have hF := Lib.hid (show fromK L k = gx L (k - 1) by unfold fromK; rw [if_pos h0])
      obtain ⟨ad, rfl, had, hcell⟩ := hr.text (k := k - 1) (by omega)
      by_cases h2 : k < L.length
      · obtain ⟨ad', e', _, hcell2⟩ := hr.text (k := k) h2
        cases e'
        have hT := Lib.hid (show toK L k = gx L k by unfold toK; rw [if_pos h2])
        go_enter Try.func18, Try.ntmps18
        go_wp2_with (go_at_call 11; refine (rgroups_any _ c L _ hfew).mono ?_; rintro e w1 ⟨rfl, hb1⟩; have c1 := (hx0.below hb1 hx0.lt).cell 0; simp only [List.getElem?_toArray, List.getElem?_cons_zero] at c1; have hbb := hb0.trans (hb1.mono hb0.size); obtain ⟨adx, ex, _, hc3⟩ := ((hr.below (hbb.mono hB))).text (k := k - 1) (by omega); cases ex; obtain ⟨ady, ey, _, hc4⟩ := ((hr.below (hbb.mono hB))).text (k := k) h2; cases ey)
        go_ret3
        unfold RRangeOf
        rw [HE.out.1, HE.out.2.1, HE.out.2.2, hF.out, hT.out]
        exact ⟨rfl, hbb⟩
      · have hT := Lib.hid (show toK L k = E0 by unfold toK; rw [if_neg h2])
        have h3 : L.length ≤ k := by omega
        go_enter Try.func18, Try.ntmps18
        go_wp2_with (go_at_call 11; refine (rgroups_any _ c L _ hfew).mono ?_; rintro e w1 ⟨rfl, hb1⟩; have c1 := (hx0.below hb1 hx0.lt).cell 0; simp only [List.getElem?_toArray, List.getElem?_cons_zero] at c1; have hbb := hb0.trans (hb1.mono hb0.size); obtain ⟨adx, ex, _, hc3⟩ := ((hr.below (hbb.mono hB))).text (k := k - 1) (by omega); cases ex)
        go_ret3
        unfold RRangeOf
        rw [HE.out.1, HE.out.2.1, HE.out.2.2, hF.out, hT.out]
        exact ⟨rfl, hbb⟩
    · have hF := Lib.hid (show fromK L k = E0 by unfold fromK; rw [if_neg h0])
      have hq3 : decide (0 < (k : Int)) = false := decide_eq_false (by omega)
      have hq4 : decide (0 < k) = false := decide_eq_false h0
      by_cases h2 : k < L.length
      · obtain ⟨ad, rfl, _, hcell2⟩ := hr.text (k := k) h2
        have hT := Lib.hid (show toK L k = gx L k by unfold toK; rw [if_pos h2])
        go_enter Try.func18, Try.ntmps18
        go_wp2_with (go_at_call 11; refine (rgroups_any _ c L _ hfew).mono ?_; rintro e w1 ⟨rfl, hb1⟩; have c1 := (hx0.below hb1 hx0.lt).cell 0; simp only [List.getElem?_toArray, List.getElem?_cons_zero] at c1; have hbb := hb0.trans (hb1.mono hb0.size); obtain ⟨ady, ey, _, hc4⟩ := ((hr.below (hbb.mono hB))).text (k := k) h2; cases ey)
        go_ret3
        unfold RRangeOf
        rw [HE.out.1, HE.out.2.1, HE.out.2.2, hF.out, hT.out]
        exact ⟨rfl, hbb⟩
      · have hT := Lib.hid (show toK L k = E0 by unfold toK; rw [if_neg h2])
        have h3 : L.length ≤ k := by omega
        go_enter Try.func18, Try.ntmps18
        go_wp2_with (go_at_call 11; refine (rgroups_any _ c L _ hfew).mono ?_; rintro e w1 ⟨rfl, hb1⟩; have c1 := (hx0.below hb1 hx0.lt).cell 0; simp only [List.getElem?_toArray, List.getElem?_cons_zero] at c1; have hbb := hb0.trans (hb1.mono hb0.size))
        go_ret3
        unfold RRangeOf
        rw [HE.out.1, HE.out.2.1, HE.out.2.2, hF.out, hT.out]
        exact ⟨rfl, hbb⟩
  · have HE : Hid (rngA L g = E0 ∧ rngB L g = E0 ∧ rngE L g = 2) := Lib.hid (by unfold rngA rngB rngE; rw [if_neg hg, if_neg hg, if_neg hg]; exact ⟨rfl, rfl, rfl⟩)
    by_cases h0 : g < 0
    · have z1 : decide (g < 0) = true := decide_eq_true h0
      clear hg
      go_enter Try.func18, Try.ntmps18
      go_wp2
      go_ret3
      unfold RRangeOf
      rw [HE.out.1, HE.out.2.1, HE.out.2.2]
      exact ⟨rfl, hb0⟩
    · have z1 : decide (g < 0) = false := decide_eq_false h0
      have z2 : decide ((L.length : Int) + 1 ≤ g) = true := decide_eq_true (by omega)
      clear hg
      go_enter Try.func18, Try.ntmps18
      go_wp2_with (go_at_call 11; refine (rgroups_any _ c L _ hfew).mono ?_; rintro e w1 ⟨rfl, hb1⟩; have hbb := hb0.trans (hb1.mono hb0.size))
      go_ret3
      unfold RRangeOf
      rw [HE.out.1, HE.out.2.1, HE.out.2.2]
      exact ⟨rfl, hbb⟩
end Go.Proofs.Ythenjpenfemmbaa
