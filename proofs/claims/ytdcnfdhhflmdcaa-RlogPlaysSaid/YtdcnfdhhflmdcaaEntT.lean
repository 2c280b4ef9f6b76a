/- the reference's log: Slice. -/
import Derived.Test.YtdcnfdhhflmdcaaEntS
namespace Go.Proofs.Ytdcnfdhhflmdcaa
open Go.RowKit
set_option linter.unusedSimpArgs false
set_option linter.unusedVariables false

set_option maxHeartbeats 2000000 in
theorem rslice_any (d : Nat) (base term : Int) (A : Option Addr) (c : Nat) (ms : List MEnt) (f m : Int) (w : World) (h : RefAt w d base term A c ms) (hs : ∀ m ∈ ms, SmallE m) (hc : ms.length ≤ c ∧ c ≤ maxLen) :
    Calls Try.prog 45 #[.pointer (some ⟨d, 0, none⟩), .int .i64 f, .int .i64 m] w (SliceEnds base (es ms) f m w) := by
  have x0 : w.cell? ⟨d, 0, none⟩ = some (.int .i64 base) := h.blk.cell 0
  have x2 : w.cell? ⟨d, 2, none⟩ = some (.slice A ms.length c) := h.blk.cell 2
  have hb0 := h.b0
  have hb1 := h.b1
  have hfew := h.few
  have HE := Lib.hid h.ents
  have HS := Lib.hid hs
  obtain ⟨hc1, hc2⟩ := hc
  have HL := Lib.hid (rlast_any d base term A c ms w h)
  unfold LastEnds lastI at HL
  rw [es_len] at HL
  obtain ⟨T, hT⟩ : ∃ T, T = lastT base term (es ms) := ⟨_, rfl⟩
  rw [← hT] at HL
  clear h hs hT
  have hel := es_len ms
  by_cases h1 : f ≤ base
  · have HV : Hid (sliceL base (es ms) f m = [] ∧ sliceE base (es ms) f = 111) := Lib.hid (by unfold sliceL sliceE; rw [if_pos h1]; exact ⟨rfl, rfl⟩)
    have z1 : decide (f ≤ base) = true := decide_eq_true h1
    clear hel
    go_enter Try.func45, Try.ntmps45
    go_wp2_with fail
    refine HL.out.mono ?_
    rintro e w' ⟨rfl, q, rfl⟩
    go_wp2
    go_ret2
    unfold SliceEnds
    rw [HV.out.1, HV.out.2]
    exact ⟨none, 0, [], rfl, rfl, OwnE.nil _ _, below_drewN (Below.refl _ _) _⟩
  have z1 : decide (f ≤ base) = false := decide_eq_false h1
  by_cases h3 : base + ms.length + 1 < f
  · have HV : Hid (sliceL base (es ms) f m = [] ∧ sliceE base (es ms) f = 110) := Lib.hid (by unfold sliceL sliceE; rw [hel, if_neg h1, if_pos h3]; exact ⟨rfl, rfl⟩)
    have z3 : decide (base + (ms.length : Int) + 1 < f) = true := decide_eq_true h3
    clear hel h1
    go_enter Try.func45, Try.ntmps45
    go_wp2_with fail
    refine HL.out.mono ?_
    rintro e w' ⟨rfl, q, rfl⟩
    go_wp2
    go_ret2
    unfold SliceEnds
    rw [HV.out.1, HV.out.2]
    exact ⟨none, 0, [], rfl, rfl, OwnE.nil _ _, below_drewN (Below.refl _ _) _⟩
  · obtain ⟨k, hk⟩ := Int.eq_ofNat_of_zero_le (show 0 ≤ f - base - 1 by omega)
    have hkl : k ≤ ms.length := by omega
    have HV : Hid (sliceL base (es ms) f m = ((es ms).drop k).take m.toNat ∧ sliceE base (es ms) f = 0) := Lib.hid (by
      have : sliceE base (es ms) f = 0 := by unfold sliceE; rw [hel, if_neg h1, if_neg h3]
      unfold sliceL
      rw [this, hk, if_pos rfl, Int.toNat_natCast]
      exact ⟨rfl, rfl⟩)
    obtain rfl : f = base + k + 1 := by omega
    have z3 : decide (base + (ms.length : Int) + 1 < base + k + 1) = false := decide_eq_false h3
    have kL : (0 : Int) ≤ (k : Int) := by omega
    have kU : (k : Int) ≤ (ms.length : Int) := by omega
    have kC : (ms.length : Int) ≤ (c : Int) := by omega
    have e1 : base + (k : Int) + 1 - base - 1 = (k : Int) := by omega
    obtain ⟨A2, hif⟩ : ∃ A2, (if c = k then A else Option.map (fun x => x.add (k * 13)) A) = A2 := ⟨_, rfl⟩
    have HC : ∀ (n2 c2 : Nat) (w2 : World), Below w.heap.size w w2 → n2 = ((ms.drop k).take m.toNat).length → Calls Try.prog 36 #[.slice A2 n2 c2] w2 (CopiesEnds ((ms.drop k).take m.toNat) w2) := by
      intro n2 c2 w2 hb hn
      have hE := (HE.out.cut hkl hc1).below hb
      rw [hif] at hE
      have hE2 := Ents.take (k := min m.toNat (ms.drop k).length) (hE.more hb.size) (Nat.min_le_right _ _)
      rw [← List.take_eq_take_min] at hE2
      subst hn
      exact copies_any A2 c2 _ w2 hE2 ⟨by rw [List.length_take, List.length_drop]; omega, fun x hx => HS.out x (List.mem_of_mem_drop (List.mem_of_mem_take hx))⟩
    have HC := Lib.hid HC
    have hb := below_drewN (Below.refl w.heap.size w)
    clear hel h1 h3 hk HE HS
    go_enter Try.func45, Try.ntmps45
    go_wp2_with fail
    refine HL.out.mono ?_
    rintro e w' ⟨rfl, q, rfl⟩
    go_wp2
    go_quiet (fail)
    go_wp2_with fail
    all_goals
      refine (HC.out _ _ _ (hb _) (by rw [List.length_take, List.length_drop]; omega)).mono ?_
      rintro e w' ⟨A3, c3, ms3, he, hm3, hO3, hb3⟩
      have hl3 : ((ms.drop k).take m.toNat).length = ms3.length := by simpa using (congrArg List.length hm3).symm
      rw [hl3] at he
      subst he
      have HM := Lib.hid hm3
      clear hl3 hm3
      go_wp2
      go_ret2
      unfold SliceEnds
      rw [HV.out.1, HV.out.2]
      exact ⟨A3, c3, ms3, rfl, by rw [← es_drop, ← es_take]; exact HM.out, hO3.more (hb _).size, (hb _).trans (hb3.mono (hb _).size)⟩
end Go.Proofs.Ytdcnfdhhflmdcaa
