/- The reference's log: Term, Reset. -/
import Derived.Test.YtdcnfdhhflmdcaaEntR
namespace Go.Proofs.Ytdcnfdhhflmdcaa
open Go.RowKit
set_option linter.unusedSimpArgs false
set_option linter.unusedVariables false

set_option maxHeartbeats 2000000 in
theorem rterm_any (d : Nat) (base term : Int) (A : Option Addr) (c : Nat) (ms : List MEnt) (i : Int) (w : World) (h : RefAt w d base term A c ms) :
    Calls Try.prog 42 #[.pointer (some ⟨d, 0, none⟩), .int .i64 i] w (TermEnds base term (es ms) i w) := by
  have x0 : w.cell? ⟨d, 0, none⟩ = some (.int .i64 base) := h.blk.cell 0
  have x1 : w.cell? ⟨d, 1, none⟩ = some (.int .i64 term) := h.blk.cell 1
  have x2 : w.cell? ⟨d, 2, none⟩ = some (.slice A ms.length c) := h.blk.cell 2
  have hb0 := h.b0
  have hb1 := h.b1
  have hfew := h.few
  have HE := Lib.hid h.ents
  have HL := Lib.hid (rlast_any d base term A c ms w h)
  unfold LastEnds lastI at HL
  rw [es_len] at HL
  obtain ⟨T, hT⟩ : ∃ T, T = lastT base term (es ms) := ⟨_, rfl⟩
  rw [← hT] at HL
  clear h hT
  have hel := es_len ms
  by_cases h1 : i < base
  · have HV : Hid (termV base term (es ms) i = 0 ∧ termE base (es ms) i = 111) := Lib.hid (by unfold termV termE; rw [if_pos h1, if_pos h1]; exact ⟨rfl, rfl⟩)
    have z1 : decide (i < base) = true := decide_eq_true h1
    clear hel
    go_enter Try.func42, Try.ntmps42
    go_wp2_with fail
    refine HL.out.mono ?_
    rintro e w' ⟨rfl, q, rfl⟩
    go_wp2
    go_ret2
    unfold TermEnds
    rw [HV.out.1, HV.out.2]
    exact ⟨rfl, q, rfl⟩
  have z1 : decide (i < base) = false := decide_eq_false h1
  by_cases h3 : base + ms.length < i
  · have h2 : ¬ i = base := by omega
    have HV : Hid (termV base term (es ms) i = 0 ∧ termE base (es ms) i = 110) := Lib.hid (by unfold termV termE; rw [hel, if_neg h1, if_neg h1, if_neg h2, if_neg h2, if_pos h3, if_pos h3]; exact ⟨rfl, rfl⟩)
    have z3 : decide (base + (ms.length : Int) < i) = true := decide_eq_true h3
    clear hel h1 h2
    go_enter Try.func42, Try.ntmps42
    go_wp2_with fail
    refine HL.out.mono ?_
    rintro e w' ⟨rfl, q, rfl⟩
    go_wp2
    go_ret2
    unfold TermEnds
    rw [HV.out.1, HV.out.2]
    exact ⟨rfl, q, rfl⟩
  have z3 : decide (base + (ms.length : Int) < i) = false := decide_eq_false h3
  by_cases h2 : i = base
  · have HV : Hid (termV base term (es ms) i = term ∧ termE base (es ms) i = 0) := Lib.hid (by unfold termV termE; rw [if_neg h1, if_neg h1, if_pos h2, if_pos h2]; exact ⟨rfl, rfl⟩)
    have z2 : (i == base) = true := by rw [h2]; simp
    clear hel h1 h2
    go_enter Try.func42, Try.ntmps42
    go_wp2_with fail
    refine HL.out.mono ?_
    rintro e w' ⟨rfl, q, rfl⟩
    go_wp2
    go_ret2
    unfold TermEnds
    rw [HV.out.1, HV.out.2]
    exact ⟨rfl, q, rfl⟩
  have z2 : (i == base) = false := beq_eq_false_iff_ne.2 h2
  obtain ⟨k, hk⟩ := Int.eq_ofNat_of_zero_le (show 0 ≤ i - base - 1 by omega)
  have hkl : k < ms.length := by omega
  have HV : Hid (termV base term (es ms) i = (gme ms k).e.term ∧ termE base (es ms) i = 0) := Lib.hid (by
    unfold termV termE
    rw [hel, if_neg h1, if_neg h1, if_neg h2, if_neg h2, if_neg h3, if_neg h3, hk, Int.toNat_natCast, List.getD_eq_getElem?_getD, List.getElem?_eq_getElem (by rw [hel]; exact hkl)]
    exact ⟨by rw [Option.getD_some, es_at hkl], rfl⟩)
  obtain ⟨b, off, rfl, _, hc⟩ := HE.out.at_ hkl
  have y0 := hc 0 _ rfl
  rw [Nat.add_zero] at y0
  obtain rfl : i = base + k + 1 := by omega
  have kL : (0 : Int) ≤ (k : Int) := by omega
  have kU : (k : Int) < (ms.length : Int) := by omega
  have e1 : base + (k : Int) + 1 - base - 1 = (k : Int) := by omega
  clear hel h1 h2 h3 hk hc HE
  go_enter Try.func42, Try.ntmps42
  go_wp2_with fail
  refine HL.out.mono ?_
  rintro e w' ⟨rfl, q, rfl⟩
  go_wp2
  go_quiet (fail)
  go_wp2
  go_ret2
  unfold TermEnds
  rw [HV.out.1, HV.out.2]
  exact ⟨rfl, _, World.drewN_drewN _ _ _⟩

def RResetEnds (d : Nat) (base term b t : Int) (A : Option Addr) (n c : Nat) (w : World) (e : Ending) (w' : World) : Prop :=
  e = .returned (.int .i64 (resetE b t)) ∧ Kept [d] w w' ∧ Blk w' d 74 (if numB b && numB t then logC b t none 0 0 else logC base term A n c)
set_option maxHeartbeats 1000000 in
theorem rreset_any (d : Nat) (base term b t : Int) (A : Option Addr) (n c : Nat) (w : World) (h : Blk w d 74 (logC base term A n c)) :
    Calls Try.prog 28 #[.pointer (some ⟨d, 0, none⟩), .int .i64 b, .int .i64 t] w (RResetEnds d base term b t A n c w) := by
  have x0 : w.cell? ⟨d, 0, none⟩ = some (.int .i64 base) := h.cell 0
  have x1 : w.cell? ⟨d, 1, none⟩ = some (.int .i64 term) := h.cell 1
  have x2 : w.cell? ⟨d, 2, none⟩ = some (.slice A n c) := h.cell 2
  have f0 := h.frozen 0
  have f1 := h.frozen 1
  have f2 := h.frozen 2
  have H := Lib.hid h
  clear h
  have HB := rnumber_any b w
  have HT := rnumber_any t w
  cases hb : numB b with
  | false =>
    rw [hb] at HB
    have HE : Hid (resetE b t = 2 ∧ (numB b && numB t) = false) := Lib.hid (by unfold resetE; rw [hb]; exact ⟨rfl, rfl⟩)
    clear hb
    go_enter Try.func28, Try.ntmps28
    go_wp2_with (go_at_call 41; refine HB.mono ?_; rintro e w' ⟨rfl, rfl⟩)
    go_ret
    exact ⟨by rw [HE.out.1]; rfl, Kept.refl _ _, by rw [HE.out.2]; exact H.out⟩
  | true =>
    rw [hb] at HB
    cases ht : numB t with
    | false =>
      rw [ht] at HT
      have HE : Hid (resetE b t = 2 ∧ (numB b && numB t) = false) := Lib.hid (by unfold resetE; rw [hb, ht]; exact ⟨rfl, rfl⟩)
      clear hb ht
      go_enter Try.func28, Try.ntmps28
      go_wp2_with fail
      refine HB.mono ?_
      rintro e w' ⟨rfl, rfl⟩
      go_wp2_with fail
      refine HT.mono ?_
      rintro e w' ⟨rfl, rfl⟩
      go_wp2
      go_ret
      exact ⟨by rw [HE.out.1]; rfl, Kept.refl _ _, by rw [HE.out.2]; exact H.out⟩
    | true =>
      rw [ht] at HT
      have HE : Hid (resetE b t = 0 ∧ (numB b && numB t) = true) := Lib.hid (by unfold resetE; rw [hb, ht]; exact ⟨rfl, rfl⟩)
      clear hb ht
      go_enter Try.func28, Try.ntmps28
      go_wp2_with fail
      refine HB.mono ?_
      rintro e w' ⟨rfl, rfl⟩
      go_wp2_with fail
      refine HT.mono ?_
      rintro e w' ⟨rfl, rfl⟩
      go_wp2
      go_ret
      exact ⟨by rw [HE.out.1]; rfl, (((Kept.refl _ _).setCell _ (.inl (by simp))).setCell _ (.inl (by simp))).setCell _ (.inl (by simp)), by rw [HE.out.2]; exact ((H.out.set_ 0 (.int .i64 b)).set_ 1 (.int .i64 t)).set_ 2 (.slice none 0 0)⟩
end Go.Proofs.Ytdcnfdhhflmdcaa
