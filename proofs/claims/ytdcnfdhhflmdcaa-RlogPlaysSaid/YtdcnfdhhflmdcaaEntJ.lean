/- rlog: Term. -/
import Derived.Test.YtdcnfdhhflmdcaaEntI
namespace Go.Proofs.Ytdcnfdhhflmdcaa
open Go.RowKit
set_option linter.unusedSimpArgs false
set_option linter.unusedVariables false

/-- a log and its entries -/
structure LogAt (w : World) (d : Nat) (base term : Int) (A : Option Addr) (c : Nat) (ms : List MEnt) : Prop where
  blk : Blk w d 69 (logC base term A ms.length c)
  ents : Ents w w.heap.size A ms.length ms
  b0 : 0 ≤ base
  b1 : base ≤ 1099511627776
  few : ms.length ≤ 512
def termV (base term : Int) (l : List Ent) (i : Int) : Int := if i < base then 0 else if i = base then term else if base + l.length < i then 0 else (l.getD (i - base - 1).toNat ent0).term
def termE (base : Int) (l : List Ent) (i : Int) : Int := if i < base then 111 else if i = base then 0 else if base + l.length < i then 110 else 0
def TermEnds (base term : Int) (l : List Ent) (i : Int) (w : World) (e : Ending) (w' : World) : Prop := e = .returned (.tuple #[.int .i64 (termV base term l i), .int .i64 (termE base l i)]) ∧ ∃ q, w' = w.drewN q
set_option maxHeartbeats 2000000 in
theorem term_any (d : Nat) (base term : Int) (A : Option Addr) (c : Nat) (ms : List MEnt) (i : Int) (w : World) (h : LogAt w d base term A c ms) :
    Calls Try.prog 11 #[.pointer (some ⟨d, 0, none⟩), .int .i64 i] w (TermEnds base term (es ms) i w) := by
  have x0 : w.cell? ⟨d, 0, none⟩ = some (.int .i64 base) := h.blk.cell 0
  have x1 : w.cell? ⟨d, 1, none⟩ = some (.int .i64 term) := h.blk.cell 1
  have x2 : w.cell? ⟨d, 2, none⟩ = some (.slice A ms.length c) := h.blk.cell 2
  have hb0 := h.b0
  have hb1 := h.b1
  have hfew := h.few
  have HE := Lib.hid h.ents
  clear h
  have hel := es_len ms
  by_cases h1 : i < base
  · have HV : Hid (termV base term (es ms) i = 0 ∧ termE base (es ms) i = 111) := Lib.hid (by unfold termV termE; rw [if_pos h1, if_pos h1]; exact ⟨rfl, rfl⟩)
    have z1 : decide (i < base) = true := decide_eq_true h1
    clear hel
    go_enter Try.func11, Try.ntmps11
    go_wp2
    go_ret2
    unfold TermEnds
    rw [HV.out.1, HV.out.2]
    exact ⟨rfl, 0, rfl⟩
  by_cases h2 : i = base
  · have HV : Hid (termV base term (es ms) i = term ∧ termE base (es ms) i = 0) := Lib.hid (by unfold termV termE; rw [if_neg h1, if_neg h1, if_pos h2, if_pos h2]; exact ⟨rfl, rfl⟩)
    have z1 : decide (i < base) = false := decide_eq_false h1
    have z2 : (i == base) = true := by rw [h2]; simp
    clear hel h1 h2
    go_enter Try.func11, Try.ntmps11
    go_wp2
    go_ret2
    unfold TermEnds
    rw [HV.out.1, HV.out.2]
    exact ⟨rfl, 0, rfl⟩
  have z1 : decide (i < base) = false := decide_eq_false h1
  have z2 : (i == base) = false := beq_eq_false_iff_ne.2 h2
  by_cases h3 : base + ms.length < i
  · have HV : Hid (termV base term (es ms) i = 0 ∧ termE base (es ms) i = 110) := Lib.hid (by unfold termV termE; rw [hel, if_neg h1, if_neg h1, if_neg h2, if_neg h2, if_pos h3, if_pos h3]; exact ⟨rfl, rfl⟩)
    have z3 : decide (base + (ms.length : Int) < i) = true := decide_eq_true h3
    clear hel h1 h2
    go_enter Try.func11, Try.ntmps11
    go_wp2
    go_quiet (fail)
    go_wp2
    go_ret2
    unfold TermEnds
    rw [HV.out.1, HV.out.2]
    exact ⟨rfl, _, rfl⟩
  · obtain ⟨k, hk⟩ := Int.eq_ofNat_of_zero_le (show 0 ≤ i - base - 1 by omega)
    have hkl : k < ms.length := by omega
    have HV : Hid (termV base term (es ms) i = (gme ms k).e.term ∧ termE base (es ms) i = 0) := Lib.hid (by
      unfold termV termE
      rw [hel, if_neg h1, if_neg h1, if_neg h2, if_neg h2, if_neg h3, if_neg h3, hk, Int.toNat_natCast, List.getD_eq_getElem?_getD, List.getElem?_eq_getElem (by rw [hel]; exact hkl)]
      exact ⟨by rw [Option.getD_some, es_at hkl], rfl⟩)
    obtain ⟨b, off, rfl, _, hc⟩ := HE.out.at_ hkl
    have y0 := hc 0 _ rfl
    rw [Nat.add_zero] at y0
    obtain rfl : i = base + k + 1 := by omega
    have z3 : decide (base + (ms.length : Int) < base + k + 1) = false := decide_eq_false h3
    have kL : (0 : Int) ≤ (k : Int) := by omega
    have kU : (k : Int) < (ms.length : Int) := by omega
    have e1 : base + (k : Int) + 1 - base - 1 = (k : Int) := by omega
    clear hel h1 h2 h3 hk hc HE
    go_enter Try.func11, Try.ntmps11
    go_wp2
    go_quiet (fail)
    go_wp2
    go_quiet (fail)
    go_wp2
    go_ret2
    unfold TermEnds
    rw [HV.out.1, HV.out.2]
    exact ⟨rfl, _, World.drewN_drewN _ _ _⟩
end Go.Proofs.Ytdcnfdhhflmdcaa
