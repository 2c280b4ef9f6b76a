/- The reference's log: Last. -/
import Derived.Test.YtdcnfdhhflmdcaaEntL
namespace Go.Proofs.Ytdcnfdhhflmdcaa
open Go.RowKit
set_option linter.unusedSimpArgs false
set_option linter.unusedVariables false

/-- the reference's log and its entries -/
structure RefAt (w : World) (d : Nat) (base term : Int) (A : Option Addr) (c : Nat) (ms : List MEnt) : Prop where
  blk : Blk w d 74 (logC base term A ms.length c)
  ents : Ents w w.heap.size A ms.length ms
  b0 : 0 ≤ base
  b1 : base ≤ 1099511627776
  few : ms.length ≤ 512
theorem RefAt.drewN {w : World} {d : Nat} {base term : Int} {A : Option Addr} {c : Nat} {ms : List MEnt} (h : RefAt w d base term A c ms) (n : Nat) : RefAt (w.drewN n) d base term A c ms := ⟨h.blk.drewN n, h.ents.drewN n, h.b0, h.b1, h.few⟩
set_option maxHeartbeats 1000000 in
theorem rlast_any (d : Nat) (base term : Int) (A : Option Addr) (c : Nat) (ms : List MEnt) (w : World) (h : RefAt w d base term A c ms) :
    Calls Try.prog 40 #[.pointer (some ⟨d, 0, none⟩)] w (LastEnds base term (es ms) w) := by
  have x0 : w.cell? ⟨d, 0, none⟩ = some (.int .i64 base) := h.blk.cell 0
  have x1 : w.cell? ⟨d, 1, none⟩ = some (.int .i64 term) := h.blk.cell 1
  have x2 : w.cell? ⟨d, 2, none⟩ = some (.slice A ms.length c) := h.blk.cell 2
  have hb0 := h.b0
  have hb1 := h.b1
  have hfew := h.few
  have HE := Lib.hid h.ents
  clear h
  by_cases h0 : ms.length = 0
  · have HL : Hid (lastI base (es ms) = base ∧ lastT base term (es ms) = term) := Lib.hid (by unfold lastI lastT termV; rw [es_len, h0]; simp)
    have z1 : ((ms.length : Int) == 0) = true := by rw [h0]; rfl
    clear h0
    go_enter Try.func40, Try.ntmps40
    go_wp2
    go_quiet (fail)
    go_wp2
    go_ret2
    unfold LastEnds
    rw [HL.out.1, HL.out.2]
    exact ⟨rfl, _, rfl⟩
  · have hk : ms.length - 1 < ms.length := by omega
    have HL : Hid (lastI base (es ms) = base + ms.length ∧ lastT base term (es ms) = (gme ms (ms.length - 1)).e.term) := Lib.hid (by
      unfold lastI lastT termV
      rw [es_len, if_neg (by omega), if_neg (by omega), if_neg (by omega), show (base + (ms.length : Int) - base - 1).toNat = ms.length - 1 by omega, List.getD_eq_getElem?_getD, List.getElem?_eq_getElem (by rw [es_len]; exact hk)]
      exact ⟨rfl, by rw [Option.getD_some, es_at hk]⟩)
    have z1 : ((ms.length : Int) == 0) = false := beq_eq_false_iff_ne.2 (by omega)
    obtain ⟨b, off, rfl, _, hc⟩ := HE.out.at_ hk
    have y0 := hc 0 _ rfl
    rw [Nat.add_zero] at y0
    obtain ⟨k, hk1⟩ : ∃ k, ms.length = k + 1 := ⟨ms.length - 1, by omega⟩
    have e1 : ms.length - 1 = k := by omega
    rw [e1] at y0 HL
    rw [hk1] at x2 z1 HL hfew
    have e2 : ((k + 1 : Nat) : Int) - 1 = (k : Int) := by omega
    have kL : (0 : Int) ≤ (k : Int) := by omega
    clear hc HE h0 hk hk1 e1
    go_enter Try.func40, Try.ntmps40
    go_wp2
    go_quiet (fail)
    go_wp2
    go_ret2
    unfold LastEnds
    rw [HL.out.1, HL.out.2]
    exact ⟨rfl, _, rfl⟩
end Go.Proofs.Ytdcnfdhhflmdcaa
