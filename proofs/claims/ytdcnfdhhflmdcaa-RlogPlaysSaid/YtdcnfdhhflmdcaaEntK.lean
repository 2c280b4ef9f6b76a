/- rlog: Last. -/
import Derived.Test.YtdcnfdhhflmdcaaEntJ
namespace Go.Proofs.Ytdcnfdhhflmdcaa
open Go.RowKit
set_option linter.unusedSimpArgs false
set_option linter.unusedVariables false

theorem LogAt.drewN {w : World} {d : Nat} {base term : Int} {A : Option Addr} {c : Nat} {ms : List MEnt} (h : LogAt w d base term A c ms) (n : Nat) : LogAt (w.drewN n) d base term A c ms := ⟨h.blk.drewN n, h.ents.drewN n, h.b0, h.b1, h.few⟩
def lastI (base : Int) (l : List Ent) : Int := base + l.length
def lastT (base term : Int) (l : List Ent) : Int := termV base term l (base + l.length)
def LastEnds (base term : Int) (l : List Ent) (w : World) (e : Ending) (w' : World) : Prop := e = .returned (.tuple #[.int .i64 (lastI base l), .int .i64 (lastT base term l)]) ∧ ∃ q, w' = w.drewN q
set_option maxHeartbeats 1000000 in
theorem last_any (d : Nat) (base term : Int) (A : Option Addr) (c : Nat) (ms : List MEnt) (w : World) (h : LogAt w d base term A c ms) :
    Calls Try.prog 10 #[.pointer (some ⟨d, 0, none⟩)] w (LastEnds base term (es ms) w) := by
  have x0 : w.cell? ⟨d, 0, none⟩ = some (.int .i64 base) := h.blk.cell 0
  have x2 : w.cell? ⟨d, 2, none⟩ = some (.slice A ms.length c) := h.blk.cell 2
  have hb0 := h.b0
  have hb1 := h.b1
  have hfew := h.few
  have HT := Lib.hid (fun n => term_any d base term A c ms (base + ms.length) (w.drewN n) (h.drewN n))
  have HL : Hid (lastI base (es ms) = base + ms.length ∧ lastT base term (es ms) = termV base term (es ms) (base + ms.length)) := Lib.hid (by unfold lastI lastT; rw [es_len]; exact ⟨rfl, rfl⟩)
  clear h
  go_enter Try.func10, Try.ntmps10
  go_wp2
  go_quiet (fail)
  go_wp2_with fail
  refine (HT.out _).mono ?_
  rintro e w' ⟨rfl, q, rfl⟩
  go_wp2
  go_ret2
  unfold LastEnds
  rw [HL.out.1, HL.out.2]
  exact ⟨rfl, _, rfl⟩
end Go.Proofs.Ytdcnfdhhflmdcaa
