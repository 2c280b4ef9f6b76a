/- rlog: New, Base, Reset; the reference's New. -/
import Derived.Test.YtdcnfdhhflmdcaaEntG
namespace Go.Proofs.Ytdcnfdhhflmdcaa
open Go.RowKit
set_option linter.unusedSimpArgs false
set_option linter.unusedVariables false

/-- a log's three cells -/
def logC (base term : Int) (A : Option Addr) (n c : Nat) : Array Value := #[.int .i64 base, .int .i64 term, .slice A n c]
theorem new_any (w : World) : Calls Try.prog 8 #[] w fun e w' => e = .returned (.pointer (some ⟨w.heap.size, 0, none⟩)) ∧ w' = w.alloc (.cells (logC 0 0 none 0 0) 69) := by
  go_enter Try.func8, Try.ntmps8
  go_wp2
  go_ret
  exact ⟨rfl, rfl⟩
theorem rnew_any (w : World) : Calls Try.prog 23 #[] w fun e w' => e = .returned (.pointer (some ⟨w.heap.size, 0, none⟩)) ∧ w' = w.alloc (.cells (logC 0 0 none 0 0) 74) := by
  go_enter Try.func23, Try.ntmps23
  go_wp2
  go_ret
  exact ⟨rfl, rfl⟩
set_option maxHeartbeats 1000000 in
theorem base_any (d : Nat) (base term : Int) (A : Option Addr) (n c : Nat) (w : World) (h : Blk w d 69 (logC base term A n c)) :
    Calls Try.prog 19 #[.pointer (some ⟨d, 0, none⟩)] w fun e w' => e = .returned (.tuple #[.int .i64 base, .int .i64 term]) ∧ ∃ q, w' = w.drewN q := by
  have x0 : w.cell? ⟨d, 0, none⟩ = some (.int .i64 base) := h.cell 0
  have x1 : w.cell? ⟨d, 1, none⟩ = some (.int .i64 term) := h.cell 1
  clear h
  go_enter Try.func19, Try.ntmps19
  go_wp2
  go_quiet (fail)
  go_wp2
  go_ret2
  exact ⟨rfl, _, rfl⟩
end Go.Proofs.Ytdcnfdhhflmdcaa
