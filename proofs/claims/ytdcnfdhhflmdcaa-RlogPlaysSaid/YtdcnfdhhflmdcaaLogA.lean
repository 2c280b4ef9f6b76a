/- rlog: what is asked of a log, said of the log as one thing. -/
import Derived.Test.YtdcnfdhhflmdcaaEntZ
namespace Go.Proofs.Ytdcnfdhhflmdcaa
open Go.RowKit
set_option linter.unusedSimpArgs false
set_option linter.unusedVariables false

section
variable {T : TypeId} {w : World} {d : Nat} {F : List Nat} {b t : Int} {l : List Ent}
theorem slice_log (h : IsLog 69 w d F b t l) (f m : Int) : Calls Try.prog 12 #[.pointer (some ⟨d, 0, none⟩), .int .i64 f, .int .i64 m] w (SliceEnds b l f m w) := by
  obtain ⟨A, c, ms, h, rfl, rfl⟩ := h
  exact slice_any d b t A c ms f m w h.at_ h.small (own_cap h.own.row)
theorem last_log (h : IsLog 69 w d F b t l) : Calls Try.prog 10 #[.pointer (some ⟨d, 0, none⟩)] w (LastEnds b t l w) := by
  obtain ⟨A, c, ms, h, rfl, rfl⟩ := h
  exact last_any d b t A c ms w h.at_
theorem term_log (h : IsLog 69 w d F b t l) (i : Int) : Calls Try.prog 11 #[.pointer (some ⟨d, 0, none⟩), .int .i64 i] w (TermEnds b t l i w) := by
  obtain ⟨A, c, ms, h, rfl, rfl⟩ := h
  exact term_any d b t A c ms i w h.at_
theorem IsLog.few (h : IsLog T w d F b t l) : l.length ≤ 512 := by
  obtain ⟨A, c, ms, h, rfl, rfl⟩ := h
  rw [es_len]
  exact h.few
theorem IsLog.b0 (h : IsLog T w d F b t l) : 0 ≤ b := by
  obtain ⟨A, c, ms, h, rfl, rfl⟩ := h
  exact h.b0
theorem IsLog.b1 (h : IsLog T w d F b t l) : b + l.length ≤ 1099511627776 := by
  obtain ⟨A, c, ms, h, rfl, rfl⟩ := h
  rw [es_len]
  exact h.b1
theorem IsLog.small (h : IsLog T w d F b t l) {ms : List MEnt} (he : ∀ e ∈ es ms, e ∈ l) : ∀ m ∈ ms, SmallE m := by
  obtain ⟨A, c, ms0, h, rfl, rfl⟩ := h
  intro m hm
  obtain ⟨x, hx, hxe⟩ := List.mem_map.1 (he m.e (List.mem_map.2 ⟨m, hm, rfl⟩))
  have := h.small x hx
  unfold SmallE at this ⊢
  rw [← hxe]
  exact this
theorem IsLog.self (h : IsLog T w d F b t l) : d ∈ F := by
  obtain ⟨A, c, ms, h, rfl, rfl⟩ := h
  exact List.mem_cons_self ..
end
theorem sliceL_mem {b : Int} {l : List Ent} {f m : Int} : ∀ e ∈ sliceL b l f m, e ∈ l := by
  intro e he
  unfold sliceL at he
  split at he
  · exact List.mem_of_mem_drop (List.mem_of_mem_take he)
  · simp at he
end Go.Proofs.Ytdcnfdhhflmdcaa
