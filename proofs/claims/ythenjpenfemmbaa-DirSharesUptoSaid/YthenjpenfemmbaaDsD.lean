/- Layer 12: DeleteFunc, in place, and Share. -/
import Derived.Test.YthenjpenfemmbaaDsC
import Derived.Lib.SliceRun
namespace Go.Proofs.Ythenjpenfemmbaa
open Go.RowKit
set_option linter.unusedSimpArgs false
set_option linter.unusedVariables false

/-- the tail of a row of one's own is cleared -/
theorem run_clear_tail (w : World) (g c : Nat) (M : List Wrt) (k : Nat) (hk : k < M.length) (hown : w.ownsRow 0 45 3 (.slice (some ⟨g, 0, none⟩) M.length c) M.length (wc M)) (ty : TypeId) (cc : Nat) :
    ∃ w', (Builtin.clear_ #[40] ty #[.slice (some ⟨g, k * 3, none⟩) (M.length - k) cc]).run Try.prog w = .ok (.tuple #[]) w' ∧ w'.ownsRow 0 45 3 (.slice (some ⟨g, 0, none⟩) k c) k (wc (M.take k)) ∧ Kept [g] w w' := by
  rcases hown.2 with ⟨hv, _⟩ | ⟨g', cap, cur, hv, hbg, hg, hnc, hcm, hcs, htake⟩
  · simp at hv
  · simp only [Value.slice.injEq, Option.some.injEq, Addr.mk.injEq, and_true, true_and] at hv
    obtain ⟨rfl, rfl⟩ := hv
    have hz : (zeroValue 45).run Try.prog w = .ok (.agg #[.string ⟨#[]⟩, .string ⟨#[]⟩, .bool false]) w := by kernel_rfl
    obtain ⟨m, hm⟩ : ∃ m, M.length - k = m + 1 := ⟨M.length - k - 1, by omega⟩
    generalize hzs : (Builtin.zeroCells (Value.agg #[.string ⟨#[]⟩, .string ⟨#[]⟩, .bool false]).cells (M.length - k)).toList = zs
    have hzl : zs.length = (M.length - k) * 3 := by
      rw [← hzs]
      simp only [Array.length_toList, size_zeroCells]
      rfl
    have hz1 : ∀ u ∈ zs, u.oneCell' = true := by
      intro u hu
      rw [← hzs] at hu
      simp only [Builtin.zeroCells, Array.toList_map, List.mem_map] at hu
      obtain ⟨i, _, rfl⟩ := hu
      have : i % 3 = 0 ∨ i % 3 = 1 ∨ i % 3 = 2 := by omega
      simp only [Value.cells]
      rcases this with h | h | h <;> simp [h] <;> rfl
    have hcl : M.length * 3 ≤ cur.size := by rw [hcs]; exact Nat.mul_le_mul_right _ hnc
    have hfit : k * 3 + zs.length ≤ cur.size := by rw [hzl]; omega
    have hcell : ∀ j, j < zs.length → (w.cell? ⟨g, k * 3 + j, none⟩).isSome = true := by
      intro j hj
      rw [cell_of_row w g _ cur 45 (0, 0) hg, Array.getElem?_eq_getElem (by omega)]
      rfl
    have hfro : ∀ j, j < zs.length → w.frozen? ⟨g, k * 3 + j, none⟩ = false := by
      intro j hj
      simp [World.frozen?, hg]
    have hst := run_storeCells_at Try.prog g (k * 3) 45 zs 0 cur w hg (by simpa using hfit) hz1
    simp only [Nat.add_zero] at hst
    refine ⟨w.setRow g (cur.toList.take (k * 3) ++ zs ++ cur.toList.drop (k * 3 + zs.length)).toArray, ?_, ?_, ⟨rfl, rfl, rfl, by simp, fun j _ hj => setRow_other w g j _ (fun e => hj (by simp [e]))⟩⟩
    · rw [hm] at hzs ⊢
      simp [Builtin.clear_, run_underlying Try.underlying40, hz, hzs, hst]
    · refine ⟨by rw [wc_len, List.length_take]; omega, .inr ⟨g, c, _, rfl, Nat.zero_le _, setRow_heap w g cur _ 45 _ hg, by omega, hcm, ?_, ?_⟩⟩
      · simp only [List.size_toArray, List.length_append, List.length_take, List.length_drop, Array.length_toList]
        omega
      · have e1 : cur.toList.take (k * 3) = wc (M.take k) := by
          rw [← wc_take, ← htake, List.take_take, Nat.min_eq_left (by omega)]
        simp only
        rw [← e1]
        rw [List.append_assoc, List.take_append_of_le_length (by simp; omega), List.take_take, Nat.min_self]
end Go.Proofs.Ythenjpenfemmbaa
