/- Layer 7, plain: the least majorities, one behind the other. -/
import Derived.Test.YtfoojhjhinofmaaQiD
namespace Go.Proofs.Ytfoojhjhinofmaa
open Go.RowKit

/-- the next number with so many bits -/
def nextN (s : Nat) : Nat := (((s + (s &&& (18446744073709551616 - s))) ^^^ s) / 4 / (s &&& (18446744073709551616 - s))) ||| (s + (s &&& (18446744073709551616 - s)))
/-- the k-th -/
def it (m : Nat) : Nat → Nat
  | 0 => 2 ^ (m / 2 + 1) - 1
  | k + 1 => nextN (it m k)
/-- the reference's list -/
def refK (m j : Nat) : List Nat := (List.range j).filter fun s => bitsF m s == needF m
def refL (m : Nat) : List Nat := refK m (2 ^ m)
theorem refK_on (m j : Nat) : refK m (j + 1) = refK m j ++ (if bitsF m j == needF m then [j] else []) := by
  unfold refK
  rw [List.range_succ, List.filter_append]
  cases h : (bitsF m j == needF m) <;> simp [h]
theorem refK_len (m j : Nat) : (refK m j).length ≤ j := by
  unfold refK
  exact Nat.le_trans (List.length_filter_le _ _) (by simp)
def okM (m : Nat) : Bool :=
  decide ((refL m).length < 2 ^ m) && decide (lowF m < it m (refL m).length) && decide (it m (refL m).length < 1048576) &&
  (List.range (refL m).length).all fun k => decide (it m k = (refL m).getD k 0) && decide (it m k ≤ lowF m) && decide (0 < (it m k &&& (18446744073709551616 - it m k))) && decide (it m k < 1048576)
set_option maxRecDepth 100000 in
theorem ok_all : ∀ m, m < 11 → 1 ≤ m → okM m = true := by decide +kernel
theorem ok_ends {m : Nat} (h1 : 1 ≤ m) (h2 : m ≤ 10) : (refL m).length < 2 ^ m ∧ lowF m < it m (refL m).length ∧ it m (refL m).length < 1048576 := by
  have h := ok_all m (by omega) h1
  unfold okM at h
  simp only [Bool.and_eq_true, decide_eq_true_eq] at h
  exact ⟨h.1.1.1, h.1.1.2, h.1.2⟩
theorem ok_at {m : Nat} (h1 : 1 ≤ m) (h2 : m ≤ 10) {k : Nat} (hk : k < (refL m).length) : it m k = (refL m).getD k 0 ∧ it m k ≤ lowF m ∧ 0 < (it m k &&& (18446744073709551616 - it m k)) ∧ it m k < 1048576 := by
  have h := ok_all m (by omega) h1
  unfold okM at h
  simp only [Bool.and_eq_true, decide_eq_true_eq] at h
  have := List.all_eq_true.1 h.2 k (List.mem_range.2 hk)
  simp only [Bool.and_eq_true, decide_eq_true_eq] at this
  exact ⟨this.1.1.1, this.1.1.2, this.1.2, this.2⟩
end Go.Proofs.Ytfoojhjhinofmaa
