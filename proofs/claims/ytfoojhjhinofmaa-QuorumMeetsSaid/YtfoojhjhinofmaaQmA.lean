/- Layer 7, plain: two majorities meet. -/
import Derived.Test.YtfoojhjhinofmaaQcA
namespace Go.Proofs.Ytfoojhjhinofmaa
open Go.RowKit

theorem bit_and (x y : Nat) : (x &&& y) % 2 = (x % 2) * (y % 2) := by
  have h1 := Nat.and_mod_two_pow (a := x) (b := y) (n := 1)
  simp only [Nat.pow_one] at h1
  rw [h1]
  rcases Nat.mod_two_eq_zero_or_one x with hx | hx <;> rcases Nat.mod_two_eq_zero_or_one y with hy | hy <;> simp [hx, hy]
theorem bit_or (x y : Nat) : (x ||| y) % 2 = x % 2 + y % 2 - (x % 2) * (y % 2) := by
  have h1 := Nat.or_mod_two_pow (a := x) (b := y) (n := 1)
  simp only [Nat.pow_one] at h1
  rw [h1]
  rcases Nat.mod_two_eq_zero_or_one x with hx | hx <;> rcases Nat.mod_two_eq_zero_or_one y with hy | hy <;> simp [hx, hy]
theorem and_half (x y : Nat) : (x &&& y) / 2 = x / 2 &&& y / 2 := by
  have := Nat.shiftRight_and_distrib (a := x) (b := y) (i := 1)
  simpa [Nat.shiftRight_eq_div_pow] using this
theorem or_half (x y : Nat) : (x ||| y) / 2 = x / 2 ||| y / 2 := by
  have := Nat.shiftRight_or_distrib (a := x) (b := y) (i := 1)
  simpa [Nat.shiftRight_eq_div_pow] using this
theorem pc_and_or (n : Nat) : ∀ x y, pc n (x &&& y) + pc n (x ||| y) = pc n x + pc n y := by
  induction n with
  | zero => intro x y; rfl
  | succ n ih =>
    intro x y
    have h := ih (x / 2) (y / 2)
    simp only [pc]
    rw [bit_and, bit_or, and_half, or_half]
    rcases Nat.mod_two_eq_zero_or_one x with hx | hx <;> rcases Nat.mod_two_eq_zero_or_one y with hy | hy <;> rw [hx, hy] <;> omega
theorem pc_or_ge (n : Nat) : ∀ x y, pc n x ≤ pc n (x ||| y) := by
  induction n with
  | zero => intro x y; exact Nat.le_refl _
  | succ n ih =>
    intro x y
    have h := ih (x / 2) (y / 2)
    simp only [pc]
    rw [bit_or, or_half]
    rcases Nat.mod_two_eq_zero_or_one x with hx | hx <;> rcases Nat.mod_two_eq_zero_or_one y with hy | hy <;> rw [hx, hy] <;> omega
section
variable {n : Int} (h1 : 1 ≤ n) (h2 : n ≤ 64) {a b : Nat} (ha : a < 18446744073709551616)
include h1 h2
theorem won_iff (x : Nat) : wonF n x = decide (n / 2 + 1 ≤ bitsF n x) := by
  have h0 : 0 < needF n := by rw [needF_yes h1 h2]; omega
  rw [wonF_yes h0, needF_yes h1 h2]
theorem lost_iff (x : Nat) : lostF n x = decide (n - bitsF n x < n / 2 + 1) := by
  have h0 : 0 < needF n := by rw [needF_yes h1 h2]; omega
  rw [lostF_yes h0, needF_yes h1 h2]
/-- two that have won have a node in common -/
theorem meet (hA : wonF n a = true) (hB : wonF n b = true) : a &&& b &&& lowF n ≠ 0 := by
  rw [won_iff h1 h2] at hA hB
  have hA := of_decide_eq_true hA
  have hB := of_decide_eq_true hB
  unfold bitsF at hA hB
  intro h
  have e := pc_and_or n.toNat a b
  have hle := pc_le n.toNat (a ||| b)
  have hz : pc n.toNat (a &&& b) = 0 := by
    rw [← pc_mod n.toNat n.toNat _ (Nat.le_refl _), ← Nat.and_two_pow_sub_one_eq_mod]
    unfold lowF at h
    rw [h]
    exact pc_zero _
  omega
theorem won_more (hA : wonF n a = true) : wonF n (a ||| b) = true := by
  rw [won_iff h1 h2] at hA ⊢
  have hA := of_decide_eq_true hA
  have := pc_or_ge n.toNat a b
  unfold bitsF at hA ⊢
  exact decide_eq_true (by omega)
theorem lost_more (hA : lostF n a = true) : lostF n (a ||| b) = true := by
  rw [lost_iff h1 h2] at hA ⊢
  have hA := of_decide_eq_true hA
  have := pc_or_ge n.toNat a b
  unfold bitsF at hA ⊢
  exact decide_eq_true (by omega)
theorem won_mask : wonF n (a &&& lowF n) = wonF n a := by
  rw [won_iff h1 h2, won_iff h1 h2]
  unfold bitsF lowF
  rw [Nat.and_two_pow_sub_one_eq_mod, pc_mod n.toNat n.toNat a (Nat.le_refl _)]
include ha
theorem won_not_both (hA : wonF n a = true) : wonF n (18446744073709551615 - a) = false := by
  rw [won_iff h1 h2] at hA ⊢
  have hA := of_decide_eq_true hA
  rw [bits_not n a h1 h2 ha]
  exact decide_eq_false (by omega)
theorem lost_not : lostF n a = !wonF n (18446744073709551615 - a) := by
  have h0 : 0 < needF n := by rw [needF_yes h1 h2]; omega
  exact (lost_won n a h0 ha).symm
theorem won_odd (ho : n % 2 ≠ 0) (hA : wonF n a = false) : wonF n (18446744073709551615 - a) = true := by
  rw [won_iff h1 h2] at hA ⊢
  have hA := of_decide_eq_false hA
  rw [bits_not n a h1 h2 ha]
  exact decide_eq_true (by omega)
end
end Go.Proofs.Ytfoojhjhinofmaa
