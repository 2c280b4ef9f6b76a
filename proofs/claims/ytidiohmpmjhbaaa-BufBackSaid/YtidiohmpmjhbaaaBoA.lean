/- What a reader reads is what a writer would have written: the plain law. -/
import Derived.Test.YtidiohmpmjhbaaaBrH
namespace Go.Proofs.Ytidiohmpmjhbaaa
open Go.RowKit

theorem numFrom_vb : ∀ (f i acc : Nat) (l : List UInt8) (n k : Nat), numFrom f i acc l = (n, k, 0) → ∃ m, n = acc + m * 2 ^ (7 * i) ∧ i < k ∧ vb m = l.take (k - i) ∧ (0 < i → 1 ≤ m) := by
  intro f
  induction f with
  | zero => intro i acc l n k h; rw [numFrom_zero] at h; simp at h
  | succ f ih =>
    intro i acc l n k h
    cases l with
    | nil => simp [numFrom] at h
    | cons c r =>
      have hc := UInt8.toNat_lt c
      simp only [numFrom] at h
      split at h
      · rename_i h128
        obtain ⟨m, hn, hik, hvb, hm⟩ := ih _ _ _ _ _ h
        have hm1 := hm (by omega)
        refine ⟨c.toNat % 128 + 128 * m, ?_, by omega, ?_, fun _ => by omega⟩
        · rw [hn, show 7 * (i + 1) = 7 + 7 * i by omega, Nat.pow_add, Nat.add_mul, show (2 : Nat) ^ 7 = 128 from rfl, Nat.add_assoc, Nat.mul_assoc, Nat.mul_left_comm]
        · rw [vb_big (by omega), show (c.toNat % 128 + 128 * m) / 128 = m by omega, show (c.toNat % 128 + 128 * m) % 128 + 128 = c.toNat by omega, hvb, show k - i = (k - (i + 1)) + 1 by omega, List.take_succ_cons]
          simp
      · rename_i h128
        split at h
        · simp at h
        · rename_i hbad
          simp only [Prod.mk.injEq, and_true] at h
          obtain ⟨rfl, rfl⟩ := h
          refine ⟨c.toNat, rfl, by omega, ?_, fun hi => by omega⟩
          rw [vb_small (by omega), show i + 1 - i = 1 by omega]
          simp
theorem num_vb {l : List UInt8} {n k : Nat} (h : num l = (n, k, 0)) : vb n = l.take k ∧ 0 < k := by
  obtain ⟨m, hn, hik, hvb, _⟩ := numFrom_vb _ _ _ _ _ _ h
  simp at hn
  subst hn
  exact ⟨by simpa using hvb, hik⟩
theorem zig_zag (n : Nat) : zig (zag n) = n := by
  unfold zag zig
  split <;> split <;> omega
end Go.Proofs.Ytidiohmpmjhbaaa
