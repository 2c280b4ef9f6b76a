/- BufBack: what was written is read back: the plain law. -/
import Derived.Test.YtidiohmpmjhbaaaBoC
namespace Go.Proofs.Ytidiohmpmjhbaaa
open Go.RowKit

theorem numFrom_back : ∀ (f i acc m : Nat) (l : List UInt8), f + i = 10 → m < 2 ^ (64 - 7 * i) → (0 < i → 1 ≤ m) → numFrom f i acc (vb m ++ l) = (acc + m * 2 ^ (7 * i), i + (vb m).length, 0) := by
  intro f
  induction f with
  | zero =>
    intro i acc m l hi hm h1
    obtain rfl : i = 10 := by omega
    have := h1 (by omega)
    simp at hm
    omega
  | succ f ih =>
    intro i acc m l hi hm h1
    by_cases h : m < 128
    · rw [vb_small h]
      have e : (UInt8.ofNat m).toNat = m := by simp; omega
      simp only [List.cons_append, List.nil_append, numFrom, e]
      rw [if_neg (by omega), if_neg]
      · simp
      · rintro (⟨h9, h2⟩ | ⟨h0, h2⟩)
        · subst h9
          simp at hm
          omega
        · have := h1 h0
          omega
    · rw [vb_big h]
      have e : (UInt8.ofNat (m % 128 + 128)).toNat = m % 128 + 128 := by simp; omega
      have hi8 : i ≤ 8 := by
        rcases Nat.lt_or_ge 8 i with h9 | h9
        · have h64 : 2 ^ (64 - 7 * i) ≤ 2 ^ 1 := Nat.pow_le_pow_right (by decide) (by omega)
          omega
        · exact h9
      have hp : 2 ^ (64 - 7 * i) = 128 * 2 ^ (64 - 7 * (i + 1)) := by
        rw [show 64 - 7 * i = 7 + (64 - 7 * (i + 1)) by omega, Nat.pow_add]
      have hd : m / 128 < 2 ^ (64 - 7 * (i + 1)) := by rw [hp] at hm; omega
      simp only [List.cons_append, numFrom, e]
      rw [if_pos (by omega), show (m % 128 + 128) % 128 = m % 128 by omega, ih (i + 1) _ _ l (by omega) hd (fun _ => by omega)]
      have hpw : 2 ^ (7 * (i + 1)) = 128 * 2 ^ (7 * i) := by rw [show 7 * (i + 1) = 7 + 7 * i by omega, Nat.pow_add]
      have hsum : m % 128 * 2 ^ (7 * i) + m / 128 * (128 * 2 ^ (7 * i)) = m * 2 ^ (7 * i) := by
        rw [← Nat.mul_assoc, ← Nat.add_mul]
        congr 1
        omega
      rw [hpw, Nat.add_assoc, hsum, List.length_cons]
      simp only [Prod.mk.injEq, and_true, true_and]
      omega
theorem num_back (n : Nat) (hn : n < 18446744073709551616) (l : List UInt8) : num (vb n ++ l) = (n, (vb n).length, 0) := by
  have := numFrom_back 10 0 0 n l rfl (by simpa using hn) (by simp)
  unfold num
  rw [this]
  simp
theorem zag_zig (n : Int) : zag (zig n) = n := by
  unfold zag zig
  split <;> split <;> omega
theorem back_byte {R : Rd} (he : R.e = 0) (n : Nat) (hn : n < 256) (l : List UInt8) (hr : R.rest = [UInt8.ofNat n] ++ l) : R.byte = (n, { R with at_ := R.at_ + 1 }) := by
  unfold Rd.byte
  rw [if_pos he, hr]
  have e : (UInt8.ofNat n).toNat = n := by simp; omega
  simp [byteV, byteK, byteE, Rd.step]
  omega
theorem back_uint {R : Rd} (he : R.e = 0) (n : Nat) (hn : n < 18446744073709551616) (l : List UInt8) (hr : R.rest = vb n ++ l) : R.uint = (n, { R with at_ := R.at_ + (vb n).length }) := by
  unfold Rd.uint
  rw [if_pos he, hr, num_back n hn]
  rfl
theorem back_int {R : Rd} (he : R.e = 0) (n : Int) (h1 : -9223372036854775808 ≤ n) (h2 : n ≤ 9223372036854775807) (l : List UInt8) (hr : R.rest = vb (zig n) ++ l) : R.int = (n, { R with at_ := R.at_ + (vb (zig n)).length }) := by
  unfold Rd.int
  rw [back_uint he (zig n) (zig_lt h1 h2) l hr, zag_zig]
theorem back_text {R : Rd} (he : R.e = 0) (s : ByteArray) (hs : s.size < 18446744073709551616) (l : List UInt8) (hr : R.rest = tb s ++ l) : R.text s.size = (sb s, { R with at_ := R.at_ + (tb s).length }) := by
  have hn : num R.rest = (s.size, (vb s.size).length, 0) := by
    rw [hr]
    unfold tb
    rw [List.append_assoc]
    exact num_back _ hs _
  have hl : R.rest.length = (vb s.size).length + s.size + l.length := by rw [hr]; unfold tb; simp [sb_len]; omega
  have hE : textE s.size R.rest = 0 := by
    unfold textE
    rw [hn]
    simp only
    rw [if_neg (by simp), if_neg (by omega), if_neg (by omega)]
  have hK : textK s.size R.rest = (tb s).length := by
    unfold textK
    rw [if_pos hE, hn]
    unfold tb
    simp [sb_len]
  have hS : textS s.size R.rest = sb s := by
    unfold textS
    rw [if_pos hE, hn, hr]
    unfold tb
    simp only
    rw [List.append_assoc, List.drop_left, List.take_append_of_le_length (by rw [sb_len]; exact Nat.le_refl _), List.take_of_length_le (by rw [sb_len]; exact Nat.le_refl _)]
  unfold Rd.text
  rw [if_pos he, hE, hK, hS]
  rfl
theorem back_raw {R : Rd} (he : R.e = 0) (ys l : List UInt8) (hr : R.rest = ys ++ l) : R.raw ys.length = (ys, { R with at_ := R.at_ + ys.length }) := by
  have hl : R.rest.length = ys.length + l.length := by rw [hr]; simp
  have hE : rawE ys.length R.rest = 0 := by
    unfold rawE
    rw [if_neg (by omega), if_neg (by omega)]
  obtain ⟨hK, hS⟩ := rawS_ok hE
  unfold Rd.raw
  rw [if_pos he, hE, hK, hS, hr, show ((ys.length : Int)).toNat = ys.length by omega, List.take_left]
  rfl
end Go.Proofs.Ytidiohmpmjhbaaa
