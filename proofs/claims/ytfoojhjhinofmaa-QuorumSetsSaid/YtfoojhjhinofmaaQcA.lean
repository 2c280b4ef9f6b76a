/- The walks of the counting functions of layer 7: what Need, low, OnesCount64, Bits, Won and Lost come to, for every argument. -/
import Derived.Test.YtfoojhjhinofmaaProg
import Derived.Test.YtfoojhjhinofmaaPop
import Derived.WalkKit
import Derived.KernelRfl
import Derived.Lib.Hide
namespace Go.Proofs.Ytfoojhjhinofmaa
open Go.RowKit

theorem ret_int {k : IntKind} {a b : Int} (h : a = b) : Ending.returned (.int k a) = .returned (.int k b) := by rw [h]
theorem ret_bool {a b : Bool} (h : a = b) : Ending.returned (.bool a) = .returned (.bool b) := by rw [h]

def needF (n : Int) : Int := if n < 1 then 0 else if 64 < n then 0 else n / 2 + 1
theorem needF_no {n : Int} (h : n < 1 ∨ 64 < n) : needF n = 0 := by
  unfold needF
  rcases h with h | h
  · rw [if_pos h]
  · rw [if_neg (by omega), if_pos h]
theorem needF_yes {n : Int} (h1 : 1 ≤ n) (h2 : n ≤ 64) : needF n = n / 2 + 1 := by
  unfold needF
  rw [if_neg (by omega), if_neg (by omega)]
theorem needF_bd (n : Int) : 0 ≤ needF n ∧ needF n ≤ 33 := by
  unfold needF
  split
  · omega
  · split <;> omega
set_option maxHeartbeats 400000 in
theorem need_any (n : Int) (w : World) : Calls Try.prog 10 #[.int .i64 n] w fun e w' => e = .returned (.int .i64 (needF n)) ∧ w = w' := by
  by_cases h : n < 1
  · have hf := Lib.hid (needF_no (.inl h))
    go_enter Try.func10, Try.ntmps10
    go_wp2
    go_ret
    exact ⟨ret_int hf.out.symm, rfl⟩
  · by_cases h' : 64 < n
    · have hf := Lib.hid (needF_no (.inr h'))
      go_enter Try.func10, Try.ntmps10
      go_wp2
      go_ret
      exact ⟨ret_int hf.out.symm, rfl⟩
    · have hf := Lib.hid (needF_yes (n := n) (by omega) (by omega))
      go_enter Try.func10, Try.ntmps10
      go_wp2
      go_ret
      exact ⟨ret_int hf.out.symm, rfl⟩
set_option maxHeartbeats 400000 in
theorem refNeed_any (n : Int) (w : World) : Calls Try.prog 11 #[.int .i64 n] w fun e w' => e = .returned (.int .i64 (needF n)) ∧ w = w' := by
  by_cases h : n < 1
  · have hf := Lib.hid (needF_no (.inl h))
    go_enter Try.func11, Try.ntmps11
    go_wp2
    go_ret
    exact ⟨ret_int hf.out.symm, rfl⟩
  · by_cases h' : 64 < n
    · have hf := Lib.hid (needF_no (.inr h'))
      go_enter Try.func11, Try.ntmps11
      go_wp2
      go_ret
      exact ⟨ret_int hf.out.symm, rfl⟩
    · have hf := Lib.hid (needF_yes (n := n) (by omega) (by omega))
      go_enter Try.func11, Try.ntmps11
      go_wp2
      go_ret
      exact ⟨ret_int hf.out.symm, rfl⟩

/-- the library's count -/
def onesF (x : Nat) : Int := pc 64 x
theorem onesF_bd (x : Nat) : 0 ≤ onesF x ∧ onesF x ≤ 64 := by have := pc_le 64 x; unfold onesF; omega
theorem wrapN (a : Nat) (h : a < 18446744073709551616) : IntKind.u64.wrap (a : Int) = (a : Int) := by rw [IntKind.wrap_u64]; omega
theorem ones_eq (x : Nat) (h : x < 18446744073709551616) (Y Z T : Int)
    (hY : Y = IntKind.u64.wrap (bits BinOp.and IntKind.u64 ((x : Int) / 2) 6148914691236517205 + bits BinOp.and IntKind.u64 (x : Int) 6148914691236517205))
    (hZ : Z = IntKind.u64.wrap (bits BinOp.and IntKind.u64 (Y / 4) 3689348814741910323 + bits BinOp.and IntKind.u64 Y 3689348814741910323))
    (hT : T = bits BinOp.and IntKind.u64 (IntKind.u64.wrap (Z / 16 + Z)) 1085102592571150095) : T = ((by8 (pc 8) 8 x : Nat) : Int) := by
  obtain ⟨y, z, hy, hy', hz, hz', hs, e⟩ := steps x
  have a1 := u64_and_nat (x / 2) 6148914691236517205 (by omega) (by decide)
  have a2 := u64_and_nat x 6148914691236517205 h (by decide)
  have d2 : ((x / 2 : Nat) : Int) = (x : Int) / 2 := by omega
  rw [d2] at a1
  have c1 : ((6148914691236517205 : Nat) : Int) = 6148914691236517205 := rfl
  have c2 : ((3689348814741910323 : Nat) : Int) = 3689348814741910323 := rfl
  have c3 : ((1085102592571150095 : Nat) : Int) = 1085102592571150095 := rfl
  rw [c1] at a1 a2
  have hY' : Y = (y : Int) := by rw [hY, a1, a2, ← Int.natCast_add, hy, wrapN y hy']
  subst hY'
  have b1 := u64_and_nat (y / 4) 3689348814741910323 (by omega) (by decide)
  have b2 := u64_and_nat y 3689348814741910323 hy' (by decide)
  have d4 : ((y / 4 : Nat) : Int) = (y : Int) / 4 := by omega
  rw [d4] at b1
  rw [c2] at b1 b2
  have hZ' : Z = (z : Int) := by rw [hZ, b1, b2, ← Int.natCast_add, hz, wrapN z hz']
  subst hZ'
  have d16 : (z : Int) / 16 + (z : Int) = ((z / 16 + z : Nat) : Int) := by omega
  have e1 := u64_and_nat (z / 16 + z) 1085102592571150095 hs (by decide)
  rw [c3] at e1
  rw [hT, d16, wrapN _ hs, e1, e]
theorem p63 : (2 : Int) ^ 63 = 9223372036854775808 := by decide
theorem p7 : (2 : Int) ^ 7 - 1 = 127 := by decide
theorem p7' : (2 : Int) ^ 7 = 128 := by decide
theorem w63 (n : Int) (_ : 0 ≤ n) (b : n < 2 ^ 63) : IntKind.i64.wrap n = n := by rw [p63] at b; rw [IntKind.wrap_i64]; omega
theorem and127 (c : Nat) (h : c < 9223372036854775808) : bits BinOp.and IntKind.i64 (c : Int) 127 = (c : Int) % 128 := by
  have h' : (c : Int) < 2 ^ 63 := by rw [p63]; omega
  have e := bits_mask .i64 63 (by decide) w63 7 (by decide) (c : Int) (by omega) h'
  rw [p7, p7'] at e
  exact e
theorem ones_end (x : Nat) (h : x < 18446744073709551616) (Y Z T A B : Int)
    (hY : IntKind.u64.wrap (bits BinOp.and IntKind.u64 ((x : Int) / 2) 6148914691236517205 + bits BinOp.and IntKind.u64 (x : Int) 6148914691236517205) = Y)
    (hZ : IntKind.u64.wrap (bits BinOp.and IntKind.u64 (Y / 4) 3689348814741910323 + bits BinOp.and IntKind.u64 Y 3689348814741910323) = Z)
    (hT : bits BinOp.and IntKind.u64 (IntKind.u64.wrap (Z / 16 + Z)) 1085102592571150095 = T) (hA : IntKind.u64.wrap (T + T / 256) = A) (hB : IntKind.u64.wrap (A + A / 65536) = B) :
    bits BinOp.and IntKind.i64 (wrap64 (IntKind.u64.wrap (B + B / 4294967296))) 127 = onesF x := by
  have e := ones_eq x h Y Z T hY.symm hZ.symm hT.symm
  obtain ⟨h8, hb⟩ := sum8 x _ _ _ rfl rfl rfl
  generalize by8 (pc 8) 8 x = t at *
  subst e
  rw [IntKind.wrap_u64] at hA hB ⊢
  have hA' : A = (((t + t / 256) % 18446744073709551616 : Nat) : Int) := by omega
  clear hY hZ hT hA
  generalize (t + t / 256) % 18446744073709551616 = a at *
  subst hA'
  have hB' : B = (((a + a / 65536) % 18446744073709551616 : Nat) : Int) := by omega
  generalize (a + a / 65536) % 18446744073709551616 = b at *
  subst hB'
  have e1 : ((b : Int) + (b : Int) / 4294967296) % 18446744073709551616 = (((b + b / 4294967296) % 18446744073709551616 : Nat) : Int) := by omega
  rw [e1]
  generalize (b + b / 4294967296) % 18446744073709551616 = c at *
  have e2 : wrap64 (c : Int) = c := by unfold wrap64; omega
  have e3 := and127 c hb
  rw [e2, e3]
  unfold onesF
  omega
set_option maxHeartbeats 400000 in
theorem ones_any (x : Nat) (w : World) (h2 : x < 18446744073709551616) :
    Calls Try.prog 23 #[.int .u64 x] w fun e w' => e = .returned (.int .i64 (onesF x)) ∧ w = w' := by
  have H := Lib.hid (ones_end x h2)
  go_enter Try.func23, Try.ntmps23
  go_wp2
  go_ret
  generalize h1 : IntKind.u64.wrap (bits BinOp.and IntKind.u64 ((x : Int) / 2) 6148914691236517205 + bits BinOp.and IntKind.u64 (x : Int) 6148914691236517205) = Y
  generalize h2 : IntKind.u64.wrap (bits BinOp.and IntKind.u64 (Y / 4) 3689348814741910323 + bits BinOp.and IntKind.u64 Y 3689348814741910323) = Z
  generalize h3 : bits BinOp.and IntKind.u64 (IntKind.u64.wrap (Z / 16 + Z)) 1085102592571150095 = T
  generalize h4 : IntKind.u64.wrap (T + T / 256) = A
  generalize h5 : IntKind.u64.wrap (A + A / 65536) = B
  exact ⟨ret_int (H.out Y Z T A B h1 h2 h3 h4 h5), rfl⟩

/-- so many of the lowest bits, as the reference counts them -/
def bitsF (n : Int) (x : Nat) : Int := pc n.toNat x
set_option maxHeartbeats 400000 in
theorem bits_any (n : Int) (x : Nat) (w : World) (h3 : n ≤ 64) :
    Calls Try.prog 22 #[.int .i64 n, .int .u64 x] w fun e w' => e = .returned (.int .i64 (bitsF n x)) ∧ w = w' := by
  go_enter Try.func22, Try.ntmps22
  go_wp2
  go_loop [5, 6] (fun c i => ∃ k : Nat, (k : Int) ≤ max n 0 ∧ i = .int .i64 k ∧ c = .int .i64 (pc k x : Nat)) (fun _ i => (n - intOf i).toNat)
  case atStart => exact ⟨0, by omega, rfl, rfl⟩
  case round =>
    obtain ⟨k, hk, rfl, rfl⟩ := hrel
    have hle := pc_le k x
    by_cases hlt : (k : Int) < n
    · have hs := Lib.hid (pc_snoc k x)
      go_wp2
      go_round
      case rel =>
        refine ⟨k + 1, by omega, by go_num, ?_⟩
        rw [hs.out]
        congr 1
        rw [show ((x : Int) / 2 ^ k) = ((x / 2 ^ k : Nat) : Int) by simp]
        generalize x / 2 ^ k = y
        rw [Int.tmod_eq_emod_of_nonneg (by omega)]
        unfold wrap64
        omega
      case measure => simp [intOf]; omega
    · go_wp2
      go_ret
      exact ⟨ret_int (by unfold bitsF; rw [show n.toNat = k by omega]), rfl⟩

/-- the set of all of n nodes: what low comes to -/
def lowF (n : Int) : Nat := 2 ^ n.toNat - 1
theorem lowF_lt (n : Int) (h2 : n ≤ 64) : lowF n < 18446744073709551616 := by
  have h : 2 ^ n.toNat ≤ 2 ^ 64 := Nat.pow_le_pow_right (by decide) (by omega)
  have : 1 ≤ 2 ^ n.toNat := Nat.one_le_two_pow
  unfold lowF
  omega
theorem low_end (n : Int) (h2 : n < 64) : IntKind.u64.wrap (IntKind.u64.wrap (2 ^ n.toNat) - 1) = (lowF n : Int) := by
  have h : 2 ^ n.toNat ≤ 2 ^ 63 := Nat.pow_le_pow_right (by decide) (by omega)
  have h1 : 1 ≤ 2 ^ n.toNat := Nat.one_le_two_pow
  have e : (2 : Int) ^ n.toNat = ((2 ^ n.toNat : Nat) : Int) := by simp
  rw [e, IntKind.wrap_u64, IntKind.wrap_u64]
  unfold lowF
  omega
set_option maxHeartbeats 400000 in
theorem low_any (n : Int) (w : World) (h1 : 1 ≤ n) (h2 : n ≤ 64) :
    Calls Try.prog 21 #[.int .i64 n] w fun e w' => e = .returned (.int .u64 (lowF n)) ∧ w = w' := by
  by_cases h : 64 ≤ n
  · obtain rfl : n = 64 := by omega
    have hf : Hid ((18446744073709551615 : Int) = (lowF 64 : Nat)) := by unfold Hid lowF; decide
    go_enter Try.func21, Try.ntmps21
    go_wp2
    go_ret
    exact ⟨ret_int hf.out, rfl⟩
  · have hf := Lib.hid (low_end n (by omega))
    go_enter Try.func21, Try.ntmps21
    go_wp2
    go_ret
    exact ⟨ret_int hf.out, rfl⟩

/-- won: so many of them are enough -/
def wonF (n : Int) (x : Nat) : Bool := decide (0 < needF n) && decide (needF n ≤ bitsF n x)
theorem ones_low (n : Int) (x : Nat) (h1 : 1 ≤ n) (h2 : n ≤ 64) : onesF (x &&& lowF n) = bitsF n x := by
  unfold onesF bitsF lowF
  rw [Nat.and_two_pow_sub_one_eq_mod, pc_mod 64 n.toNat x (by omega)]
theorem wonF_no {n : Int} {x : Nat} (h : ¬ 0 < needF n) : wonF n x = false := by unfold wonF; simp [h]
theorem wonF_yes {n : Int} {x : Nat} (h : 0 < needF n) : wonF n x = decide (needF n ≤ bitsF n x) := by unfold wonF; simp [h]
theorem need_pos {n : Int} (h : 0 < needF n) : 1 ≤ n ∧ n ≤ 64 := by
  unfold needF at h
  split at h
  · omega
  · split at h <;> omega
theorem and_low (n : Int) (x : Nat) (h2 : n ≤ 64) (hx : x < 18446744073709551616) : bits BinOp.and IntKind.u64 (x : Int) (lowF n : Int) = ((x &&& lowF n : Nat) : Int) :=
  u64_and_nat x (lowF n) hx (lowF_lt n h2)

set_option maxHeartbeats 400000 in
theorem won_any (n : Int) (x : Nat) (w : World) (hx : x < 18446744073709551616) :
    Calls Try.prog 12 #[.int .i64 n, .int .u64 x] w fun e w' => e = .returned (.bool (wonF n x)) ∧ w = w' := by
  have bd := needF_bd n
  by_cases h : 0 < needF n
  · obtain ⟨h1, h2⟩ := need_pos h
    have ha := and_low n x h2 hx
    have hlt : (x &&& lowF n) < 18446744073709551616 := Nat.lt_of_le_of_lt Nat.and_le_left hx
    have hf := Lib.hid (wonF_yes (x := x) h)
    have ho := Lib.hid (ones_low n x h1 h2)
    go_enter Try.func12, Try.ntmps12
    go_wp2_with (first | (go_at_call 10; refine (need_any _ _).mono ?_; rintro e w' ⟨rfl, rfl⟩) | (go_at_call 21; refine (low_any _ _ h1 h2).mono ?_; rintro e w' ⟨rfl, rfl⟩) | (go_at_call 23; refine (ones_any _ _ hlt).mono ?_; rintro e w' ⟨rfl, rfl⟩))
    go_ret
    exact ⟨ret_bool (by rw [hf.out, ho.out]), rfl⟩
  · have hf := Lib.hid (wonF_no (x := x) h)
    go_enter Try.func12, Try.ntmps12
    go_wp2_with (go_at_call 10; refine (need_any _ _).mono ?_; rintro e w' ⟨rfl, rfl⟩)
    go_ret
    exact ⟨ret_bool hf.out.symm, rfl⟩
set_option maxHeartbeats 400000 in
theorem refWon_any (n : Int) (x : Nat) (w : World) :
    Calls Try.prog 13 #[.int .i64 n, .int .u64 x] w fun e w' => e = .returned (.bool (wonF n x)) ∧ w = w' := by
  have bd := needF_bd n
  by_cases h : 0 < needF n
  · obtain ⟨h1, h2⟩ := need_pos h
    have hf := Lib.hid (wonF_yes (x := x) h)
    go_enter Try.func13, Try.ntmps13
    go_wp2_with (first | (go_at_call 11; refine (refNeed_any _ _).mono ?_; rintro e w' ⟨rfl, rfl⟩) | (go_at_call 22; refine (bits_any _ _ _ h2).mono ?_; rintro e w' ⟨rfl, rfl⟩))
    go_ret
    exact ⟨ret_bool (by rw [hf.out]), rfl⟩
  · have hf := Lib.hid (wonF_no (x := x) h)
    go_enter Try.func13, Try.ntmps13
    go_wp2_with (go_at_call 11; refine (refNeed_any _ _).mono ?_; rintro e w' ⟨rfl, rfl⟩)
    go_ret
    exact ⟨ret_bool hf.out.symm, rfl⟩

/-- lost: no majority can come together any more -/
def lostF (n : Int) (x : Nat) : Bool := decide (0 < needF n) && decide (n - bitsF n x < needF n)
theorem lostF_no {n : Int} {x : Nat} (h : ¬ 0 < needF n) : lostF n x = false := by unfold lostF; simp [h]
theorem lostF_yes {n : Int} {x : Nat} (h : 0 < needF n) : lostF n x = decide (n - bitsF n x < needF n) := by unfold lostF; simp [h]
theorem bits_not (n : Int) (x : Nat) (h1 : 1 ≤ n) (h2 : n ≤ 64) (hx : x < 18446744073709551616) : bitsF n (18446744073709551615 - x) = n - bitsF n x := by
  have e : (x + (18446744073709551615 - x)) % 2 ^ n.toNat = 2 ^ n.toNat - 1 := by
    rw [show x + (18446744073709551615 - x) = 2 ^ 64 - 1 by omega]
    have hd : 2 ^ 64 = 2 ^ (64 - n.toNat) * 2 ^ n.toNat := by rw [← Nat.pow_add]; congr 1; omega
    have hp : 1 ≤ 2 ^ (64 - n.toNat) := Nat.one_le_two_pow
    have hq : 1 ≤ 2 ^ n.toNat := Nat.one_le_two_pow
    obtain ⟨c, hc⟩ : ∃ c, 2 ^ (64 - n.toNat) = c + 1 := ⟨2 ^ (64 - n.toNat) - 1, by omega⟩
    rw [hd, hc, Nat.add_mul, Nat.one_mul, show c * 2 ^ n.toNat + 2 ^ n.toNat - 1 = (2 ^ n.toNat - 1) + 2 ^ n.toNat * c by rw [Nat.mul_comm c]; omega, Nat.add_mul_mod_self_left, Nat.mod_eq_of_lt (by omega)]
  have := pc_not n.toNat x _ e
  unfold bitsF
  omega
theorem lost_won (n : Int) (x : Nat) (h : 0 < needF n) (hx : x < 18446744073709551616) : (!wonF n (18446744073709551615 - x)) = lostF n x := by
  obtain ⟨h1, h2⟩ := need_pos h
  rw [wonF_yes h, lostF_yes h, bits_not n x h1 h2 hx]
  by_cases hc : needF n ≤ n - bitsF n x
  · simp [hc]
  · simp [hc]; omega
theorem xor_all (x : Nat) (hx : x < 18446744073709551616) : bits BinOp.xor IntKind.u64 IntKind.u64.max (x : Int) = ((18446744073709551615 - x : Nat) : Int) := by
  have e : IntKind.u64.max = ((18446744073709551615 : Nat) : Int) := by decide
  rw [e, bits_xor_u64_nat _ _ (by decide) hx]
  congr 1
  apply Nat.eq_of_testBit_eq
  intro i
  have h := Nat.testBit_two_pow_sub_succ (x := x) (n := 64) (by omega) i
  rw [show 18446744073709551615 - x = 2 ^ 64 - (x + 1) by omega, h, Nat.testBit_xor, show (18446744073709551615 : Nat) = 2 ^ 64 - 1 from rfl, Nat.testBit_two_pow_sub_one]
  by_cases hi : i < 64
  · simp [hi]
  · have hz : x.testBit i = false := Nat.testBit_lt_two_pow (Nat.lt_of_lt_of_le (by omega : x < 2 ^ 64) (Nat.pow_le_pow_right (by decide) (by omega)))
    simp [hi, hz]
set_option maxHeartbeats 400000 in
theorem lost_any (n : Int) (x : Nat) (w : World) (hx : x < 18446744073709551616) :
    Calls Try.prog 14 #[.int .i64 n, .int .u64 x] w fun e w' => e = .returned (.bool (lostF n x)) ∧ w = w' := by
  have bd := needF_bd n
  by_cases h : 0 < needF n
  · have hf := Lib.hid (lost_won n x h hx)
    have hsg : IntKind.u64.signed = false := rfl
    go_enter Try.func14, Try.ntmps14
    go_wp2_with (first | (go_at_call 10; refine (need_any _ _).mono ?_; rintro e w' ⟨rfl, rfl⟩))
    rw [xor_all x hx]
    refine (won_any _ _ _ (by omega)).mono ?_
    rintro e w' ⟨rfl, rfl⟩
    go_wp2
    go_ret
    exact ⟨ret_bool hf.out, rfl⟩
  · have hf := Lib.hid (lostF_no (x := x) h)
    go_enter Try.func14, Try.ntmps14
    go_wp2_with (go_at_call 10; refine (need_any _ _).mono ?_; rintro e w' ⟨rfl, rfl⟩)
    go_ret
    exact ⟨ret_bool hf.out.symm, rfl⟩
set_option maxHeartbeats 400000 in
theorem refLost_any (n : Int) (x : Nat) (w : World) :
    Calls Try.prog 15 #[.int .i64 n, .int .u64 x] w fun e w' => e = .returned (.bool (lostF n x)) ∧ w = w' := by
  have bd := needF_bd n
  by_cases h : 0 < needF n
  · obtain ⟨h1, h2⟩ := need_pos h
    have hf := Lib.hid (lostF_yes (x := x) h)
    have hb : 0 ≤ bitsF n x ∧ bitsF n x ≤ n := by have := pc_le n.toNat x; unfold bitsF; omega
    obtain ⟨b1, b2⟩ := hb
    go_enter Try.func15, Try.ntmps15
    go_wp2_with (first | (go_at_call 11; refine (refNeed_any _ _).mono ?_; rintro e w' ⟨rfl, rfl⟩) | (go_at_call 22; refine (bits_any _ _ _ h2).mono ?_; rintro e w' ⟨rfl, rfl⟩))
    go_ret
    exact ⟨ret_bool (by rw [hf.out]), rfl⟩
  · have hf := Lib.hid (lostF_no (x := x) h)
    go_enter Try.func15, Try.ntmps15
    go_wp2_with (go_at_call 11; refine (refNeed_any _ _).mono ?_; rintro e w' ⟨rfl, rfl⟩)
    go_ret
    exact ⟨ret_bool hf.out.symm, rfl⟩

set_option maxHeartbeats 1000000 in
theorem counts_any (n : Int) (x : Nat) (w : World) (hx : x < 18446744073709551616) :
    Calls Try.prog 4 #[.int .i64 n, .int .u64 x] w fun e w' => e = .returned (.bool true) ∧ w = w' := by
  have bd := needF_bd n
  have hn : (needF n == needF n) = true := by simp
  cases hw : wonF n x <;> cases hl : lostF n x
  all_goals
    have hw' := Lib.hid hw
    have hl' := Lib.hid hl
    clear hw hl
    go_enter Try.func4, Try.ntmps4
    go_wp2_with (first | (go_at_call 10; refine (need_any _ _).mono ?_; rintro e w' ⟨rfl, rfl⟩) | (go_at_call 11; refine (refNeed_any _ _).mono ?_; rintro e w' ⟨rfl, rfl⟩) | (go_at_call 12; refine (won_any _ _ _ hx).mono ?_; rintro e w' ⟨rfl, rfl⟩; rw [hw'.out]) | (go_at_call 13; refine (refWon_any _ _ _).mono ?_; rintro e w' ⟨rfl, rfl⟩; rw [hw'.out]) | (go_at_call 14; refine (lost_any _ _ _ hx).mono ?_; rintro e w' ⟨rfl, rfl⟩; rw [hl'.out]) | (go_at_call 15; refine (refLost_any _ _ _).mono ?_; rintro e w' ⟨rfl, rfl⟩; rw [hl'.out]))
    go_ret
    exact ⟨rfl, rfl⟩
theorem counts_row (n x : Int) (w : World) (hx : (Lit.int .u64 x).wf = true) :
    Calls Try.prog 4 #[.int .i64 n, .int .u64 x] w fun e w' => e = .returned (.bool true) ∧ Below w.heap.size w w' := by
  have h : 0 ≤ x ∧ x < 18446744073709551616 := by
    simp [Lit.wf, IntKind.min, IntKind.max, IntKind.bits, IntKind.signed] at hx
    omega
  obtain ⟨m, rfl⟩ := Int.eq_ofNat_of_zero_le h.1
  exact (counts_any n m w (by omega)).mono fun e w' ⟨he, hw⟩ => ⟨he, hw ▸ Below.refl _ _⟩
end Go.Proofs.Ytfoojhjhinofmaa
