/- The readers of layer 1: the number at the front of bytes. -/
import Derived.Test.YtidiohmpmjhbaaaBwB
namespace Go.Proofs.Ytidiohmpmjhbaaa
open Go.RowKit

/-- the number at the front of bytes: itself, how many bytes it has, what is wrong with it -/
def numFrom : Nat → Nat → Nat → List UInt8 → Nat × Nat × Int
  | 0, _, _, _ => (0, 0, 10)
  | _ + 1, _, _, [] => (0, 0, 1)
  | f + 1, i, acc, c :: r =>
    if 128 ≤ c.toNat then numFrom f (i + 1) (acc + c.toNat % 128 * 2 ^ (7 * i)) r
    else if i = 9 ∧ 1 < c.toNat ∨ 0 < i ∧ c.toNat = 0 then (0, 0, 10)
    else (acc + c.toNat * 2 ^ (7 * i), i + 1, 0)
theorem numFrom_zero (i acc : Nat) (l : List UInt8) : numFrom 0 i acc l = (0, 0, 10) := by cases l <;> rfl
def num (l : List UInt8) : Nat × Nat × Int := numFrom 10 0 0 l

theorem Reads.byte {w : World} {B n : Nat} {A : Option Addr} {xs : List UInt8} (h : Reads w B 1 A n (bc xs)) {k : Nat} (hk : k < xs.length) : ∃ ad, A = some ad ∧ ad.block < B ∧ w.cell? (ad.add k) = some (.int .u8 ((xs[k].toNat : Nat) : Int)) := by
  have hn := h.1
  rw [bc_len] at hn
  obtain ⟨ad, u, hA, hb, hu, hc⟩ := h.at_ (k := k) (by omega)
  refine ⟨ad, hA, hb, hc.trans ?_⟩
  rw [← hu]
  simp [bc, List.getElem?_eq_getElem hk]
/-- what the reader's loop lays over the number so far -/
def lay (acc x k : Nat) : Int := bits BinOp.or IntKind.u64 (acc : Int) (IntKind.u64.wrap (IntKind.u64.wrap (bits BinOp.and IntKind.u8 (x : Int) 127) * 2 ^ (7 * k)))
theorem wrapN (a : Nat) (h : a < 18446744073709551616) : IntKind.u64.wrap (a : Int) = (a : Int) := by rw [IntKind.wrap_u64]; omega
theorem and127u8 (x : Nat) (h : x < 256) : bits BinOp.and IntKind.u8 (x : Int) 127 = ((x % 128 : Nat) : Int) := by
  have h1 := u8_and_nat x 127 h (by decide)
  have e : ((127 : Nat) : Int) = 127 := rfl
  rw [e] at h1
  rw [h1, show (127 : Nat) = 2 ^ 7 - 1 from rfl, Nat.and_two_pow_sub_one_eq_mod]
theorem lay_nat (acc x k : Nat) (hx : x < 256) (ha : acc < 18446744073709551616) : lay acc x k = ((acc ||| (x % 128 * 2 ^ (7 * k)) % 18446744073709551616 : Nat) : Int) := by
  unfold lay
  rw [and127u8 x hx, wrapN _ (by omega)]
  have e : ((x % 128 : Nat) : Int) * 2 ^ (7 * k) = ((x % 128 * 2 ^ (7 * k) : Nat) : Int) := by simp
  rw [e]
  have e2 : IntKind.u64.wrap ((x % 128 * 2 ^ (7 * k) : Nat) : Int) = ((x % 128 * 2 ^ (7 * k) % 18446744073709551616 : Nat) : Int) := by rw [IntKind.wrap_u64]; omega
  rw [e2, bits_or_u64_nat _ _ ha (Nat.mod_lt _ (by decide))]
theorem lay_eq (acc x k : Nat) (hx : x < 256) (ha : acc < 2 ^ (7 * k)) (hk : k ≤ 8 ∨ k = 9 ∧ x ≤ 1) : lay acc x k = ((acc + x % 128 * 2 ^ (7 * k) : Nat) : Int) := by
  have hp : x % 128 * 2 ^ (7 * k) < 18446744073709551616 := by
    rcases hk with h | ⟨rfl, h⟩
    · have h1 : 2 ^ (7 * k) ≤ 2 ^ 56 := Nat.pow_le_pow_right (by decide) (by omega)
      have h2 : x % 128 * 2 ^ (7 * k) ≤ 127 * 2 ^ 56 := Nat.mul_le_mul (by omega) h1
      omega
    · omega
  have ha2 : acc < 18446744073709551616 := by
    have h1 : 2 ^ (7 * k) ≤ 2 ^ 63 := Nat.pow_le_pow_right (by decide) (by omega)
    omega
  rw [lay_nat acc x k hx ha2, Nat.mod_eq_of_lt hp, Nat.mul_comm, Nat.or_comm, ← Nat.two_pow_add_eq_or_of_lt ha]
  omega
theorem lay_lt (acc x k : Nat) (hx : x < 256) (ha : acc < 18446744073709551616) : ∃ m : Nat, lay acc x k = m ∧ m < 18446744073709551616 :=
  ⟨_, lay_nat acc x k hx ha, Nat.or_lt_two_pow (n := 64) ha (Nat.mod_lt _ (by decide))⟩
theorem acc_lt (acc x k : Nat) (ha : acc < 2 ^ (7 * k)) : acc + x % 128 * 2 ^ (7 * k) < 2 ^ (7 * (k + 1)) := by
  have h : x % 128 * 2 ^ (7 * k) ≤ 127 * 2 ^ (7 * k) := Nat.mul_le_mul_right _ (by omega)
  have e : 2 ^ (7 * (k + 1)) = 128 * 2 ^ (7 * k) := by rw [show 7 * (k + 1) = 7 + 7 * k by omega, Nat.pow_add]
  rw [e]
  omega
theorem ret_int3 {k1 k2 k3 : IntKind} {a1 a2 a3 b1 b2 b3 : Int} (h1 : a1 = b1) (h2 : a2 = b2) (h3 : a3 = b3) : Ending.returned (.tuple #[.int k1 a1, .int k2 a2, .int k3 a3]) = .returned (.tuple #[.int k1 b1, .int k2 b2, .int k3 b3]) := by rw [h1, h2, h3]

set_option maxHeartbeats 2000000 in
set_option maxRecDepth 100000 in
theorem number_any (A : Option Addr) (c B : Nat) (xs : List UInt8) (w : World) (hr : Reads w B 1 A xs.length (bc xs)) (hl : xs.length ≤ 140737488355328) :
    Calls Try.prog 49 #[.slice A xs.length c] w fun e w' => e = .returned (.tuple #[.int .u64 (num xs).1, .int .i64 (num xs).2.1, .int .i64 (num xs).2.2]) ∧ w = w' := by
  go_enter Try.func49, Try.ntmps49
  go_wp2
  go_loop [5, 8] (fun n i => ∃ k acc : Nat, k ≤ 10 ∧ k ≤ xs.length ∧ i = .int .i64 k ∧ n = .int .u64 acc ∧ numFrom (10 - k) k acc (xs.drop k) = num xs ∧ (k ≤ 9 → acc < 2 ^ (7 * k)) ∧ acc < 18446744073709551616) (fun _ i => 10 - (intOf i).toNat)
  case atStart => exact ⟨0, 0, by omega, by omega, rfl, rfl, rfl, by simp, by omega⟩
  case round =>
    obtain ⟨k, acc, hk, hkl, rfl, rfl, hnum, hacc, hacc2⟩ := hrel
    have H := Lib.hid hnum
    have Ha := Lib.hid hacc
    clear hnum hacc
    by_cases h10 : k < 10
    · by_cases hend : k = xs.length
      · have hb : ((k : Int) == (xs.length : Int)) = true := by rw [beq_iff_eq]; omega
        have hf : Hid (num xs = (0, 0, 1)) := by
          unfold Hid
          rw [← H.out, List.drop_of_length_le (by omega)]
          obtain ⟨f, hf⟩ : ∃ f, 10 - k = f + 1 := ⟨9 - k, by omega⟩
          rw [hf]
          rfl
        go_wp2
        go_ret3
        exact ⟨by rw [hf.out]; rfl, rfl⟩
      · have hb : ((k : Int) == (xs.length : Int)) = false := by rw [beq_eq_false_iff_ne]; omega
        have hlt : k < xs.length := by omega
        obtain ⟨ad, rfl, _, hc⟩ := hr.byte hlt
        have hx := UInt8.toNat_lt xs[k]
        have hd : xs.drop k = xs[k] :: xs.drop (k + 1) := List.drop_eq_getElem_cons hlt
        obtain ⟨f, hf⟩ : ∃ f, 10 - k = f + 1 := ⟨9 - k, by omega⟩
        have hN : numFrom (10 - k) k acc (xs.drop k) = if 128 ≤ xs[k].toNat then numFrom (10 - (k + 1)) (k + 1) (acc + xs[k].toNat % 128 * 2 ^ (7 * k)) (xs.drop (k + 1))
            else if k = 9 ∧ 1 < xs[k].toNat ∨ 0 < k ∧ xs[k].toNat = 0 then (0, 0, 10) else (acc + xs[k].toNat * 2 ^ (7 * k), k + 1, 0) := by
          rw [hd, hf, show 10 - (k + 1) = f by omega]
          rfl
        rw [H.out] at hN
        have HN := Lib.hid hN
        clear hN hd hf
        generalize xs[k].toNat = x at *
        by_cases h128 : 128 ≤ x
        · have hN2 : Hid (numFrom (10 - (k + 1)) (k + 1) (acc + x % 128 * 2 ^ (7 * k)) (xs.drop (k + 1)) = num xs) := by unfold Hid; rw [HN.out, if_pos h128]
          have hstop : Hid (k = 9 → numFrom (10 - (k + 1)) (k + 1) (lay acc x k).toNat (xs.drop (k + 1)) = num xs) := by
            intro h9
            subst h9
            rw [← hN2.out, show 10 - (9 + 1) = 0 from rfl, numFrom_zero, numFrom_zero]
          obtain ⟨m, hm, hm2⟩ := lay_lt acc x k hx hacc2
          have Hm := Lib.hid hm
          clear hm
          go_wp2
          go_round
          case rel =>
            by_cases h9 : k = 9
            · exact ⟨k + 1, m, by omega, by omega, by go_num, by rw [← Hm.out]; rfl, by have := hstop.out h9; rw [Hm.out] at this; simpa using this, by omega, hm2⟩
            · have hal := Ha.out (by omega)
              have hle := lay_eq acc x k hx hal (.inl (by omega))
              have hlt2 := acc_lt acc x k hal
              have h63 : 2 ^ (7 * (k + 1)) ≤ 2 ^ 63 := Nat.pow_le_pow_right (by decide) (by omega)
              exact ⟨k + 1, acc + x % 128 * 2 ^ (7 * k), by omega, by omega, by go_num, by rw [← hle]; rfl, hN2.out, fun _ => hlt2, by omega⟩
          case measure => simp [intOf]; omega
        · have h128' : x < 128 := by omega
          have hN3 : Hid (num xs = if k = 9 ∧ 1 < x ∨ 0 < k ∧ x = 0 then (0, 0, 10) else (acc + x * 2 ^ (7 * k), k + 1, 0)) := by unfold Hid; rw [HN.out, if_neg h128]
          have hv : Hid (¬ (k = 9 ∧ 1 < x ∨ 0 < k ∧ x = 0) → lay acc x k = ((acc + x * 2 ^ (7 * k) : Nat) : Int)) := by
            intro hok
            rw [lay_eq acc x k hx (Ha.out (by omega)) (by omega), Nat.mod_eq_of_lt h128']
          clear h128
          rcases (show k = 9 ∨ (k < 9 ∧ 0 < k) ∨ k = 0 by omega) with hk1 | hk1 | hk1 <;> rcases (show 1 < x ∨ x = 1 ∨ x = 0 by omega) with hx1 | hx1 | hx1
          · have b9 : ((k : Int) == 9) = true := beq_iff_eq.2 (by omega)
            have bx : ((x : Int) == 0) = false := beq_eq_false_iff_ne.2 (by omega)
            have hpos : 0 < k := by omega
            have hx2 : 1 < x := by omega
            have hf : Hid (num xs = (0, 0, 10)) := by unfold Hid; rw [hN3.out, if_pos (by omega)]
            clear hk1 hx1
            go_wp2
            go_ret3
            exact ⟨by rw [hf.out]; rfl, rfl⟩
          · have b9 : ((k : Int) == 9) = true := beq_iff_eq.2 (by omega)
            have bx : ((x : Int) == 0) = false := beq_eq_false_iff_ne.2 (by omega)
            have hpos : 0 < k := by omega
            have hx2 : x ≤ 1 := by omega
            have hf : Hid (num xs = (acc + x * 2 ^ (7 * k), k + 1, 0)) := by unfold Hid; rw [hN3.out, if_neg (by omega)]
            have hvv := Lib.hid (hv.out (by omega))
            clear hk1 hx1
            go_wp2
            go_ret3
            exact ⟨by rw [hf.out]; exact ret_int3 hvv.out (by show _ = ((k + 1 : Nat) : Int); omega) rfl, rfl⟩
          · have b9 : ((k : Int) == 9) = true := beq_iff_eq.2 (by omega)
            have bx : ((x : Int) == 0) = true := beq_iff_eq.2 (by omega)
            have hpos : 0 < k := by omega
            have hx2 : x ≤ 1 := by omega
            have hf : Hid (num xs = (0, 0, 10)) := by unfold Hid; rw [hN3.out, if_pos (by omega)]
            clear hk1 hx1
            go_wp2
            go_ret3
            exact ⟨by rw [hf.out]; rfl, rfl⟩
          · have b9 : ((k : Int) == 9) = false := beq_eq_false_iff_ne.2 (by omega)
            have bx : ((x : Int) == 0) = false := beq_eq_false_iff_ne.2 (by omega)
            have hpos : 0 < k := by omega
            have hx2 : 1 < x := by omega
            have hf : Hid (num xs = (acc + x * 2 ^ (7 * k), k + 1, 0)) := by unfold Hid; rw [hN3.out, if_neg (by omega)]
            have hvv := Lib.hid (hv.out (by omega))
            clear hk1 hx1
            go_wp2
            go_ret3
            exact ⟨by rw [hf.out]; exact ret_int3 hvv.out (by show _ = ((k + 1 : Nat) : Int); omega) rfl, rfl⟩
          · have b9 : ((k : Int) == 9) = false := beq_eq_false_iff_ne.2 (by omega)
            have bx : ((x : Int) == 0) = false := beq_eq_false_iff_ne.2 (by omega)
            have hpos : 0 < k := by omega
            have hx2 : x ≤ 1 := by omega
            have hf : Hid (num xs = (acc + x * 2 ^ (7 * k), k + 1, 0)) := by unfold Hid; rw [hN3.out, if_neg (by omega)]
            have hvv := Lib.hid (hv.out (by omega))
            clear hk1 hx1
            go_wp2
            go_ret3
            exact ⟨by rw [hf.out]; exact ret_int3 hvv.out (by show _ = ((k + 1 : Nat) : Int); omega) rfl, rfl⟩
          · have b9 : ((k : Int) == 9) = false := beq_eq_false_iff_ne.2 (by omega)
            have bx : ((x : Int) == 0) = true := beq_iff_eq.2 (by omega)
            have hpos : 0 < k := by omega
            have hx2 : x ≤ 1 := by omega
            have hf : Hid (num xs = (0, 0, 10)) := by unfold Hid; rw [hN3.out, if_pos (by omega)]
            clear hk1 hx1
            go_wp2
            go_ret3
            exact ⟨by rw [hf.out]; rfl, rfl⟩
          · have b9 : ((k : Int) == 9) = false := beq_eq_false_iff_ne.2 (by omega)
            have bx : ((x : Int) == 0) = false := beq_eq_false_iff_ne.2 (by omega)
            have hpos : k ≤ 0 := by omega
            have hx2 : 1 < x := by omega
            have hf : Hid (num xs = (acc + x * 2 ^ (7 * k), k + 1, 0)) := by unfold Hid; rw [hN3.out, if_neg (by omega)]
            have hvv := Lib.hid (hv.out (by omega))
            clear hk1 hx1
            go_wp2
            go_ret3
            exact ⟨by rw [hf.out]; exact ret_int3 hvv.out (by show _ = ((k + 1 : Nat) : Int); omega) rfl, rfl⟩
          · have b9 : ((k : Int) == 9) = false := beq_eq_false_iff_ne.2 (by omega)
            have bx : ((x : Int) == 0) = false := beq_eq_false_iff_ne.2 (by omega)
            have hpos : k ≤ 0 := by omega
            have hx2 : x ≤ 1 := by omega
            have hf : Hid (num xs = (acc + x * 2 ^ (7 * k), k + 1, 0)) := by unfold Hid; rw [hN3.out, if_neg (by omega)]
            have hvv := Lib.hid (hv.out (by omega))
            clear hk1 hx1
            go_wp2
            go_ret3
            exact ⟨by rw [hf.out]; exact ret_int3 hvv.out (by show _ = ((k + 1 : Nat) : Int); omega) rfl, rfl⟩
          · have b9 : ((k : Int) == 9) = false := beq_eq_false_iff_ne.2 (by omega)
            have bx : ((x : Int) == 0) = true := beq_iff_eq.2 (by omega)
            have hpos : k ≤ 0 := by omega
            have hx2 : x ≤ 1 := by omega
            have hf : Hid (num xs = (acc + x * 2 ^ (7 * k), k + 1, 0)) := by unfold Hid; rw [hN3.out, if_neg (by omega)]
            have hvv := Lib.hid (hv.out (by omega))
            clear hk1 hx1
            go_wp2
            go_ret3
            exact ⟨by rw [hf.out]; exact ret_int3 hvv.out (by show _ = ((k + 1 : Nat) : Int); omega) rfl, rfl⟩
    · obtain rfl : k = 10 := by omega
      have hf : Hid (num xs = (0, 0, 10)) := by
        unfold Hid
        rw [← H.out, show 10 - 10 = 0 from rfl, numFrom_zero]
      go_wp2
      go_ret3
      exact ⟨by rw [hf.out]; rfl, rfl⟩
end Go.Proofs.Ytidiohmpmjhbaaa
