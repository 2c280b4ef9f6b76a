/- Layer 7: the law QuorumMeets, walked. (printed by gen_qmb.py) -/
import Derived.Test.YtfoojhjhinofmaaQmA
import Derived.Test.YtfoojhjhinofmaaQiF
namespace Go.Proofs.Ytfoojhjhinofmaa
open Go.RowKit
set_option linter.unusedSimpArgs false
set_option linter.unusedVariables false

theorem mask_eq (j : Nat) (h : j < 64) : (18446744073709551615 : Int) / 2 ^ (64 - (1 + j)) = ((lowF (1 + (j : Int)) : Nat) : Int) := by
  have e1 : (1 + (j : Int)).toNat = j + 1 := by omega
  have e2 : (2 : Int) ^ (64 - (1 + j)) = ((2 ^ (64 - (1 + j)) : Nat) : Int) := by simp
  have e3 : (18446744073709551615 : Int) = ((18446744073709551615 : Nat) : Int) := rfl
  unfold lowF
  rw [e1, e2, e3, ← Int.natCast_ediv]
  congr 1
  have hq : 2 ^ (64 - (1 + j)) * 2 ^ (j + 1) = 2 ^ 64 := by rw [← Nat.pow_add]; congr 1; omega
  have hp : 1 ≤ 2 ^ (64 - (1 + j)) := Nat.one_le_two_pow
  have hp2 : 1 ≤ 2 ^ (j + 1) := Nat.one_le_two_pow
  generalize 2 ^ (64 - (1 + j)) = q at *
  generalize 2 ^ (j + 1) = p at *
  have hpow : (2 : Nat) ^ 64 = 18446744073709551616 := by decide
  rw [hpow] at hq
  refine Nat.div_eq_of_lt_le ?_ ?_
  · rw [Nat.sub_mul, Nat.mul_comm p q, hq]; omega
  · rw [Nat.sub_add_cancel hp2, Nat.mul_comm p q, hq]; omega
set_option maxHeartbeats 4000000 in
set_option maxRecDepth 100000 in
theorem meets_any (n : Int) (a b : Nat) (w : World) (ha : a < 18446744073709551616) (hb : b < 18446744073709551616) :
    Calls Try.prog 6 #[.int .i64 n, .int .u64 a, .int .u64 b] w (Done w) := by
  have HW := Lib.hid (works_any w)
  obtain ⟨j, hj⟩ : ∃ j : Nat, ((n % 18446744073709551616) % 64) = (j : Int) := Int.eq_ofNat_of_zero_le (Int.emod_nonneg _ (by decide))
  have hj64 : j < 64 := by have := Int.emod_lt_of_pos (n % 18446744073709551616) (show (0 : Int) < 64 by decide); omega
  have hw : wrap64 ((IntKind.u64.wrap n).tmod 64) = (j : Int) := by
    rw [IntKind.wrap_u64, Int.tmod_eq_emod_of_nonneg (Int.emod_nonneg _ (by decide)), hj]
    exact IntWalk.wrap64_in _ (by omega)
  clear hj
  have h1 : (1 : Int) ≤ 1 + (j : Int) := by omega
  have h2 : 1 + (j : Int) ≤ 64 := by omega
  have hmask := mask_eq j hj64
  have hmlt := lowF_lt (1 + (j : Int)) h2
  have hmeet := fun x y => @meet (1 + (j : Int)) h1 h2 a b x y
  have hmore := fun x => @won_more (1 + (j : Int)) h1 h2 a b x
  have hlmore := fun x => @lost_more (1 + (j : Int)) h1 h2 a b x
  have hwm := won_mask h1 h2 (a := a)
  have hboth := fun x => won_not_both h1 h2 ha x
  have hlost := lost_not h1 h2 ha
  have hodd := fun x y => won_odd h1 h2 ha x y
  have hna : 18446744073709551615 - a < 18446744073709551616 := by omega
  have hor : bits BinOp.or IntKind.u64 (a : Int) (b : Int) = ((a ||| b : Nat) : Int) := u64_or_nat a b ha hb
  have hand : bits BinOp.and IntKind.u64 (a : Int) (b : Int) = ((a &&& b : Nat) : Int) := u64_and_nat a b ha hb
  have hxor := xor_all a ha
  have hol : a ||| b < 18446744073709551616 := Nat.or_lt_two_pow (n := 64) ha hb
  have hal : a &&& b < 18446744073709551616 := Nat.lt_of_le_of_lt Nat.and_le_left ha
  have hsg : IntKind.u64.signed = false := rfl
  generalize lowF (1 + (j : Int)) = m at *
  have hkl : a &&& m < 18446744073709551616 := Nat.lt_of_le_of_lt Nat.and_le_left ha
  have hand2 : bits BinOp.and IntKind.u64 ((a &&& b : Nat) : Int) (m : Int) = ((a &&& b &&& m : Nat) : Int) := u64_and_nat (a &&& b) m hal hmlt
  have hand3 : bits BinOp.and IntKind.u64 (a : Int) (m : Int) = ((a &&& m : Nat) : Int) := u64_and_nat a m ha hmlt
  generalize hno : 18446744073709551615 - a = na at *
  clear hno
  generalize a ||| b = o at *
  generalize hzz : a &&& b &&& m = z at *
  generalize a &&& b = ab at *
  generalize a &&& m = k at *
  clear hzz
  have CA := fun w1 => won_any (1 + (j : Int)) a w1 ha
  have CB := fun w1 => won_any (1 + (j : Int)) b w1 hb
  have CO := fun w1 => won_any (1 + (j : Int)) o w1 hol
  have CN := fun w1 => won_any (1 + (j : Int)) na w1 hna
  have CK := fun w1 => won_any (1 + (j : Int)) k w1 hkl
  have LA := fun w1 => lost_any (1 + (j : Int)) a w1 ha
  have LO := fun w1 => lost_any (1 + (j : Int)) o w1 hol
  rw [hlost] at LA hlmore
  rw [hwm] at CK
  clear hlost hwm
  have hpar : (1 + (j : Int)) % 2 = 0 ∨ (1 + (j : Int)) % 2 ≠ 0 := by omega
  generalize wonF (1 + (j : Int)) a = wa at *
  generalize wonF (1 + (j : Int)) b = wb at *
  generalize wonF (1 + (j : Int)) o = wo at *
  generalize wonF (1 + (j : Int)) na = wn at *
  generalize lostF (1 + (j : Int)) o = lo at *
  have hcase : (wa = true ∧ wn = false ∧ wo = true ∧ lo = true) ∨ (wa = false ∧ wn = true) ∨ (wa = false ∧ wn = false ∧ lo = true ∧ (1 + (j : Int)) % 2 = 0) := by
    cases wa with
    | true =>
      have e1 := hboth rfl
      subst e1
      exact .inl ⟨rfl, rfl, hmore rfl, hlmore rfl⟩
    | false =>
      cases wn with
      | true => exact .inr (.inl ⟨rfl, rfl⟩)
      | false =>
        refine .inr (.inr ⟨rfl, rfl, hlmore rfl, ?_⟩)
        rcases hpar with h | h
        · exact h
        · exact absurd (hodd h rfl) (by decide)
  have hz : wa = true → wb = true → ((z : Int) == 0) = false := fun h1 h2 => by
    have := hmeet h1 h2
    rw [beq_eq_false_iff_ne]
    omega
  clear hmore hlmore hboth hodd hmeet
  have HCA := Lib.hid CA
  have HCB := Lib.hid CB
  have HCO := Lib.hid CO
  have HCN := Lib.hid CN
  have HCK := Lib.hid CK
  have HLA := Lib.hid LA
  have HLO := Lib.hid LO
  clear CA CB CO CN CK LA LO
  rcases hcase with ⟨rfl, rfl, rfl, rfl⟩ | ⟨rfl, rfl⟩ | ⟨rfl, rfl, rfl, hev⟩
  · cases wb with
    | true =>
      have hz := hz rfl rfl
      rcases hpar with hp | hp
      · have p1 : ((1 + (j : Int)) % 2 == 0) = true := by rw [beq_iff_eq]; exact hp
        clear hp
        go_enter Try.func6, Try.ntmps6
        go_wp2_with fail
        refine HW.out.mono ?_
        clear HW
        rintro e w1 ⟨rfl, hb1⟩
        go_wp2_with fail
        refine (HCA.out _).mono ?_
        rintro e w' ⟨rfl, rfl⟩
        go_wp2_with fail
        refine (HCB.out _).mono ?_
        rintro e w' ⟨rfl, rfl⟩
        go_wp2_with fail
        refine (HCA.out _).mono ?_
        rintro e w' ⟨rfl, rfl⟩
        go_wp2_with fail
        refine (HCO.out _).mono ?_
        rintro e w' ⟨rfl, rfl⟩
        go_wp2_with fail
        refine (HLA.out _).mono ?_
        rintro e w' ⟨rfl, rfl⟩
        go_wp2_with fail
        refine (HLO.out _).mono ?_
        rintro e w' ⟨rfl, rfl⟩
        go_wp2_with fail
        refine (HCA.out _).mono ?_
        rintro e w' ⟨rfl, rfl⟩
        go_wp2_with fail
        refine (HCN.out _).mono ?_
        rintro e w' ⟨rfl, rfl⟩
        go_wp2_with fail
        refine (HLA.out _).mono ?_
        rintro e w' ⟨rfl, rfl⟩
        go_wp2_with fail
        refine (HCN.out _).mono ?_
        rintro e w' ⟨rfl, rfl⟩
        go_wp2_with fail
        refine (HCA.out _).mono ?_
        rintro e w' ⟨rfl, rfl⟩
        go_wp2_with fail
        refine (HCK.out _).mono ?_
        rintro e w' ⟨rfl, rfl⟩
        go_wp2
        go_ret
        exact ⟨rfl, hb1⟩
      · have p1 : ((1 + (j : Int)) % 2 == 0) = false := by rw [beq_eq_false_iff_ne]; exact hp
        clear hp
        go_enter Try.func6, Try.ntmps6
        go_wp2_with fail
        refine HW.out.mono ?_
        clear HW
        rintro e w1 ⟨rfl, hb1⟩
        go_wp2_with fail
        refine (HCA.out _).mono ?_
        rintro e w' ⟨rfl, rfl⟩
        go_wp2_with fail
        refine (HCB.out _).mono ?_
        rintro e w' ⟨rfl, rfl⟩
        go_wp2_with fail
        refine (HCA.out _).mono ?_
        rintro e w' ⟨rfl, rfl⟩
        go_wp2_with fail
        refine (HCO.out _).mono ?_
        rintro e w' ⟨rfl, rfl⟩
        go_wp2_with fail
        refine (HLA.out _).mono ?_
        rintro e w' ⟨rfl, rfl⟩
        go_wp2_with fail
        refine (HLO.out _).mono ?_
        rintro e w' ⟨rfl, rfl⟩
        go_wp2_with fail
        refine (HCA.out _).mono ?_
        rintro e w' ⟨rfl, rfl⟩
        go_wp2_with fail
        refine (HCN.out _).mono ?_
        rintro e w' ⟨rfl, rfl⟩
        go_wp2_with fail
        refine (HLA.out _).mono ?_
        rintro e w' ⟨rfl, rfl⟩
        go_wp2_with fail
        refine (HCN.out _).mono ?_
        rintro e w' ⟨rfl, rfl⟩
        go_wp2_with fail
        refine (HCA.out _).mono ?_
        rintro e w' ⟨rfl, rfl⟩
        go_wp2_with fail
        refine (HCN.out _).mono ?_
        rintro e w' ⟨rfl, rfl⟩
        go_wp2_with fail
        refine (HCA.out _).mono ?_
        rintro e w' ⟨rfl, rfl⟩
        go_wp2_with fail
        refine (HCK.out _).mono ?_
        rintro e w' ⟨rfl, rfl⟩
        go_wp2
        go_ret
        exact ⟨rfl, hb1⟩
    | false =>
      clear hz
      rcases hpar with hp | hp
      · have p1 : ((1 + (j : Int)) % 2 == 0) = true := by rw [beq_iff_eq]; exact hp
        clear hp
        go_enter Try.func6, Try.ntmps6
        go_wp2_with fail
        refine HW.out.mono ?_
        clear HW
        rintro e w1 ⟨rfl, hb1⟩
        go_wp2_with fail
        refine (HCA.out _).mono ?_
        rintro e w' ⟨rfl, rfl⟩
        go_wp2_with fail
        refine (HCB.out _).mono ?_
        rintro e w' ⟨rfl, rfl⟩
        go_wp2_with fail
        refine (HCA.out _).mono ?_
        rintro e w' ⟨rfl, rfl⟩
        go_wp2_with fail
        refine (HCO.out _).mono ?_
        rintro e w' ⟨rfl, rfl⟩
        go_wp2_with fail
        refine (HLA.out _).mono ?_
        rintro e w' ⟨rfl, rfl⟩
        go_wp2_with fail
        refine (HLO.out _).mono ?_
        rintro e w' ⟨rfl, rfl⟩
        go_wp2_with fail
        refine (HCA.out _).mono ?_
        rintro e w' ⟨rfl, rfl⟩
        go_wp2_with fail
        refine (HCN.out _).mono ?_
        rintro e w' ⟨rfl, rfl⟩
        go_wp2_with fail
        refine (HLA.out _).mono ?_
        rintro e w' ⟨rfl, rfl⟩
        go_wp2_with fail
        refine (HCN.out _).mono ?_
        rintro e w' ⟨rfl, rfl⟩
        go_wp2_with fail
        refine (HCA.out _).mono ?_
        rintro e w' ⟨rfl, rfl⟩
        go_wp2_with fail
        refine (HCK.out _).mono ?_
        rintro e w' ⟨rfl, rfl⟩
        go_wp2
        go_ret
        exact ⟨rfl, hb1⟩
      · have p1 : ((1 + (j : Int)) % 2 == 0) = false := by rw [beq_eq_false_iff_ne]; exact hp
        clear hp
        go_enter Try.func6, Try.ntmps6
        go_wp2_with fail
        refine HW.out.mono ?_
        clear HW
        rintro e w1 ⟨rfl, hb1⟩
        go_wp2_with fail
        refine (HCA.out _).mono ?_
        rintro e w' ⟨rfl, rfl⟩
        go_wp2_with fail
        refine (HCB.out _).mono ?_
        rintro e w' ⟨rfl, rfl⟩
        go_wp2_with fail
        refine (HCA.out _).mono ?_
        rintro e w' ⟨rfl, rfl⟩
        go_wp2_with fail
        refine (HCO.out _).mono ?_
        rintro e w' ⟨rfl, rfl⟩
        go_wp2_with fail
        refine (HLA.out _).mono ?_
        rintro e w' ⟨rfl, rfl⟩
        go_wp2_with fail
        refine (HLO.out _).mono ?_
        rintro e w' ⟨rfl, rfl⟩
        go_wp2_with fail
        refine (HCA.out _).mono ?_
        rintro e w' ⟨rfl, rfl⟩
        go_wp2_with fail
        refine (HCN.out _).mono ?_
        rintro e w' ⟨rfl, rfl⟩
        go_wp2_with fail
        refine (HLA.out _).mono ?_
        rintro e w' ⟨rfl, rfl⟩
        go_wp2_with fail
        refine (HCN.out _).mono ?_
        rintro e w' ⟨rfl, rfl⟩
        go_wp2_with fail
        refine (HCA.out _).mono ?_
        rintro e w' ⟨rfl, rfl⟩
        go_wp2_with fail
        refine (HCN.out _).mono ?_
        rintro e w' ⟨rfl, rfl⟩
        go_wp2_with fail
        refine (HCA.out _).mono ?_
        rintro e w' ⟨rfl, rfl⟩
        go_wp2_with fail
        refine (HCK.out _).mono ?_
        rintro e w' ⟨rfl, rfl⟩
        go_wp2
        go_ret
        exact ⟨rfl, hb1⟩
  · clear hz
    rcases hpar with hp | hp
    · have p1 : ((1 + (j : Int)) % 2 == 0) = true := by rw [beq_iff_eq]; exact hp
      clear hp
      go_enter Try.func6, Try.ntmps6
      go_wp2_with fail
      refine HW.out.mono ?_
      clear HW
      rintro e w1 ⟨rfl, hb1⟩
      go_wp2_with fail
      refine (HCA.out _).mono ?_
      rintro e w' ⟨rfl, rfl⟩
      go_wp2_with fail
      refine (HCA.out _).mono ?_
      rintro e w' ⟨rfl, rfl⟩
      go_wp2_with fail
      refine (HLA.out _).mono ?_
      rintro e w' ⟨rfl, rfl⟩
      go_wp2_with fail
      refine (HCA.out _).mono ?_
      rintro e w' ⟨rfl, rfl⟩
      go_wp2_with fail
      refine (HLA.out _).mono ?_
      rintro e w' ⟨rfl, rfl⟩
      go_wp2_with fail
      refine (HCN.out _).mono ?_
      rintro e w' ⟨rfl, rfl⟩
      go_wp2_with fail
      refine (HCA.out _).mono ?_
      rintro e w' ⟨rfl, rfl⟩
      go_wp2_with fail
      refine (HCK.out _).mono ?_
      rintro e w' ⟨rfl, rfl⟩
      go_wp2
      go_ret
      exact ⟨rfl, hb1⟩
    · have p1 : ((1 + (j : Int)) % 2 == 0) = false := by rw [beq_eq_false_iff_ne]; exact hp
      clear hp
      go_enter Try.func6, Try.ntmps6
      go_wp2_with fail
      refine HW.out.mono ?_
      clear HW
      rintro e w1 ⟨rfl, hb1⟩
      go_wp2_with fail
      refine (HCA.out _).mono ?_
      rintro e w' ⟨rfl, rfl⟩
      go_wp2_with fail
      refine (HCA.out _).mono ?_
      rintro e w' ⟨rfl, rfl⟩
      go_wp2_with fail
      refine (HLA.out _).mono ?_
      rintro e w' ⟨rfl, rfl⟩
      go_wp2_with fail
      refine (HCA.out _).mono ?_
      rintro e w' ⟨rfl, rfl⟩
      go_wp2_with fail
      refine (HLA.out _).mono ?_
      rintro e w' ⟨rfl, rfl⟩
      go_wp2_with fail
      refine (HCN.out _).mono ?_
      rintro e w' ⟨rfl, rfl⟩
      go_wp2_with fail
      refine (HCA.out _).mono ?_
      rintro e w' ⟨rfl, rfl⟩
      go_wp2_with fail
      refine (HCN.out _).mono ?_
      rintro e w' ⟨rfl, rfl⟩
      go_wp2_with fail
      refine (HCA.out _).mono ?_
      rintro e w' ⟨rfl, rfl⟩
      go_wp2_with fail
      refine (HCK.out _).mono ?_
      rintro e w' ⟨rfl, rfl⟩
      go_wp2
      go_ret
      exact ⟨rfl, hb1⟩
  · clear hz hpar
    have p1 : ((1 + (j : Int)) % 2 == 0) = true := by rw [beq_iff_eq]; exact hev
    clear hev
    go_enter Try.func6, Try.ntmps6
    go_wp2_with fail
    refine HW.out.mono ?_
    clear HW
    rintro e w1 ⟨rfl, hb1⟩
    go_wp2_with fail
    refine (HCA.out _).mono ?_
    rintro e w' ⟨rfl, rfl⟩
    go_wp2_with fail
    refine (HCA.out _).mono ?_
    rintro e w' ⟨rfl, rfl⟩
    go_wp2_with fail
    refine (HLA.out _).mono ?_
    rintro e w' ⟨rfl, rfl⟩
    go_wp2_with fail
    refine (HLO.out _).mono ?_
    rintro e w' ⟨rfl, rfl⟩
    go_wp2_with fail
    refine (HCA.out _).mono ?_
    rintro e w' ⟨rfl, rfl⟩
    go_wp2_with fail
    refine (HLA.out _).mono ?_
    rintro e w' ⟨rfl, rfl⟩
    go_wp2_with fail
    refine (HCN.out _).mono ?_
    rintro e w' ⟨rfl, rfl⟩
    go_wp2_with fail
    refine (HCA.out _).mono ?_
    rintro e w' ⟨rfl, rfl⟩
    go_wp2_with fail
    refine (HCK.out _).mono ?_
    rintro e w' ⟨rfl, rfl⟩
    go_wp2
    go_ret
    exact ⟨rfl, hb1⟩
end Go.Proofs.Ytfoojhjhinofmaa
