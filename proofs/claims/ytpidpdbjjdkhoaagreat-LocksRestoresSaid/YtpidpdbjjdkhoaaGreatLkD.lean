/- Locks: identities and locks in memory; how they are compared. -/
import Derived.Test.YtpidpdbjjdkhoaaGreatRowG
import Derived.Test.YtpidpdbjjdkhoaaGreatLkC
namespace Go.Proofs.YtpidpdbjjdkhoaaGreat
open Go.RowKit
set_option linter.unusedSimpArgs false
set_option linter.unusedVariables false

def idR : RowT Idn := ⟨fun x => [.int .i64 x.n, .int .i64 x.c], 2, ⟨0, 0⟩, by decide, fun _ => rfl, fun x u hu => by
  simp at hu
  rcases hu with rfl | rfl <;> rfl⟩
def lkR : RowT Lk := ⟨fun x => [.string x.key, .int .i64 x.id.n, .int .i64 x.id.c, .int .i64 x.mode], 4, ⟨⟨#[]⟩, ⟨0, 0⟩, 0⟩, by decide, fun _ => rfl, fun x u hu => by
  simp at hu
  rcases hu with rfl | rfl | rfl | rfl <;> rfl⟩
theorem Tryz.infoId : (Tryz.prog.info? 29).map (fun i => (i.zero, i.size, i.bytes)) = some (some (.agg #[.int .i64 0, .int .i64 0]), 2, 16) := by kernel_rfl
theorem Tryz.infoLk : (Tryz.prog.info? 62).map (fun i => (i.zero, i.size, i.bytes)) = some (some (.agg #[.string ⟨#[]⟩, .int .i64 0, .int .i64 0, .int .i64 0]), 4, 40) := by kernel_rfl
/-- the order of numbers, of identities, of texts, of locks -/
def cmpz (a b : Int) : Int := if a < b then -1 else if b < a then 1 else 0
def cmpI (a b : Idn) : Int := if cmpz a.n b.n ≠ 0 then cmpz a.n b.n else cmpz a.c b.c
def cmpS (a b : ByteArray) : Int := if bl a b = true then -1 else if bl b a = true then 1 else 0
def cmpL (a b : Lk) : Int := if cmpS a.key b.key ≠ 0 then cmpS a.key b.key else cmpI a.id b.id
theorem cmpz_lt {a b : Int} (h : a < b) : cmpz a b = -1 := by unfold cmpz; rw [if_pos h]
theorem cmpz_gt {a b : Int} (h : b < a) : cmpz a b = 1 := by unfold cmpz; rw [if_neg (by omega), if_pos h]
theorem cmpz_eq (a : Int) : cmpz a a = 0 := by unfold cmpz; rw [if_neg (by omega), if_neg (by omega)]
theorem cmpI_neg {a b : Idn} : cmpI a b < 0 ↔ ol a b = true := by
  rw [ol_iff]
  unfold cmpI cmpz
  by_cases h1 : a.n < b.n
  · simp [h1]
  · by_cases h2 : b.n < a.n
    · simp [h1, h2]; omega
    · have h3 : a.n = b.n := by omega
      by_cases h4 : a.c < b.c
      · simp [h3, h4]
      · by_cases h5 : b.c < a.c <;> simp [h3, h4, h5]
theorem cmpI_zero {a b : Idn} : cmpI a b = 0 ↔ a = b := by
  unfold cmpI cmpz
  by_cases h1 : a.n < b.n
  · simp [h1]; rintro rfl; omega
  · by_cases h2 : b.n < a.n
    · simp [h1, h2]; rintro rfl; omega
    · have h3 : a.n = b.n := by omega
      by_cases h4 : a.c < b.c
      · simp [h3, h4]; rintro rfl; omega
      · by_cases h5 : b.c < a.c
        · simp [h3, h4, h5]; rintro rfl; omega
        · simp [h3, h4, h5]; exact idn_ext h3 (by omega)
theorem cmpI_self (a : Idn) : cmpI a a = 0 := cmpI_zero.2 rfl
theorem cmpS_zero {a b : ByteArray} : cmpS a b = 0 ↔ a = b := by
  unfold cmpS
  cases h1 : bl a b with
  | true => simp; rintro rfl; rw [bl_self] at h1; cases h1
  | false => cases h2 : bl b a with
    | true => simp; rintro rfl; rw [bl_self] at h2; cases h2
    | false => simp; exact bl_eq h1 h2
theorem cmpL_neg {a b : Lk} : cmpL a b < 0 ↔ ah a b = true := by
  rw [ah_iff]
  unfold cmpL
  by_cases h0 : cmpS a.key b.key = 0
  · rw [if_neg (by simpa using h0), cmpI_neg]
    have hk := cmpS_zero.1 h0
    rw [hk, bl_self]; simp
  · rw [if_pos h0]
    have hk : a.key ≠ b.key := fun h => h0 (cmpS_zero.2 h)
    unfold cmpS
    cases h1 : bl a.key b.key with
    | true => simp
    | false => cases h2 : bl b.key a.key <;> simp [hk]
theorem cmpL_zero {a b : Lk} : cmpL a b = 0 ↔ a.key = b.key ∧ a.id = b.id := by
  unfold cmpL
  by_cases h0 : cmpS a.key b.key = 0
  · rw [if_neg (by simpa using h0), cmpI_zero]
    simp [cmpS_zero.1 h0]
  · rw [if_pos h0]
    have hk : a.key ≠ b.key := fun h => h0 (cmpS_zero.2 h)
    simp [h0, hk]

/-! ### == -/
def eqI (x y : Idn) : Bool := (x.n == y.n) && (x.c == y.c)
def eqL (x y : Lk) : Bool := (x.key.toList == y.key.toList) && eqI x.id y.id && (x.mode == y.mode)
theorem eqI_iff {x y : Idn} : eqI x y = true ↔ x = y := by
  unfold eqI
  rw [Bool.and_eq_true, beq_iff_eq, beq_iff_eq]
  exact ⟨fun h => idn_ext h.1 h.2, fun h => by rw [h]; exact ⟨rfl, rfl⟩⟩
theorem eqI_dec (x y : Idn) : eqI x y = decide (x = y) := by rw [Bool.eq_iff_iff, eqI_iff]; simp
theorem lk_ext {a b : Lk} (h1 : a.key = b.key) (h2 : a.id = b.id) (h3 : a.mode = b.mode) : a = b := by cases a; cases b; simp_all
theorem eqL_iff {x y : Lk} : eqL x y = true ↔ x = y := by
  unfold eqL
  rw [Bool.and_eq_true, Bool.and_eq_true, beq_iff_eq, eqI_iff, beq_iff_eq]
  exact ⟨fun h => lk_ext (toList_inj h.1.1) h.1.2 h.2, fun h => by rw [h]; exact ⟨⟨rfl, rfl⟩, rfl⟩⟩
theorem eqL_dec (x y : Lk) : eqL x y = decide (x = y) := by rw [Bool.eq_iff_iff, eqL_iff]; simp
theorem fields_of {P : Program} {t : TypeId} {fs : Array Field} (h : P.underlying t = some (.struct fs)) : P.fieldsOf t = fs := by simp [Program.fieldsOf, h]
theorem run_eqIn (d : Nat) (x y : Idn) (w : World) : (Op.equalIn (d + 2) 29 (.agg #[.int .i64 x.n, .int .i64 x.c]) (.agg #[.int .i64 y.n, .int .i64 y.c])).run Tryz.prog w = .ok (eqI x y) w := by
  have hf := fields_of Tryz.underlying29
  have h := run_equalIn_struct (P := Tryz.prog) w (d + 1) 29 #[.int .i64 x.n, .int .i64 x.c] #[.int .i64 y.n, .int .i64 y.c] (by rw [hf]; exact Tryz.underlying29) (by kernel_rfl)
  rw [h, hf]
  have p1 : ∀ (z : Idn) (w : World), (part 3 #[.int .i64 z.n, .int .i64 z.c] 0).run Tryz.prog w = .ok (.int .i64 z.n) w := fun z w => by kernel_rfl
  have p2 : ∀ (z : Idn) (w : World), (part 3 #[.int .i64 z.n, .int .i64 z.c] 1).run Tryz.prog w = .ok (.int .i64 z.c) w := fun z w => by kernel_rfl
  have q1 : ∀ (a b : Int) (w : World), (Op.equalIn (d + 1) 3 (.int .i64 a) (.int .i64 b)).run Tryz.prog w = .ok (a == b) w := fun a b w => run_equalIn_int w d 3 .i64 .i64 a b Tryz.underlying3
  unfold eqI
  cases e1 : (x.n == y.n) <;> cases e2 : (x.c == y.c) <;> simp [Op.eqFields, p1, p2, q1, e1, e2, Result.andThen]
theorem run_eqI (x y : Idn) (w : World) : (binOp .eql 29 (.agg #[.int .i64 x.n, .int .i64 x.c]) (.agg #[.int .i64 y.n, .int .i64 y.c])).run Tryz.prog w = .ok (.bool (eqI x y)) w := by
  rw [run_eql_struct, run_eqIn 9998]; rfl
theorem run_neI (x y : Idn) (w : World) : (binOp .neq 29 (.agg #[.int .i64 x.n, .int .i64 x.c]) (.agg #[.int .i64 y.n, .int .i64 y.c])).run Tryz.prog w = .ok (.bool (!eqI x y)) w := by
  rw [run_neq_struct, run_eqIn 9998]; rfl
def laL (x : Lk) : Value := .agg #[.string x.key, .int .i64 x.id.n, .int .i64 x.id.c, .int .i64 x.mode]
theorem run_eqLn (x y : Lk) (w : World) : (Op.equalIn 10000 62 (.agg #[.string x.key, .int .i64 x.id.n, .int .i64 x.id.c, .int .i64 x.mode]) (.agg #[.string y.key, .int .i64 y.id.n, .int .i64 y.id.c, .int .i64 y.mode])).run Tryz.prog w = .ok (eqL x y) w := by
  have hf := fields_of Tryz.underlying62
  have h := run_equalIn_struct (P := Tryz.prog) w 9999 62 #[.string x.key, .int .i64 x.id.n, .int .i64 x.id.c, .int .i64 x.mode] #[.string y.key, .int .i64 y.id.n, .int .i64 y.id.c, .int .i64 y.mode] (by rw [hf]; exact Tryz.underlying62) (by kernel_rfl)
  rw [h, hf]
  have p1 : ∀ (z : Lk) (w : World), (part 9 #[.string z.key, .int .i64 z.id.n, .int .i64 z.id.c, .int .i64 z.mode] 0).run Tryz.prog w = .ok (.string z.key) w := fun z w => by kernel_rfl
  have p2 : ∀ (z : Lk) (w : World), (part 29 #[.string z.key, .int .i64 z.id.n, .int .i64 z.id.c, .int .i64 z.mode] 1).run Tryz.prog w = .ok (.agg #[.int .i64 z.id.n, .int .i64 z.id.c]) w := fun z w => by kernel_rfl
  have p3 : ∀ (z : Lk) (w : World), (part 3 #[.string z.key, .int .i64 z.id.n, .int .i64 z.id.c, .int .i64 z.mode] 3).run Tryz.prog w = .ok (.int .i64 z.mode) w := fun z w => by kernel_rfl
  have q1 : ∀ (a b : ByteArray) (w : World), (Op.equalIn 9999 9 (.string a) (.string b)).run Tryz.prog w = .ok (a.toList == b.toList) w := fun a b w => run_equalIn_string w 9998 9 a b Tryz.underlying9
  have q2 : ∀ (a b : Idn) (w : World), (Op.equalIn 9999 29 (.agg #[.int .i64 a.n, .int .i64 a.c]) (.agg #[.int .i64 b.n, .int .i64 b.c])).run Tryz.prog w = .ok (eqI a b) w := fun a b w => run_eqIn 9997 a b w
  have q3 : ∀ (a b : Int) (w : World), (Op.equalIn 9999 3 (.int .i64 a) (.int .i64 b)).run Tryz.prog w = .ok (a == b) w := fun a b w => run_equalIn_int w 9998 3 .i64 .i64 a b Tryz.underlying3
  unfold eqL
  cases e1 : (x.key.toList == y.key.toList) <;> cases e2 : eqI x.id y.id <;> cases e3 : (x.mode == y.mode) <;>
    simp [Op.eqFields, p1, p2, p3, q1, q2, q3, e1, e2, e3, Result.andThen]
theorem run_eqL (x y : Lk) (w : World) : (binOp .eql 62 (.agg #[.string x.key, .int .i64 x.id.n, .int .i64 x.id.c, .int .i64 x.mode]) (.agg #[.string y.key, .int .i64 y.id.n, .int .i64 y.id.c, .int .i64 y.mode])).run Tryz.prog w = .ok (.bool (eqL x y)) w := by
  rw [run_eql_struct, run_eqLn]; rfl
theorem run_neL (x y : Lk) (w : World) : (binOp .neq 62 (.agg #[.string x.key, .int .i64 x.id.n, .int .i64 x.id.c, .int .i64 x.mode]) (.agg #[.string y.key, .int .i64 y.id.n, .int .i64 y.id.c, .int .i64 y.mode])).run Tryz.prog w = .ok (.bool (!eqL x y)) w := by
  rw [run_neq_struct, run_eqLn]; rfl

/-! ### cmp -/
theorem nan_int (a : Int) (w : World) : Calls Tryz.prog 117 #[.int .i64 a] w fun e w' => e = .returned (.bool false) ∧ w = w' := by
  have z : (a != a) = false := by simp
  go_enter Tryz.func117, Tryz.ntmps117
  go_wp2
  go_ret
  exact ⟨rfl, rfl⟩
theorem nan_str (a : ByteArray) (w : World) : Calls Tryz.prog 116 #[.string a] w fun e w' => e = .returned (.bool false) ∧ w = w' := by
  have z : (a.toList != a.toList) = false := by simp
  go_enter Tryz.func116, Tryz.ntmps116
  go_wp2
  go_ret
  exact ⟨rfl, rfl⟩
theorem cmp_int (a b : Int) (w : World) : Calls Tryz.prog 99 #[.int .i64 a, .int .i64 b] w fun e w' => e = .returned (.int .i64 (cmpz a b)) ∧ w = w' := by
  rcases Int.lt_trichotomy a b with h | h | h
  · have HR := Lib.hid (cmpz_lt h)
    go_enter Tryz.func99, Tryz.ntmps99
    go_wp2_with (go_at_call 117; refine (nan_int _ _).mono ?_; rintro e w' ⟨rfl, rfl⟩)
    go_ret
    exact ⟨ret_int HR.out.symm, rfl⟩
  · subst h
    have HR := Lib.hid (cmpz_eq a)
    have h1 : ¬ a < a := by omega
    go_enter Tryz.func99, Tryz.ntmps99
    go_wp2_with (go_at_call 117; refine (nan_int _ _).mono ?_; rintro e w' ⟨rfl, rfl⟩)
    go_ret
    exact ⟨ret_int HR.out.symm, rfl⟩
  · have HR := Lib.hid (cmpz_gt h)
    have h1 : ¬ a < b := by omega
    go_enter Tryz.func99, Tryz.ntmps99
    go_wp2_with (go_at_call 117; refine (nan_int _ _).mono ?_; rintro e w' ⟨rfl, rfl⟩)
    go_ret
    exact ⟨ret_int HR.out.symm, rfl⟩
theorem cmp_str (a b : ByteArray) (w : World) : Calls Tryz.prog 97 #[.string a, .string b] w fun e w' => e = .returned (.int .i64 (cmpS a b)) ∧ w = w' := by
  cases h1 : bl a b with
  | true =>
    have HR : Hid (cmpS a b = -1) := Lib.hid (by unfold cmpS; rw [h1]; rfl)
    have z1 : Op.bytesLess a.toList b.toList = true := h1
    clear h1
    go_enter Tryz.func97, Tryz.ntmps97
    go_wp2_with (go_at_call 116; refine (nan_str _ _).mono ?_; rintro e w' ⟨rfl, rfl⟩)
    go_ret
    exact ⟨ret_int HR.out.symm, rfl⟩
  | false => cases h2 : bl b a with
    | true =>
      have HR : Hid (cmpS a b = 1) := Lib.hid (by unfold cmpS; rw [h1, h2]; rfl)
      have z1 : Op.bytesLess a.toList b.toList = false := h1
      have z2 : Op.bytesLess b.toList a.toList = true := h2
      have z3 : (a.toList == b.toList) = false := by
        rw [beq_eq_false_iff_ne]
        intro h
        rw [toList_inj h, bl_self] at h2
        cases h2
      clear h1 h2
      go_enter Tryz.func97, Tryz.ntmps97
      go_wp2_with (go_at_call 116; refine (nan_str _ _).mono ?_; rintro e w' ⟨rfl, rfl⟩)
      go_ret
      exact ⟨ret_int HR.out.symm, rfl⟩
    | false =>
      have HR : Hid (cmpS a b = 0) := Lib.hid (by unfold cmpS; rw [h1, h2]; rfl)
      have z1 : Op.bytesLess a.toList b.toList = false := h1
      have z2 : Op.bytesLess b.toList a.toList = false := h2
      have z3 : (a.toList == b.toList) = true := by rw [bl_eq h1 h2]; simp
      clear h1 h2
      go_enter Tryz.func97, Tryz.ntmps97
      go_wp2_with (go_at_call 116; refine (nan_str _ _).mono ?_; rintro e w' ⟨rfl, rfl⟩)
      go_ret
      exact ⟨ret_int HR.out.symm, rfl⟩
/-- the first of two numbers that is not 0 -/
def orz (a b : Int) : Int := if a ≠ 0 then a else b
theorem or_any (g : Nat) (a b : Int) (w : World) (h : Blk w g 3 #[.int .i64 a, .int .i64 b]) : Calls Tryz.prog 96 #[.slice (some ⟨g, 0, none⟩) 2 2] w fun e w' => e = .returned (.int .i64 (orz a b)) ∧ w = w' := by
  have x0 : w.cell? ⟨g, 0, none⟩ = some (.int .i64 a) := h.cell 0
  have x1 : w.cell? ⟨g, 1, none⟩ = some (.int .i64 b) := h.cell 1
  clear h
  go_enter Tryz.func96, Tryz.ntmps96
  go_wp2
  go_loop [8] (fun i => ∃ k : Nat, k ≤ 2 ∧ i = .int .i64 k ∧ Hid ((1 ≤ k → a = 0) ∧ (2 ≤ k → b = 0))) (fun i => 2 - (intOf i).toNat)
  case atStart => exact ⟨0, by omega, rfl, ⟨fun h => absurd h (by omega), fun h => absurd h (by omega)⟩⟩
  case round =>
    obtain ⟨k, hk, rfl, H⟩ := hrel
    have hc : k = 0 ∨ k = 1 ∨ k = 2 := by omega
    rcases hc with rfl | rfl | rfl
    · cases z : (a != 0) with
      | true =>
        have HR : Hid (orz a b = a) := Lib.hid (by unfold orz; rw [if_pos (bne_iff_ne.1 z)])
        go_wp2
        go_ret
        exact ⟨ret_int HR.out.symm, rfl⟩
      | false =>
        have HZ : Hid (a = 0) := Lib.hid (by simpa using z)
        go_wp2
        go_round
        case rel => exact ⟨1, by omega, rfl, ⟨fun _ => HZ.out, fun h => absurd h (by omega)⟩⟩
        case measure => simp [intOf]
    · cases z : (b != 0) with
      | true =>
        have HR : Hid (orz a b = b) := Lib.hid (by unfold orz; rw [if_neg (by simpa using H.out.1 (by omega))])
        go_wp2
        go_ret
        exact ⟨ret_int HR.out.symm, rfl⟩
      | false =>
        have HZ : Hid (b = 0) := Lib.hid (by simpa using z)
        go_wp2
        go_round
        case rel => exact ⟨2, by omega, rfl, ⟨fun _ => H.out.1 (by omega), fun _ => HZ.out⟩⟩
        case measure => simp [intOf]
    · have HR : Hid (orz a b = 0) := Lib.hid (by unfold orz; rw [if_neg (by simpa using H.out.1 (by omega))]; exact H.out.2 (by omega))
      go_wp2
      go_ret
      exact ⟨ret_int HR.out.symm, rfl⟩
end Go.Proofs.YtpidpdbjjdkhoaaGreat
