/- Counting bits: the library's way (by masks) and the plain way tell the same number. Plain Lean on natural numbers; no program in sight. -/
namespace Go.Proofs.Ytfoojhjhinofmaa

/-- how many of the n lowest bits of x are set -/
def pc : Nat → Nat → Nat
  | 0, _ => 0
  | n + 1, x => x % 2 + pc n (x / 2)

theorem pc_le (n : Nat) : ∀ x, pc n x ≤ n := by
  induction n with
  | zero => intro x; simp [pc]
  | succ n ih => intro x; have := ih (x / 2); simp only [pc]; omega

theorem pc_snoc (n : Nat) : ∀ x, pc (n + 1) x = pc n x + x / 2 ^ n % 2 := by
  induction n with
  | zero => intro x; simp [pc]
  | succ n ih =>
    intro x
    have h := ih (x / 2)
    rw [show pc (n + 1 + 1) x = x % 2 + pc (n + 1) (x / 2) from rfl, h, show pc (n + 1) x = x % 2 + pc n (x / 2) from rfl, Nat.div_div_eq_div_mul, show 2 * 2 ^ n = 2 ^ (n + 1) by rw [Nat.pow_succ]; omega]
    omega

theorem pc_zero (n : Nat) : pc n 0 = 0 := by induction n with
  | zero => rfl
  | succ n ih => simp [pc, ih]

/-- cutting off above n, and counting on -/
theorem pc_mod (m : Nat) : ∀ n x, n ≤ m → pc m (x % 2 ^ n) = pc n x := by
  induction m with
  | zero => intro n x h; obtain rfl : n = 0 := by omega
            rfl
  | succ m ih =>
    intro n x h
    cases n with
    | zero => simp [pc, pc_zero, Nat.mod_one]
    | succ n =>
      have e1 : x % 2 ^ (n + 1) % 2 = x % 2 := by rw [Nat.pow_succ, Nat.mul_comm]; exact Nat.mod_mul_right_mod _ _ _
      have e2 : x % 2 ^ (n + 1) / 2 = x / 2 % 2 ^ n := by rw [Nat.pow_succ, Nat.mul_comm]; exact Nat.mod_mul_right_div_self _ _ _
      simp only [pc, e1, e2]
      rw [ih n (x / 2) (by omega)]

/-- the rest: what isn't set -/
theorem pc_not (n : Nat) : ∀ x y, (x + y) % 2 ^ n = 2 ^ n - 1 → pc n x + pc n y = n := by
  induction n with
  | zero => intro x y _; rfl
  | succ n ih =>
    intro x y h
    have h1 : (x + y) % 2 ^ (n + 1) % 2 = (x + y) % 2 := by rw [Nat.pow_succ, Nat.mul_comm]; exact Nat.mod_mul_right_mod _ _ _
    have h2 : (x + y) % 2 ^ (n + 1) / 2 = (x + y) / 2 % 2 ^ n := by rw [Nat.pow_succ, Nat.mul_comm]; exact Nat.mod_mul_right_div_self _ _ _
    have hp : 1 ≤ 2 ^ n := Nat.one_le_two_pow
    have h3 : (x + y) % 2 = 1 := by rw [← h1, h, Nat.pow_succ]; omega
    have h4 : (x + y) / 2 % 2 ^ n = 2 ^ n - 1 := by rw [← h2, h, Nat.pow_succ]; omega
    have h5 : (x + y) / 2 = x / 2 + y / 2 := by omega
    rw [h5] at h4
    have := ih (x / 2) (y / 2) h4
    simp only [pc]
    omega

/-! ### the masks -/
theorem and_digit (k a c m : Nat) (hc : c < 2 ^ k) : a &&& (c + 2 ^ k * m) = (a % 2 ^ k &&& c) + 2 ^ k * (a / 2 ^ k &&& m) := by
  have e : c + 2 ^ k * m = 2 ^ k * m + c := by omega
  rw [e]
  have h1 : (a % 2 ^ k &&& c) < 2 ^ k := Nat.lt_of_le_of_lt Nat.and_le_right hc
  have ha : a = 2 ^ k * (a / 2 ^ k) + a % 2 ^ k := (Nat.div_add_mod a (2 ^ k)).symm
  have hm : a % 2 ^ k < 2 ^ k := Nat.mod_lt _ Nat.one_le_two_pow
  rw [Nat.add_comm (a % 2 ^ k &&& c)]
  apply Nat.eq_of_testBit_eq
  intro i
  rw [Nat.testBit_and, Nat.testBit_two_pow_mul_add _ hc, Nat.testBit_two_pow_mul_add _ h1]
  by_cases hi : i < k
  · simp only [hi, if_true, Nat.testBit_and]
    rw [Nat.testBit_mod_two_pow]
    simp [hi]
  · simp only [hi, if_false, Nat.testBit_and, Nat.testBit_div_two_pow]
    rw [Nat.sub_add_cancel (by omega)]

/-- a number byte by byte, each byte turned by f -/
def by8 (f : Nat → Nat) : Nat → Nat → Nat
  | 0, _ => 0
  | n + 1, x => f (x % 256) + 256 * by8 f n (x / 256)

theorem by8_by8 (f g : Nat → Nat) (hf : ∀ b, b < 256 → f b < 256) (n : Nat) : ∀ x, by8 g n (by8 f n x) = by8 (fun b => g (f b)) n x := by
  induction n with
  | zero => intro x; rfl
  | succ n ih =>
    intro x
    have h := hf (x % 256) (Nat.mod_lt _ (by decide))
    simp only [by8]
    rw [show (f (x % 256) + 256 * by8 f n (x / 256)) % 256 = f (x % 256) by omega, show (f (x % 256) + 256 * by8 f n (x / 256)) / 256 = by8 f n (x / 256) by omega, ih]

theorem by8_congr (f g : Nat → Nat) (h : ∀ b, b < 256 → f b = g b) (n : Nat) : ∀ x, by8 f n x = by8 g n x := by
  induction n with
  | zero => intro x; rfl
  | succ n ih => intro x; simp only [by8]; rw [h _ (Nat.mod_lt _ (by decide)), ih]

/-- a mask of n equal bytes -/
def mask (c : Nat) : Nat → Nat
  | 0 => 0
  | n + 1 => c + 2 ^ 8 * mask c n

def h1 (b : Nat) : Nat := (b / 2 &&& 85) + (b &&& 85)
def h2 (b : Nat) : Nat := (b / 4 &&& 51) + (b &&& 51)
def h3 (b : Nat) : Nat := b % 16 + b / 16

theorem half (x : Nat) : x / 2 % 256 &&& 85 = x % 256 / 2 &&& 85 := by
  have key : ∀ b, b < 512 → b / 2 % 256 &&& 85 = b % 256 / 2 &&& 85 := by decide +kernel
  have := key (x % 512) (Nat.mod_lt _ (by decide))
  rw [show x % 512 / 2 % 256 = x / 2 % 256 by omega, show x % 512 % 256 = x % 256 by omega] at this
  exact this
theorem quarter (x : Nat) : x / 4 % 256 &&& 51 = x % 256 / 4 &&& 51 := by
  have key : ∀ b, b < 1024 → b / 4 % 256 &&& 51 = b % 256 / 4 &&& 51 := by decide +kernel
  have := key (x % 1024) (Nat.mod_lt _ (by decide))
  rw [show x % 1024 / 4 % 256 = x / 4 % 256 by omega, show x % 1024 % 256 = x % 256 by omega] at this
  exact this

theorem step1 (n : Nat) : ∀ x, (x / 2 &&& mask 85 n) + (x &&& mask 85 n) = by8 h1 n x := by
  induction n with
  | zero => intro x; simp [mask, by8]
  | succ n ih =>
    intro x
    have h := ih (x / 256)
    rw [show mask 85 (n + 1) = 85 + 2 ^ 8 * mask 85 n from rfl, and_digit 8 (x / 2) 85 _ (by decide), and_digit 8 x 85 _ (by decide), show (2 : Nat) ^ 8 = 256 from rfl, half]
    simp only [by8, h1]
    rw [show x / 2 / 256 = x / 256 / 2 by omega]
    omega

theorem step2 (n : Nat) : ∀ x, (x / 4 &&& mask 51 n) + (x &&& mask 51 n) = by8 h2 n x := by
  induction n with
  | zero => intro x; simp [mask, by8]
  | succ n ih =>
    intro x
    have h := ih (x / 256)
    rw [show mask 51 (n + 1) = 51 + 2 ^ 8 * mask 51 n from rfl, and_digit 8 (x / 4) 51 _ (by decide), and_digit 8 x 51 _ (by decide), show (2 : Nat) ^ 8 = 256 from rfl, quarter]
    simp only [by8, h2]
    rw [show x / 4 / 256 = x / 256 / 4 by omega]
    omega

/-- every nibble is at most 4 -/
def nib : Nat → Nat → Prop
  | 0, _ => True
  | n + 1, x => x % 16 ≤ 4 ∧ x % 256 / 16 ≤ 4 ∧ nib n (x / 256)

theorem nib_low (n : Nat) (x : Nat) (h : nib n x) (hn : 1 ≤ n) : x % 16 ≤ 4 := by
  cases n with
  | zero => omega
  | succ n => exact h.1

theorem step3 (n : Nat) : ∀ x, nib n x → x < 256 ^ n → (x / 16 + x) &&& mask 15 n = by8 h3 n x := by
  induction n with
  | zero => intro x _ _; simp [mask, by8]
  | succ n ih =>
    intro x hx hlt
    have hlt' : x / 256 < 256 ^ n := by rw [Nat.div_lt_iff_lt_mul (by decide)]; rw [Nat.pow_succ] at hlt; omega
    obtain ⟨a1, a2, a3⟩ := hx
    have h := ih (x / 256) a3 hlt'
    have hl : x / 256 % 16 ≤ 4 := by
      cases n with
      | zero => simp at hlt'; omega
      | succ n => exact a3.1
    rw [show mask 15 (n + 1) = 15 + 2 ^ 8 * mask 15 n from rfl, and_digit 8 _ 15 _ (by decide), show (2 : Nat) ^ 8 = 256 from rfl]
    rw [show (x / 16 + x) / 256 = x / 256 / 16 + x / 256 by omega, h, Nat.and_two_pow_sub_one_eq_mod _ 4]
    simp only [by8, h3]
    omega

theorem nib_by8 (f : Nat → Nat) (hf : ∀ b, b < 256 → f b < 256 ∧ f b % 16 ≤ 4 ∧ f b / 16 ≤ 4) (n : Nat) : ∀ x, nib n (by8 f n x) := by
  induction n with
  | zero => intro x; trivial
  | succ n ih =>
    intro x
    have h := hf (x % 256) (Nat.mod_lt _ (by decide))
    simp only [by8, nib]
    refine ⟨by omega, by omega, ?_⟩
    rw [show (f (x % 256) + 256 * by8 f n (x / 256)) / 256 = by8 f n (x / 256) by omega]
    exact ih _

theorem by8_lt (f : Nat → Nat) (hf : ∀ b, b < 256 → f b < 256) (n : Nat) : ∀ x, by8 f n x < 256 ^ n := by
  induction n with
  | zero => intro x; simp [by8]
  | succ n ih =>
    intro x
    have h := hf (x % 256) (Nat.mod_lt _ (by decide))
    have := ih (x / 256)
    simp only [by8]
    rw [Nat.pow_succ]
    omega

theorem h1_lt : ∀ b, b < 256 → h1 b < 256 := by decide +kernel
theorem h2_lt : ∀ b, b < 256 → h2 (h1 b) < 256 := by decide +kernel
theorem h2_nib : ∀ b, b < 256 → h2 (h1 b) < 256 ∧ h2 (h1 b) % 16 ≤ 4 ∧ h2 (h1 b) / 16 ≤ 4 := by decide +kernel
theorem h3_pc : ∀ b, b < 256 → h3 (h2 (h1 b)) = pc 8 b := by decide +kernel

/-- the three masked steps: byte by byte the number of bits -/
theorem steps (x : Nat) : ∃ y z, (x / 2 &&& 6148914691236517205) + (x &&& 6148914691236517205) = y ∧ y < 18446744073709551616 ∧
    (y / 4 &&& 3689348814741910323) + (y &&& 3689348814741910323) = z ∧ z < 18446744073709551616 ∧ z / 16 + z < 18446744073709551616 ∧
    (z / 16 + z) &&& 1085102592571150095 = by8 (pc 8) 8 x := by
  have e1 := step1 8 x
  have e2 := step2 8 (by8 h1 8 x)
  rw [by8_by8 h1 h2 h1_lt] at e2
  have e3 := step3 8 (by8 (fun b => h2 (h1 b)) 8 x) (nib_by8 _ h2_nib 8 x) (by8_lt _ h2_lt 8 x)
  rw [by8_by8 _ h3 h2_lt, by8_congr _ (pc 8) h3_pc] at e3
  have l1 := by8_lt h1 h1_lt 8 x
  have l2 := by8_lt _ h2_lt 8 x
  have l3 : by8 (fun b => h2 (h1 b)) 8 x / 72057594037927936 ≤ 68 := by
    simp only [by8]
    have k := fun b hb => h2_nib b hb
    have k7 := k (x / 256 / 256 / 256 / 256 / 256 / 256 / 256 % 256) (Nat.mod_lt _ (by decide))
    have k6 := (k (x / 256 / 256 / 256 / 256 / 256 / 256 % 256) (Nat.mod_lt _ (by decide))).1
    have k5 := (k (x / 256 / 256 / 256 / 256 / 256 % 256) (Nat.mod_lt _ (by decide))).1
    have k4 := (k (x / 256 / 256 / 256 / 256 % 256) (Nat.mod_lt _ (by decide))).1
    have k3 := (k (x / 256 / 256 / 256 % 256) (Nat.mod_lt _ (by decide))).1
    have k2 := (k (x / 256 / 256 % 256) (Nat.mod_lt _ (by decide))).1
    have k1 := (k (x / 256 % 256) (Nat.mod_lt _ (by decide))).1
    have k0 := (k (x % 256) (Nat.mod_lt _ (by decide))).1
    omega
  refine ⟨_, _, e1, by omega, e2, by omega, ?_, e3⟩
  omega

theorem pc_add (m : Nat) : ∀ n x, pc (m + n) x = pc m x + pc n (x / 2 ^ m) := by
  induction m with
  | zero => intro n x; simp [pc]
  | succ m ih =>
    intro n x
    rw [show m + 1 + n = (m + n) + 1 by omega]
    simp only [pc]
    rw [ih, Nat.div_div_eq_div_mul, show 2 * 2 ^ m = 2 ^ (m + 1) by rw [Nat.pow_succ]; omega]
    omega

theorem pc8_mod (x : Nat) : pc 8 (x % 256) = pc 8 x := pc_mod 8 8 x (Nat.le_refl _)

/-- the last three steps: the bytes' sum -/
theorem sum8 (x : Nat) (T A B : Nat) (hT : T = by8 (pc 8) 8 x) (hA : A = (T + T / 256) % 18446744073709551616) (hB : B = (A + A / 65536) % 18446744073709551616) :
    (B + B / 4294967296) % 18446744073709551616 % 128 = pc 64 x ∧ (B + B / 4294967296) % 18446744073709551616 < 9223372036854775808 := by
  have p64 : pc 64 x = pc 8 (x % 256) + pc 8 (x / 256 % 256) + pc 8 (x / 256 / 256 % 256) + pc 8 (x / 256 / 256 / 256 % 256) + pc 8 (x / 256 / 256 / 256 / 256 % 256) + pc 8 (x / 256 / 256 / 256 / 256 / 256 % 256)
      + pc 8 (x / 256 / 256 / 256 / 256 / 256 / 256 % 256) + pc 8 (x / 256 / 256 / 256 / 256 / 256 / 256 / 256 % 256) := by
    simp only [pc8_mod]
    rw [show (64 : Nat) = 8 + 56 from rfl, pc_add 8 56, show (56 : Nat) = 8 + 48 from rfl, pc_add 8 48, show (48 : Nat) = 8 + 40 from rfl, pc_add 8 40, show (40 : Nat) = 8 + 32 from rfl, pc_add 8 32, show (32 : Nat) = 8 + 24 from rfl, pc_add 8 24,
      show (24 : Nat) = 8 + 16 from rfl, pc_add 8 16, show (16 : Nat) = 8 + 8 from rfl, pc_add 8 8]
    simp only [show (2 : Nat) ^ 8 = 256 from rfl]
    omega
  simp only [by8] at hT
  rw [p64]
  have q0 := pc_le 8 (x % 256)
  have q1 := pc_le 8 (x / 256 % 256)
  have q2 := pc_le 8 (x / 256 / 256 % 256)
  have q3 := pc_le 8 (x / 256 / 256 / 256 % 256)
  have q4 := pc_le 8 (x / 256 / 256 / 256 / 256 % 256)
  have q5 := pc_le 8 (x / 256 / 256 / 256 / 256 / 256 % 256)
  have q6 := pc_le 8 (x / 256 / 256 / 256 / 256 / 256 / 256 % 256)
  have q7 := pc_le 8 (x / 256 / 256 / 256 / 256 / 256 / 256 / 256 % 256)
  generalize pc 8 (x % 256) = d0 at *
  generalize pc 8 (x / 256 % 256) = d1 at *
  generalize pc 8 (x / 256 / 256 % 256) = d2 at *
  generalize pc 8 (x / 256 / 256 / 256 % 256) = d3 at *
  generalize pc 8 (x / 256 / 256 / 256 / 256 % 256) = d4 at *
  generalize pc 8 (x / 256 / 256 / 256 / 256 / 256 % 256) = d5 at *
  generalize pc 8 (x / 256 / 256 / 256 / 256 / 256 / 256 % 256) = d6 at *
  generalize pc 8 (x / 256 / 256 / 256 / 256 / 256 / 256 / 256 % 256) = d7 at *
  have t1 : T / 256 = (d1) + 256 * ((d2) + 256 * ((d3) + 256 * ((d4) + 256 * ((d5) + 256 * ((d6) + 256 * (d7)))))) := by clear hA hB; omega
  have a0 : T + T / 256 = (d0 + d1) + 256 * ((d1 + d2) + 256 * ((d2 + d3) + 256 * ((d3 + d4) + 256 * ((d4 + d5) + 256 * ((d5 + d6) + 256 * ((d6 + d7) + 256 * (d7))))))) := by clear hA hB; omega
  have a1 : T + T / 256 < 18446744073709551616 := by rw [a0]; clear hA hB hT t1 a0; omega
  rw [Nat.mod_eq_of_lt a1, a0] at hA
  clear a1 a0 t1 hT
  have t2 : A / 65536 = (d2 + d3) + 256 * ((d3 + d4) + 256 * ((d4 + d5) + 256 * ((d5 + d6) + 256 * ((d6 + d7) + 256 * (d7))))) := by clear hB; omega
  have b0 : A + A / 65536 = (d0 + d1 + d2 + d3) + 256 * ((d1 + d2 + d3 + d4) + 256 * ((d2 + d3 + d4 + d5) + 256 * ((d3 + d4 + d5 + d6) + 256 * ((d4 + d5 + d6 + d7) + 256 * ((d5 + d6 + d7) + 256 * ((d6 + d7) + 256 * (d7))))))) := by clear hB; omega
  have b1 : A + A / 65536 < 18446744073709551616 := by rw [b0]; clear hB hA b0 t2; omega
  rw [Nat.mod_eq_of_lt b1, b0] at hB
  clear b1 b0 t2 hA
  have t3 : B / 4294967296 = (d4 + d5 + d6 + d7) + 256 * ((d5 + d6 + d7) + 256 * ((d6 + d7) + 256 * (d7))) := by omega
  have c0 : B + B / 4294967296 = (d0 + d1 + d2 + d3 + d4 + d5 + d6 + d7) + 256 * ((d1 + d2 + d3 + d4 + d5 + d6 + d7) + 256 * ((d2 + d3 + d4 + d5 + d6 + d7) + 256 * ((d3 + d4 + d5 + d6 + d7) + 256 * ((d4 + d5 + d6 + d7) + 256 * ((d5 + d6 + d7) + 256 * ((d6 + d7) + 256 * (d7))))))) := by omega
  have c1 : B + B / 4294967296 < 18446744073709551616 := by rw [c0]; clear hB c0 t3; omega
  rw [Nat.mod_eq_of_lt c1, c0]
  clear c1 c0 t3 hB
  exact ⟨by omega, by omega⟩
end Go.Proofs.Ytfoojhjhinofmaa
