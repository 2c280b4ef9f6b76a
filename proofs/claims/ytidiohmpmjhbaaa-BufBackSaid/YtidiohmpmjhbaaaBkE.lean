/- BufBack: the plain law: what is written is read back, and with a byte less something is missing. -/
import Derived.Test.YtidiohmpmjhbaaaBkA
import Derived.Test.YtidiohmpmjhbaaaBkB
import Derived.Test.YtidiohmpmjhbaaaBkC
namespace Go.Proofs.Ytidiohmpmjhbaaa
open Go.RowKit

/-- one call read back: the reader and whether all was alike so far -/
def Rd.back (s : Rd × Bool) (o : OpD) : Rd × Bool :=
  if s.2 = false then s
  else if o.kind = 0 then (s.1.byte.2, decide (s.1.byte.1 = o.n % 256))
  else if o.kind = 1 then (s.1.uint.2, decide (s.1.uint.1 = o.n))
  else if o.kind = 2 then (s.1.int.2, decide (s.1.int.1 = o.i))
  else if o.kind = 3 then ((s.1.text o.s.size).2, decide ((s.1.text o.s.size).1 = sb o.s))
  else if o.kind = 4 then ((s.1.raw o.b.length).2, decide ((s.1.raw o.b.length).1 = o.b))
  else s
theorem back_off (R : Rd) (l : List OpD) : l.foldl Rd.back (R, false) = (R, false) := by
  induction l with
  | nil => rfl
  | cons o r ih => rw [List.foldl_cons]; exact ih
/-- the bytes of a call -/
def OpD.row (o : OpD) : List UInt8 :=
  if o.kind = 0 then [UInt8.ofNat (o.n % 256)] else if o.kind = 1 then vb o.n else if o.kind = 2 then vb (zig o.i) else if o.kind = 3 then tb o.s else if o.kind = 4 then o.b else []
def rows (l : List OpD) : List UInt8 := (l.map OpD.row).flatten
theorem rows_cons (o : OpD) (r : List OpD) : rows (o :: r) = o.row ++ rows r := by simp [rows]
structure OpD.Num (o : OpD) : Prop where
  n : o.n < 18446744073709551616
  i1 : -9223372036854775808 ≤ o.i
  i2 : o.i ≤ 9223372036854775807
  s : o.s.size < 18446744073709551616
theorem row_len {o : OpD} (h : o.Num) : o.row.length ≤ 12 + o.s.size + o.b.length := by
  have a1 := vb_len64 h.n
  have a2 := vb_len64 (zig_lt h.i1 h.i2)
  have a3 := vb_len64 h.s
  unfold OpD.row
  split
  · simp
    omega
  · split
    · omega
    · split
      · omega
      · split
        · unfold tb
          rw [List.length_append, sb_len]
          omega
        · split
          · omega
          · simp
def wide (o : OpD) : Nat := 12 + o.s.size + o.b.length
theorem total_sum : ∀ (ops : List OpD) (left : Int), total left ops = true → (((ops.map wide).sum : Nat) : Int) ≤ max 0 (2 * left) := by
  intro ops
  induction ops with
  | nil => intro left _; simp; omega
  | cons o r ih =>
    intro left h
    by_cases hc : left - 12 < 0 ∨ left - 12 < o.s.size ∨ left - 12 < o.b.length
    · rw [total_no hc] at h
      cases h
    · rw [total_on hc] at h
      have := ih _ h
      rw [List.map_cons, List.sum_cons]
      unfold wide at this ⊢
      omega
theorem step_row {m : Int} {xs : List UInt8} {o : OpD} (h : o.Num) (hm : (xs.length : Int) + wide o ≤ m) : (⟨m, xs, false⟩ : Wr).step o = ⟨m, xs ++ o.row, false⟩ := by
  have hl := row_len h
  unfold wide at hm
  have key : ∀ ys : List UInt8, ys = o.row → (⟨m, xs, false⟩ : Wr).put ys = ⟨m, xs ++ o.row, false⟩ := by
    intro ys hy
    subst hy
    unfold Wr.put
    rw [if_neg (by simp), if_neg (by simp only; omega)]
  unfold Wr.step
  by_cases k0 : o.kind = 0
  · rw [if_pos k0]; exact key _ (by unfold OpD.row; rw [if_pos k0])
  by_cases k1 : o.kind = 1
  · rw [if_neg k0, if_pos k1]; exact key _ (by unfold OpD.row; rw [if_neg k0, if_pos k1])
  by_cases k2 : o.kind = 2
  · rw [if_neg k0, if_neg k1, if_pos k2]; exact key _ (by unfold OpD.row; rw [if_neg k0, if_neg k1, if_pos k2])
  by_cases k3 : o.kind = 3
  · rw [if_neg k0, if_neg k1, if_neg k2, if_pos k3]
    unfold Wr.text
    rw [if_neg (by simp only; omega)]
    exact key _ (by unfold OpD.row; rw [if_neg k0, if_neg k1, if_neg k2, if_pos k3])
  by_cases k4 : o.kind = 4
  · rw [if_neg k0, if_neg k1, if_neg k2, if_neg k3, if_pos k4]; exact key _ (by unfold OpD.row; rw [if_neg k0, if_neg k1, if_neg k2, if_neg k3, if_pos k4])
  rw [if_neg k0, if_neg k1, if_neg k2, if_neg k3, if_neg k4]
  have : o.row = [] := by unfold OpD.row; rw [if_neg k0, if_neg k1, if_neg k2, if_neg k3, if_neg k4]
  rw [this, List.append_nil]
theorem write_rows : ∀ (ops : List OpD) (m : Int) (xs : List UInt8), (∀ o ∈ ops, o.Num) → (xs.length : Int) + (ops.map wide).sum ≤ m → ops.foldl Wr.step ⟨m, xs, false⟩ = ⟨m, xs ++ rows ops, false⟩ := by
  intro ops
  induction ops with
  | nil => intro m xs _ _; simp [rows]
  | cons o r ih =>
    intro m xs hn hm
    rw [List.map_cons, List.sum_cons] at hm
    have hl := row_len (hn o (by simp))
    rw [List.foldl_cons, step_row (hn o (by simp)) (by omega), ih m _ (fun x hx => hn x (List.mem_cons_of_mem _ hx)) (by rw [List.length_append]; unfold wide at hm ⊢; omega), rows_cons, List.append_assoc]

theorem rest_on {R : Rd} {ys l : List UInt8} (h : R.rest = ys ++ l) : (⟨R.bs, R.at_ + ys.length, R.e⟩ : Rd).rest = l := by
  unfold Rd.rest at h ⊢
  rw [← List.drop_drop, h, List.drop_left]
/-- a call that lies there whole is read back -/
theorem back_on {R : Rd} (he : R.e = 0) {o : OpD} (hn : o.Num) {l : List UInt8} (hr : R.rest = o.row ++ l) : Rd.back (R, true) o = (⟨R.bs, R.at_ + o.row.length, R.e⟩, true) := by
  unfold Rd.back
  rw [if_neg (by simp)]
  by_cases k0 : o.kind = 0
  · have hrow : o.row = [UInt8.ofNat (o.n % 256)] := by unfold OpD.row; rw [if_pos k0]
    rw [if_pos k0, back_byte he (o.n % 256) (by omega) l (by rw [hr, hrow]), hrow]
    simp
  by_cases k1 : o.kind = 1
  · have hrow : o.row = vb o.n := by unfold OpD.row; rw [if_neg k0, if_pos k1]
    rw [if_neg k0, if_pos k1, back_uint he o.n hn.n l (by rw [hr, hrow]), hrow]
    simp
  by_cases k2 : o.kind = 2
  · have hrow : o.row = vb (zig o.i) := by unfold OpD.row; rw [if_neg k0, if_neg k1, if_pos k2]
    rw [if_neg k0, if_neg k1, if_pos k2, back_int he o.i hn.i1 hn.i2 l (by rw [hr, hrow]), hrow]
    simp
  by_cases k3 : o.kind = 3
  · have hrow : o.row = tb o.s := by unfold OpD.row; rw [if_neg k0, if_neg k1, if_neg k2, if_pos k3]
    rw [if_neg k0, if_neg k1, if_neg k2, if_pos k3, back_text he o.s hn.s l (by rw [hr, hrow]), hrow]
    simp
  by_cases k4 : o.kind = 4
  · have hrow : o.row = o.b := by unfold OpD.row; rw [if_neg k0, if_neg k1, if_neg k2, if_neg k3, if_pos k4]
    rw [if_neg k0, if_neg k1, if_neg k2, if_neg k3, if_pos k4, back_raw he o.b l (by rw [hr, hrow]), hrow]
    simp
  have hrow : o.row = [] := by unfold OpD.row; rw [if_neg k0, if_neg k1, if_neg k2, if_neg k3, if_neg k4]
  rw [if_neg k0, if_neg k1, if_neg k2, if_neg k3, if_neg k4, hrow]
  rfl
theorem back_all : ∀ (ops : List OpD) (R : Rd) (l : List UInt8), R.e = 0 → (∀ o ∈ ops, o.Num) → R.rest = rows ops ++ l → ops.foldl Rd.back (R, true) = (⟨R.bs, R.at_ + (rows ops).length, R.e⟩, true) := by
  intro ops
  induction ops with
  | nil => intro R l _ _ _; rfl
  | cons o r ih =>
    intro R l he hn hr
    rw [rows_cons, List.append_assoc] at hr
    rw [List.foldl_cons, back_on he (hn o (by simp)) hr, ih ⟨R.bs, R.at_ + o.row.length, R.e⟩ l he (fun x hx => hn x (List.mem_cons_of_mem _ hx)) (rest_on hr), rows_cons, List.length_append, Nat.add_assoc]
/-- behind an error nothing is read -/
theorem back_bad : ∀ (ops : List OpD) (R : Rd) (ok : Bool), R.e ≠ 0 → (ops.foldl Rd.back (R, ok)).1 = R := by
  intro ops
  induction ops with
  | nil => intro R ok _; rfl
  | cons o r ih =>
    intro R ok he
    rw [List.foldl_cons]
    have h1 : (Rd.back (R, ok) o).1 = R := by
      unfold Rd.back
      split
      · rfl
      split
      · unfold Rd.byte; rw [if_neg he]
      split
      · unfold Rd.uint; rw [if_neg he]
      split
      · unfold Rd.int Rd.uint; rw [if_neg he]
      split
      · unfold Rd.text; rw [if_neg he]
      split
      · unfold Rd.raw; rw [if_neg he]
      · rfl
    have := ih (Rd.back (R, ok) o).1 (Rd.back (R, ok) o).2 (by rw [h1]; exact he)
    rw [show ((Rd.back (R, ok) o).1, (Rd.back (R, ok) o).2) = Rd.back (R, ok) o from rfl] at this
    rw [this, h1]
theorem numFrom_cut : ∀ (f i acc m : Nat), f + i = 10 → m < 2 ^ (64 - 7 * i) → (0 < i → 1 ≤ m) → (numFrom f i acc (vb m).dropLast).2.2 = 1 := by
  intro f
  induction f with
  | zero =>
    intro i acc m hi hm h1
    obtain rfl : i = 10 := by omega
    have := h1 (by omega)
    simp at hm
    omega
  | succ f ih =>
    intro i acc m hi hm h1
    by_cases h : m < 128
    · rw [vb_small h]
      rfl
    · rw [vb_big h]
      have e : (UInt8.ofNat (m % 128 + 128)).toNat = m % 128 + 128 := by simp; omega
      have hi8 : i ≤ 8 := by
        rcases Nat.lt_or_ge 8 i with h9 | h9
        · have h64 : 2 ^ (64 - 7 * i) ≤ 2 ^ 1 := Nat.pow_le_pow_right (by decide) (by omega)
          omega
        · exact h9
      have hp : 2 ^ (64 - 7 * i) = 128 * 2 ^ (64 - 7 * (i + 1)) := by
        rw [show 64 - 7 * i = 7 + (64 - 7 * (i + 1)) by omega, Nat.pow_add]
      have hd : m / 128 < 2 ^ (64 - 7 * (i + 1)) := by rw [hp] at hm; omega
      have hne : vb (m / 128) ≠ [] := by intro h0; have := vb_pos (m / 128); rw [h0] at this; simp at this
      rw [List.dropLast_cons_of_ne_nil hne]
      simp only [numFrom, e]
      rw [if_pos (by omega)]
      exact ih (i + 1) _ _ (by omega) hd (fun _ => by omega)
theorem num_cut (n : Nat) (hn : n < 18446744073709551616) : (num (vb n).dropLast).2.2 = 1 := numFrom_cut 10 0 0 n rfl (by simpa using hn) (by simp)
/-- a call whose last byte is not there fails -/
theorem back_short {R : Rd} (he : R.e = 0) {o : OpD} (hn : o.Num) (hne : o.row ≠ []) (hr : R.rest = o.row.dropLast) : (Rd.back (R, true) o).1.e = 1 := by
  unfold Rd.back
  rw [if_neg (by simp)]
  by_cases k0 : o.kind = 0
  · have hrow : o.row = [UInt8.ofNat (o.n % 256)] := by unfold OpD.row; rw [if_pos k0]
    rw [hrow] at hr
    rw [if_pos k0]
    unfold Rd.byte
    rw [if_pos he, hr]
    rfl
  by_cases k1 : o.kind = 1
  · have hrow : o.row = vb o.n := by unfold OpD.row; rw [if_neg k0, if_pos k1]
    rw [hrow] at hr
    rw [if_neg k0, if_pos k1]
    unfold Rd.uint
    rw [if_pos he, hr]
    simp only
    rw [step_e, num_cut _ hn.n, if_neg (by decide)]
  by_cases k2 : o.kind = 2
  · have hrow : o.row = vb (zig o.i) := by unfold OpD.row; rw [if_neg k0, if_neg k1, if_pos k2]
    rw [hrow] at hr
    rw [if_neg k0, if_neg k1, if_pos k2]
    unfold Rd.int Rd.uint
    rw [if_pos he, hr]
    simp only
    rw [step_e, num_cut _ (zig_lt hn.i1 hn.i2), if_neg (by decide)]
  by_cases k3 : o.kind = 3
  · have hrow : o.row = tb o.s := by unfold OpD.row; rw [if_neg k0, if_neg k1, if_neg k2, if_pos k3]
    rw [hrow] at hr
    rw [if_neg k0, if_neg k1, if_neg k2, if_pos k3]
    have hE : textE o.s.size R.rest = 1 := by
      unfold tb at hr
      by_cases h0 : sb o.s = []
      · rw [h0, List.append_nil] at hr
        unfold textE
        have h1 := num_cut o.s.size hn.s
        rw [hr, if_pos (by rw [h1]; decide), h1]
      · rw [List.dropLast_append_of_ne_nil h0] at hr
        unfold textE
        have hsz := sb_len o.s
        have hpos : 0 < (sb o.s).length := by rw [List.length_pos_iff]; exact h0
        rw [hr, num_back o.s.size hn.s]
        simp only
        rw [if_neg (by simp), if_neg (by omega), if_pos (by rw [List.length_append, List.length_dropLast]; omega)]
    unfold Rd.text
    rw [if_pos he]
    simp only
    rw [step_e, hE, if_neg (by decide)]
  by_cases k4 : o.kind = 4
  · have hrow : o.row = o.b := by unfold OpD.row; rw [if_neg k0, if_neg k1, if_neg k2, if_neg k3, if_pos k4]
    rw [hrow] at hr hne
    rw [if_neg k0, if_neg k1, if_neg k2, if_neg k3, if_pos k4]
    have hpos : 0 < o.b.length := by rw [List.length_pos_iff]; exact hne
    have hE : rawE o.b.length R.rest = 1 := by
      unfold rawE
      rw [hr, if_neg (by omega), if_pos (by rw [List.length_dropLast]; omega)]
    unfold Rd.raw
    rw [if_pos he]
    simp only
    rw [step_e, hE, if_neg (by decide)]
  exfalso
  apply hne
  unfold OpD.row
  rw [if_neg k0, if_neg k1, if_neg k2, if_neg k3, if_neg k4]
theorem back_cut : ∀ (ops : List OpD) (R : Rd), R.e = 0 → (∀ o ∈ ops, o.Num) → rows ops ≠ [] → R.rest = (rows ops).dropLast → (ops.foldl Rd.back (R, true)).1.e = 1 := by
  intro ops
  induction ops with
  | nil => intro R _ _ h _; exact absurd rfl h
  | cons o r ih =>
    intro R he hn hne hr
    rw [rows_cons] at hne hr
    rw [List.foldl_cons]
    by_cases h0 : rows r = []
    · rw [h0, List.append_nil] at hne hr
      have h1 := back_short he (hn o (by simp)) hne hr
      have h2 := back_bad r (Rd.back (R, true) o).1 (Rd.back (R, true) o).2 (by rw [h1]; decide)
      rw [show ((Rd.back (R, true) o).1, (Rd.back (R, true) o).2) = Rd.back (R, true) o from rfl] at h2
      rw [h2, h1]
    · rw [List.dropLast_append_of_ne_nil h0] at hr
      rw [back_on he (hn o (by simp)) hr]
      exact ih _ he (fun x hx => hn x (List.mem_cons_of_mem _ hx)) h0 (rest_on hr)
end Go.Proofs.Ytidiohmpmjhbaaa
