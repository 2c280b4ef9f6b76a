/- The readers of layer 1: the closures and the calls over them. -/
import Derived.Test.YtidiohmpmjhbaaaBrB
namespace Go.Proofs.Ytidiohmpmjhbaaa
open Go.RowKit

/-! ### what a call tells, and what is wrong -/
def byteV (l : List UInt8) : Nat := (l.head?.map UInt8.toNat).getD 0
def byteK (l : List UInt8) : Nat := if l.length = 0 then 0 else 1
def byteE (l : List UInt8) : Int := if l.length = 0 then 1 else 0
def Rd.byte (R : Rd) : Nat × Rd := if R.e = 0 then (byteV R.rest, R.step (byteK R.rest) (byteE R.rest)) else (0, R)
def Rd.uint (R : Rd) : Nat × Rd := if R.e = 0 then ((num R.rest).1, R.step (num R.rest).2.1 (num R.rest).2.2) else (0, R)

theorem numFrom_le : ∀ (f i acc : Nat) (l : List UInt8), (numFrom f i acc l).2.1 ≤ i + l.length := by
  intro f
  induction f with
  | zero => intro i acc l; rw [numFrom_zero]; simp
  | succ f ih =>
    intro i acc l
    cases l with
    | nil => simp [numFrom]
    | cons c r =>
      simp only [numFrom]
      split
      · have := ih (i + 1) (acc + c.toNat % 128 * 2 ^ (7 * i)) r
        simp
        omega
      · split
        · simp
        · simp
theorem num_le (l : List UInt8) : (num l).2.1 ≤ l.length := by
  have := numFrom_le 10 0 0 l
  unfold num
  omega
theorem byteK_le (l : List UInt8) : byteK l ≤ l.length := by unfold byteK; split <;> omega

theorem Blk.one {w : World} {g : Nat} {t : TypeId} {u v : Value} (h : Blk w g t #[u]) : Blk (w.setCell ⟨g, 0, none⟩ v) g t #[v] := by
  have := h.set_ 0 v
  simpa using this
theorem blk_stays {b g : Nat} {t : TypeId} {cs : Array Value} (hne : g ≠ b) : ∀ (w1 : World) (o : Nat) (v : Value), Blk w1 g t cs → Blk (w1.setCell ⟨b, o, none⟩ v) g t cs :=
  fun _ _ v h => h.far (p := ⟨b, _, none⟩) hne v

set_option maxHeartbeats 2000000 in
theorem clo_46 (R : Rd) (g : Nat) (w : World) (hg : Blk w g 5 #[.int .u8 0]) (htop : R.rest.length ≤ 140737488355328) :
    CloFits 46 [.pointer (some ⟨g, 0, none⟩)] R w [g] (fun w' => Blk w' g 5 #[.int .u8 (byteV R.rest)]) (byteK R.rest) (byteE R.rest) := by
  intro A' c' hr _
  generalize R.rest = xs at *
  by_cases h0 : xs.length = 0
  · have e1 : byteK xs = 0 := by unfold byteK; rw [if_pos h0]
    have e2 : byteE xs = 1 := by unfold byteE; rw [if_pos h0]
    have e3 : byteV xs = 0 := by rw [List.eq_nil_of_length_eq_zero h0]; rfl
    rw [e1, e2, e3]
    have hb : ((xs.length : Int) == 0) = true := by rw [beq_iff_eq]; omega
    clear e1 e2 e3 h0
    show Calls _ _ #[_, _] _ _
    go_enter Try.func46, Try.ntmps46
    go_wp2
    go_ret2
    exact ⟨rfl, Kept.refl _ _, hg.drew⟩
  · have e1 : byteK xs = 1 := by unfold byteK; rw [if_neg h0]
    have e2 : byteE xs = 0 := by unfold byteE; rw [if_neg h0]
    have h1 : 0 < xs.length := by omega
    have e3 : byteV xs = xs[0].toNat := by
      cases xs with
      | nil => simp at h1
      | cons x r => rfl
    rw [e1, e2, e3]
    have hb : ((xs.length : Int) == 0) = false := by rw [beq_eq_false_iff_ne]; omega
    obtain ⟨ad, rfl, _, hc⟩ := hr.byte h1
    rw [Addr.add_zero'] at hc
    have hgd := hg.drew
    generalize w.drew = wd at *
    have c0 := hgd.cell 0
    have f0 := hgd.frozen 0
    simp only [List.getElem?_toArray, List.getElem?_cons_zero] at c0
    clear e1 e2 e3 h0
    show Calls _ _ #[_, _] _ _
    go_enter Try.func46, Try.ntmps46
    go_wp2
    go_ret2
    exact ⟨rfl, (Kept.refl _ _).setCell _ (.inl (by simp)), hgd.one⟩

set_option maxHeartbeats 2000000 in
theorem clo_48 (R : Rd) (g : Nat) (w : World) (hg : Blk w g 29 #[.int .u64 0]) (htop : R.rest.length ≤ 140737488355328) :
    CloFits 48 [.pointer (some ⟨g, 0, none⟩)] R w [g] (fun w' => Blk w' g 29 #[.int .u64 (num R.rest).1]) (num R.rest).2.1 (num R.rest).2.2 := by
  intro A' c' hr _
  generalize R.rest = xs at *
  have hgd := hg.drew
  generalize w.drew = wd at *
  have c0 := hgd.cell 0
  have f0 := hgd.frozen 0
  simp only [List.getElem?_toArray, List.getElem?_cons_zero] at c0
  show Calls _ _ #[_, _] _ _
  go_enter Try.func48, Try.ntmps48
  go_wp2_with fail
  refine (number_any _ _ _ xs _ hr htop).mono ?_
  rintro e w' ⟨rfl, rfl⟩
  go_wp2
  go_ret2
  exact ⟨rfl, (Kept.refl _ _).setCell _ (.inl (by simp)), hgd.one⟩

/-- what a call that answers leaves -/
def RdEnds (w : World) (b : Nat) (R' : Rd) (A : Option Addr) (c : Nat) (v : Value) (e : Ending) (w' : World) : Prop := e = .returned v ∧ IsR w' b R' A c ∧ Kept [b] w w'

theorem Rd.rest_le {w : World} {b c : Nat} {R : Rd} {A : Option Addr} (h : IsR w b R A c) : R.rest.length ≤ 140737488355328 := by
  have := h.top
  unfold Rd.rest
  simp
  omega
theorem IsR.new_ne {w : World} {b c : Nat} {R : Rd} {A : Option Addr} (h : IsR w b R A c) : ∀ x ∈ b :: ob A, x ∉ [w.heap.size] := by
  intro x hx hm
  have := h.lt x hx
  simp at hm
  omega
theorem kept_new {w w' : World} {b : Nat} {o : Obj} (h : Kept [b, w.heap.size] (w.alloc o) w') : Kept [b] w w' :=
  ((Kept.refl [b] w).alloc o).trans h (fun x hx => by
    simp at hx
    rcases hx with rfl | rfl
    · exact .inl (by simp)
    · exact .inr (Nat.le_refl _))

set_option maxHeartbeats 2000000 in
theorem rbyte_any (b : Nat) (R : Rd) (A : Option Addr) (c : Nat) (w : World) (h : IsR w b R A c) :
    Calls Try.prog 19 #[.pointer (some ⟨b, 0, none⟩)] w (RdEnds w b R.byte.2 A c (.int .u8 R.byte.1)) := by
  have h0 := h.below (below_alloc w (.cells #[.int .u8 0] 5))
  have hg := Blk.new w 5 #[.int .u8 0]
  have hbs := h.lt b (by simp)
  by_cases he : R.e = 0
  · have e1 : R.byte = (byteV R.rest, R.step (byteK R.rest) (byteE R.rest)) := by unfold Rd.byte; rw [if_pos he]
    rw [e1]
    clear e1
    go_enter Try.func19, Try.ntmps19
    go_wp2_with fail
    refine (read_46 b R A c _ _ [w.heap.size] _ _ _ h0 he (byteK_le _) (h.new_ne) (blk_stays (by omega)) (clo_46 R _ _ hg (Rd.rest_le h))).mono ?_
    rintro e w1 ⟨rfl, hR, hk, hq⟩
    have x0 := hq.cell 0
    simp only [List.getElem?_toArray, List.getElem?_cons_zero] at x0
    go_wp2
    go_ret
    exact ⟨rfl, hR, kept_new hk⟩
  · have e1 : R.byte = (0, R) := by unfold Rd.byte; rw [if_neg he]
    rw [e1]
    clear e1
    go_enter Try.func19, Try.ntmps19
    go_wp2_with fail
    refine (skip_46 b R A c _ _ h0 he).mono ?_
    rintro e w1 ⟨rfl, rfl⟩
    go_wp2
    go_ret
    exact ⟨rfl, h0, (Kept.refl _ _).alloc _⟩
set_option maxHeartbeats 2000000 in
theorem ruint_any (b : Nat) (R : Rd) (A : Option Addr) (c : Nat) (w : World) (h : IsR w b R A c) :
    Calls Try.prog 22 #[.pointer (some ⟨b, 0, none⟩)] w (RdEnds w b R.uint.2 A c (.int .u64 R.uint.1)) := by
  have h0 := h.below (below_alloc w (.cells #[.int .u64 0] 29))
  have hg := Blk.new w 29 #[.int .u64 0]
  have hbs := h.lt b (by simp)
  by_cases he : R.e = 0
  · have e1 : R.uint = ((num R.rest).1, R.step (num R.rest).2.1 (num R.rest).2.2) := by unfold Rd.uint; rw [if_pos he]
    rw [e1]
    clear e1
    go_enter Try.func22, Try.ntmps22
    go_wp2_with fail
    refine (read_48 b R A c _ _ [w.heap.size] _ _ _ h0 he (num_le _) (h.new_ne) (blk_stays (by omega)) (clo_48 R _ _ hg (Rd.rest_le h))).mono ?_
    rintro e w1 ⟨rfl, hR, hk, hq⟩
    have x0 := hq.cell 0
    simp only [List.getElem?_toArray, List.getElem?_cons_zero] at x0
    go_wp2
    go_ret
    exact ⟨rfl, hR, kept_new hk⟩
  · have e1 : R.uint = (0, R) := by unfold Rd.uint; rw [if_neg he]
    rw [e1]
    clear e1
    go_enter Try.func22, Try.ntmps22
    go_wp2_with fail
    refine (skip_48 b R A c _ _ h0 he).mono ?_
    rintro e w1 ⟨rfl, rfl⟩
    go_wp2
    go_ret
    exact ⟨rfl, h0, (Kept.refl _ _).alloc _⟩

def zag (n : Nat) : Int := if n % 2 = 1 then -((n / 2 : Nat) : Int) - 1 else ((n / 2 : Nat) : Int)
theorem num_lt_aux : ∀ (f i acc : Nat) (l : List UInt8), f + i = 10 → (i ≤ 9 → acc < 2 ^ (7 * i)) → (numFrom f i acc l).1 < 18446744073709551616 := by
  intro f
  induction f with
  | zero => intro i acc l _ _; rw [numFrom_zero]; simp
  | succ f ih =>
    intro i acc l hi ha
    cases l with
    | nil => simp [numFrom]
    | cons c r =>
      have hc := UInt8.toNat_lt c
      simp only [numFrom]
      split
      · exact ih (i + 1) _ r (by omega) (fun h9 => acc_lt acc c.toNat i (ha (by omega)))
      · split
        · simp
        · rename_i h128 hbad
          have h1 := ha (by omega)
          have hl := lay_eq acc c.toNat i hc h1 (by omega)
          obtain ⟨m, hm, hm2⟩ := lay_lt acc c.toNat i hc (by
            have h2 : 2 ^ (7 * i) ≤ 2 ^ 63 := Nat.pow_le_pow_right (by decide) (by omega)
            omega)
          rw [hm, Nat.mod_eq_of_lt (by omega)] at hl
          simp only
          omega
theorem num_lt (l : List UInt8) : (num l).1 < 18446744073709551616 := num_lt_aux 10 0 0 l (by omega) (by simp)
theorem uint_lt (R : Rd) : R.uint.1 < 18446744073709551616 := by unfold Rd.uint; split <;> simp [num_lt]
def Rd.int (R : Rd) : Int × Rd := (zag R.uint.1, R.uint.2)

theorem xor_i64 (a : Nat) (ha : a < 9223372036854775808) : bits BinOp.xor IntKind.i64 (a : Int) (-1) = -(a : Int) - 1 := by
  have h1 : (BitVec.ofInt 64 (a : Int)).toNat = a := by
    rw [BitVec.ofInt_natCast, BitVec.toNat_ofNat]; exact Nat.mod_eq_of_lt (by omega)
  have h2 : (BitVec.ofInt 64 (-1)).toNat = 18446744073709551615 := by decide
  show IntKind.i64.wrap ((BitVec.ofInt 64 (a : Int) ^^^ BitVec.ofInt 64 (-1)).toNat : Int) = _
  rw [BitVec.toNat_xor, h1, h2, xor_ones a (by omega), IntKind.wrap_i64]
  omega
theorem xor_i64_0 (a : Nat) (ha : a < 9223372036854775808) : bits BinOp.xor IntKind.i64 (a : Int) 0 = (a : Int) := by
  have h1 : (BitVec.ofInt 64 (a : Int)).toNat = a := by
    rw [BitVec.ofInt_natCast, BitVec.toNat_ofNat]; exact Nat.mod_eq_of_lt (by omega)
  have h2 : (BitVec.ofInt 64 0).toNat = 0 := by decide
  show IntKind.i64.wrap ((BitVec.ofInt 64 (a : Int) ^^^ BitVec.ofInt 64 0).toNat : Int) = _
  rw [BitVec.toNat_xor, h1, h2, Nat.xor_zero, IntKind.wrap_i64]
  omega
theorem and_u64_1 (n : Nat) (hn : n < 18446744073709551616) : bits BinOp.and IntKind.u64 (n : Int) 1 = ((n % 2 : Nat) : Int) := by
  have h1 := bits_and_u64_nat n 1 hn (by decide)
  have e : ((1 : Nat) : Int) = 1 := rfl
  rw [e] at h1
  rw [h1, Nat.and_one_is_mod]
theorem zag_bits (n : Nat) (hn : n < 18446744073709551616) :
    bits BinOp.xor IntKind.i64 ((n : Int) / 2) (wrap64 (-(wrap64 (bits BinOp.and IntKind.u64 (n : Int) 1)))) = zag n := by
  rw [and_u64_1 n hn, show (n : Int) / 2 = ((n / 2 : Nat) : Int) by omega]
  unfold zag
  by_cases h : n % 2 = 1
  · rw [if_pos h, h, show wrap64 (-(wrap64 ((1 : Nat) : Int))) = -1 by unfold wrap64; omega]
    exact xor_i64 _ (by omega)
  · rw [if_neg h, show n % 2 = 0 by omega, show wrap64 (-(wrap64 ((0 : Nat) : Int))) = 0 by unfold wrap64; omega]
    exact xor_i64_0 _ (by omega)
set_option maxHeartbeats 2000000 in
theorem rint_any (b : Nat) (R : Rd) (A : Option Addr) (c : Nat) (w : World) (h : IsR w b R A c) :
    Calls Try.prog 24 #[.pointer (some ⟨b, 0, none⟩)] w (RdEnds w b R.int.2 A c (.int .i64 R.int.1)) := by
  have hu := uint_lt R
  have hz := Lib.hid (zag_bits R.uint.1 hu)
  have e1 : R.int = (zag R.uint.1, R.uint.2) := rfl
  rw [e1]
  clear e1
  go_enter Try.func24, Try.ntmps24
  go_wp2_with fail
  refine (ruint_any b R A c _ h).mono ?_
  rintro e w1 ⟨rfl, hR, hk⟩
  generalize R.uint.1 = n at *
  go_wp2
  go_ret
  exact ⟨ret_int hz.out, hR, hk⟩
set_option maxHeartbeats 2000000 in
theorem zag_any (n : Nat) (w : World) (hn : n < 18446744073709551616) :
    Calls Try.prog 54 #[.int .u64 n] w fun e w' => e = .returned (.int .i64 (zag n)) ∧ w = w' := by
  by_cases h : n % 2 = 1
  · have hb : ((n : Int) % 2 == 1) = true := by rw [beq_iff_eq]; omega
    have hf : Hid (zag n = -((n / 2 : Nat) : Int) - 1) := by unfold Hid zag; rw [if_pos h]
    clear h
    go_enter Try.func54, Try.ntmps54
    go_wp2
    go_ret
    exact ⟨ret_int (by rw [hf.out]; omega), rfl⟩
  · have hb : ((n : Int) % 2 == 1) = false := by rw [beq_eq_false_iff_ne]; omega
    have hf : Hid (zag n = ((n / 2 : Nat) : Int)) := by unfold Hid zag; rw [if_neg h]
    clear h
    go_enter Try.func54, Try.ntmps54
    go_wp2
    go_ret
    exact ⟨ret_int (by rw [hf.out]; omega), rfl⟩
set_option maxHeartbeats 1000000 in
theorem rat_any (b : Nat) (R : Rd) (A : Option Addr) (c : Nat) (w : World) (h : IsR w b R A c) :
    Calls Try.prog 28 #[.pointer (some ⟨b, 0, none⟩)] w fun e w' => e = .returned (.int .i64 R.at_) ∧ w = w' := by
  have c1 := h.blk.cell 1
  simp only [List.getElem?_toArray, List.getElem?_cons_zero, List.getElem?_cons_succ] at c1
  go_enter Try.func28, Try.ntmps28
  go_wp2
  go_ret
  exact ⟨rfl, rfl⟩
set_option maxHeartbeats 1000000 in
theorem rerr_any (b : Nat) (R : Rd) (A : Option Addr) (c : Nat) (w : World) (h : IsR w b R A c) :
    Calls Try.prog 20 #[.pointer (some ⟨b, 0, none⟩)] w fun e w' => e = .returned (.int .i64 R.e) ∧ w = w' := by
  have c2 := h.blk.cell 2
  simp only [List.getElem?_toArray, List.getElem?_cons_zero, List.getElem?_cons_succ] at c2
  go_enter Try.func20, Try.ntmps20
  go_wp2
  go_ret
  exact ⟨rfl, rfl⟩
def Rd.fin (R : Rd) : Int := if R.e = 0 ∧ R.at_ < R.bs.length then 7 else R.e
/-- a call that only looks -/
def Looks (w : World) (v : Value) (e : Ending) (w' : World) : Prop := e = .returned v ∧ ∃ n, w' = w.drewN n
set_option maxHeartbeats 1000000 in
theorem rend_any (b : Nat) (R : Rd) (A : Option Addr) (c : Nat) (w : World) (h : IsR w b R A c) :
    Calls Try.prog 16 #[.pointer (some ⟨b, 0, none⟩)] w (Looks w (.int .i64 R.fin)) := by
  have c0 := h.blk.cell 0
  have c1 := h.blk.cell 1
  have c2 := h.blk.cell 2
  simp only [List.getElem?_toArray, List.getElem?_cons_zero, List.getElem?_cons_succ] at c0 c1 c2
  by_cases he : R.e = 0
  · rw [he] at c2
    by_cases hl : R.at_ < R.bs.length
    · have hf : Hid (R.fin = 7) := by unfold Hid Rd.fin; rw [if_pos ⟨he, hl⟩]
      clear he
      go_enter Try.func16, Try.ntmps16
      go_wp2
      go_quiet (fail)
      go_wp2
      go_ret
      exact ⟨ret_int hf.out.symm, _, rfl⟩
    · have hf : Hid (R.fin = 0) := by unfold Hid Rd.fin; rw [if_neg (fun hh => hl hh.2), he]
      have hd : decide (R.at_ < R.bs.length) = false := by simpa using hl
      clear he
      go_enter Try.func16, Try.ntmps16
      go_wp2
      go_quiet (fail)
      go_wp2
      go_ret
      exact ⟨ret_int hf.out.symm, _, rfl⟩
  · have hf : Hid (R.fin = R.e) := by unfold Hid Rd.fin; rw [if_neg (fun hh => he hh.1)]
    have hb : (R.e == 0) = false := beq_eq_false_iff_ne.2 he
    clear he
    go_enter Try.func16, Try.ntmps16
    go_wp2
    go_quiet (fail)
    go_wp2
    go_ret
    exact ⟨ret_int hf.out.symm, _, rfl⟩
end Go.Proofs.Ytidiohmpmjhbaaa
