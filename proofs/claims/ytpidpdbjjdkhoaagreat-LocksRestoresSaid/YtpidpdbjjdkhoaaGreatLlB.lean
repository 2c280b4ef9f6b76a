/- Locks: Has; SameIds, SameLocks, SameEdges of rows alike. -/
import Derived.Test.YtpidpdbjjdkhoaaGreatLkZ
namespace Go.Proofs.YtpidpdbjjdkhoaaGreat
open Go.RowKit
set_option linter.unusedSimpArgs false
set_option linter.unusedVariables false
attribute [local go_sem ↓] Go.wp_at_zero Go.wp_at_succ
def HasRel (l : List Idn) (x : Idn) (w : World) (i : Value) (wr : World) : Prop := ∃ k q : Nat, i = .int .i64 k ∧ k ≤ l.length ∧ (∀ j, j < k → eqI (gr idR l j) x = false) ∧ wr = w.drewN q
set_option maxHeartbeats 4000000 in
set_option maxRecDepth 100000 in
theorem has_any (A : Option Addr) (c : Nat) (l : List Idn) (x : Idn) (w : World) (hr : Reads w w.heap.size 2 A l.length (rc idR l)) (hl : l.length ≤ 8796093022208) : Calls Tryz.prog 49 #[.slice A l.length c, idV x] w (BoolIs (hasI l x) w) := by
  have HR := Lib.hid hr
  have HE := Lib.hid (fun y => run_eqI y x)
  clear hr
  unfold idV
  go_enter Tryz.func49, Tryz.ntmps49
  go_upto_region 1 with fail
  have k1 := Blk.new w 29 #[.int .i64 x.n, .int .i64 x.c]
  have HB := Lib.hid (below_alloc w (.cells #[.int .i64 x.n, .int .i64 x.c] 29))
  obtain ⟨w2, hw2⟩ : ∃ w2, w2 = (w.alloc (.cells #[.int .i64 x.n, .int .i64 x.c] 29)) := ⟨_, rfl⟩
  obtain ⟨p1, hp1⟩ : ∃ p1, p1 = w.heap.size := ⟨_, rfl⟩
  rw [← hw2] at HB k1
  rw [← hp1] at k1
  rw [← hw2]
  rw [← hp1]
  clear hw2 hp1
  have x10 : w2.cell? ⟨p1, 0, none⟩ = some (.int .i64 x.n) := k1.cell 0
  have x11 : w2.cell? ⟨p1, 1, none⟩ = some (.int .i64 x.c) := k1.cell 1
  have HRR := Lib.hid ((HR.out.below HB.out).more HB.out.size)
  clear k1
  go_wp2_with fail
  go_loopw [5] (HasRel l x w2) (fun i _ => l.length - (intOf i).toNat)
  case atStart => exact ⟨0, 0, rfl, Nat.zero_le _, fun i h => absurd h (by omega), rfl⟩
  case round =>
    obtain ⟨k, q, rfl, hk, hno, rfl⟩ := hrel
    have HNO := Lib.hid hno
    clear hno
    by_cases hlt : k < l.length
    · obtain ⟨b, off, rfl, _, a0, a1⟩ := rdI HRR.out hlt
      have kL : (0 : Int) ≤ (k : Int) := by omega
      have kU : (k : Int) < (l.length : Int) := by omega
      have he := HE.out (gr idR l k)
      cases hq : eqI (gr idR l k) x with
      | true =>
        rw [hq] at he
        have HF : Hid (true = hasI l x) := Lib.hid (by symm; rw [hasI_iff, ← eqI_iff.1 hq]; exact gr_mem hlt)
        generalize gr idR l k = y at *
        clear hq
        go_wp2
        go_quiet (fail)
        go_wp2
        go_ret
        exact ⟨ret_bool HF.out, by first | exact below_drewN HB.out _ | exact below_drewN (below_drewN HB.out _) _⟩
      | false =>
        rw [hq] at he
        have HF := Lib.hid hq
        obtain ⟨y, hy⟩ : ∃ y, y = gr idR l k := ⟨_, rfl⟩
        have Hy := Lib.hid hy
        rw [← hy] at a0 a1 he
        clear hq hy
        go_wp2
        go_quiet (fail)
        go_wp2
        go_roundw
        case rel => exact ⟨k + 1, _, by go_num, by omega, fun i hi => by
            by_cases e : i = k
            · rw [e]; exact HF.out
            · exact HNO.out i (by omega), rfl⟩
        case measure => simp [intOf]; omega
    · have HF : Hid (false = hasI l x) := Lib.hid (by
        have := hasI_take (l := l) (i := x) (k := k) HNO.out
        symm
        rwa [List.take_of_length_le (by omega)] at this)
      go_wp2
      go_ret
      exact ⟨ret_bool HF.out, by first | exact below_drewN HB.out _ | exact below_drewN (below_drewN HB.out _) _⟩

/-! ### rows alike -/
theorem rdE {w : World} {B n : Nat} {A : Option Addr} {l : List Edg} (h : Reads w B 5 A n (rc edR l)) {k : Nat} (hk : k < l.length) :
    ∃ b off, A = some ⟨b, off, none⟩ ∧ b < B ∧ w.cell? ⟨b, off + k * 5, none⟩ = some (.string (gr edR l k).key) ∧ w.cell? ⟨b, off + k * 5 + 1, none⟩ = some (.int .i64 (gr edR l k).w.n) ∧ w.cell? ⟨b, off + k * 5 + 2, none⟩ = some (.int .i64 (gr edR l k).w.c) ∧ w.cell? ⟨b, off + k * 5 + 3, none⟩ = some (.int .i64 (gr edR l k).h.n) ∧ w.cell? ⟨b, off + k * 5 + 4, none⟩ = some (.int .i64 (gr edR l k).h.c) := by
  obtain ⟨b, off, hA, hb, hc⟩ := Reads.elt (R := edR) h hk
  exact ⟨b, off, hA, hb, hc 0 _ rfl, hc 1 _ rfl, hc 2 _ rfl, hc 3 _ rfl, hc 4 _ rfl⟩
def eqE (x y : Edg) : Bool := (x.key.toList == y.key.toList) && eqI x.w y.w && eqI x.h y.h
theorem eqE_self (x : Edg) : eqE x x = true := by simp [eqE, eqI]
theorem run_eqEn (x y : Edg) (w : World) : (Op.equalIn 10000 66 (.agg #[.string x.key, .int .i64 x.w.n, .int .i64 x.w.c, .int .i64 x.h.n, .int .i64 x.h.c]) (.agg #[.string y.key, .int .i64 y.w.n, .int .i64 y.w.c, .int .i64 y.h.n, .int .i64 y.h.c])).run Tryz.prog w = .ok (eqE x y) w := by
  have hf := fields_of Tryz.underlying66
  have h := run_equalIn_struct (P := Tryz.prog) w 9999 66 #[.string x.key, .int .i64 x.w.n, .int .i64 x.w.c, .int .i64 x.h.n, .int .i64 x.h.c] #[.string y.key, .int .i64 y.w.n, .int .i64 y.w.c, .int .i64 y.h.n, .int .i64 y.h.c] (by rw [hf]; exact Tryz.underlying66) (by kernel_rfl)
  rw [h, hf]
  have p1 : ∀ (z : Edg) (w : World), (part 9 #[.string z.key, .int .i64 z.w.n, .int .i64 z.w.c, .int .i64 z.h.n, .int .i64 z.h.c] 0).run Tryz.prog w = .ok (.string z.key) w := fun z w => by kernel_rfl
  have p2 : ∀ (z : Edg) (w : World), (part 29 #[.string z.key, .int .i64 z.w.n, .int .i64 z.w.c, .int .i64 z.h.n, .int .i64 z.h.c] 1).run Tryz.prog w = .ok (.agg #[.int .i64 z.w.n, .int .i64 z.w.c]) w := fun z w => by kernel_rfl
  have p3 : ∀ (z : Edg) (w : World), (part 29 #[.string z.key, .int .i64 z.w.n, .int .i64 z.w.c, .int .i64 z.h.n, .int .i64 z.h.c] 3).run Tryz.prog w = .ok (.agg #[.int .i64 z.h.n, .int .i64 z.h.c]) w := fun z w => by kernel_rfl
  have q1 : ∀ (a b : ByteArray) (w : World), (Op.equalIn 9999 9 (.string a) (.string b)).run Tryz.prog w = .ok (a.toList == b.toList) w := fun a b w => run_equalIn_string w 9998 9 a b Tryz.underlying9
  have q2 : ∀ (a b : Idn) (w : World), (Op.equalIn 9999 29 (.agg #[.int .i64 a.n, .int .i64 a.c]) (.agg #[.int .i64 b.n, .int .i64 b.c])).run Tryz.prog w = .ok (eqI a b) w := fun a b w => run_eqIn 9997 a b w
  unfold eqE
  cases e1 : (x.key.toList == y.key.toList) <;> cases e2 : eqI x.w y.w <;> cases e3 : eqI x.h y.h <;>
    simp [Op.eqFields, p1, p2, p3, q1, q2, e1, e2, e3, Result.andThen]
theorem run_neE (x y : Edg) (w : World) : (binOp .neq 66 (.agg #[.string x.key, .int .i64 x.w.n, .int .i64 x.w.c, .int .i64 x.h.n, .int .i64 x.h.c]) (.agg #[.string y.key, .int .i64 y.w.n, .int .i64 y.w.c, .int .i64 y.h.n, .int .i64 y.h.c])).run Tryz.prog w = .ok (.bool (!eqE x y)) w := by
  rw [run_neq_struct, run_eqEn]; rfl
theorem eqI_self (x : Idn) : eqI x x = true := eqI_iff.2 rfl
theorem eqL_self (x : Lk) : eqL x x = true := eqL_iff.2 rfl
def AlikeRel (n : Nat) (w : World) (i : Value) (wr : World) : Prop := ∃ k q : Nat, i = .int .i64 k ∧ k ≤ n ∧ wr = w.drewN q
set_option maxHeartbeats 4000000 in
set_option maxRecDepth 100000 in
theorem alikeI (A A' : Option Addr) (c c' B B' : Nat) (l : List Idn) (w : World) (h1 : Reads w B 2 A l.length (rc idR l)) (h2 : Reads w B' 2 A' l.length (rc idR l)) (hl : l.length ≤ 8796093022208) :
    Calls Tryz.prog 12 #[.slice A l.length c, .slice A' l.length c'] w fun e w' => e = .returned (.bool true) ∧ ∃ q, w' = w.drewN q := by
  have H1 := Lib.hid h1
  have H2 := Lib.hid h2
  clear h1 h2
  go_enter Tryz.func12, Tryz.ntmps12
  go_wp2
  go_loopw [5] (AlikeRel l.length w) (fun i _ => l.length - (intOf i).toNat)
  case atStart => exact ⟨0, 0, rfl, Nat.zero_le _, rfl⟩
  case round =>
    obtain ⟨k, q, rfl, hk, rfl⟩ := hrel
    by_cases hlt : k < l.length
    · obtain ⟨b1, o1, rfl, _, a0, a1⟩ := rdI H1.out hlt
      obtain ⟨b2, o2, rfl, _, b0, b1⟩ := rdI H2.out hlt
      have kL : (0 : Int) ≤ (k : Int) := by omega
      have kU : (k : Int) < (l.length : Int) := by omega
      have he := run_neI (gr idR l k) (gr idR l k)
      rw [eqI_self] at he
      generalize gr idR l k = x at *
      clear H1 H2
      go_wp2
      go_quiet (fail)
      go_wp2
      go_roundw
      case rel => exact ⟨k + 1, _, by go_num, by omega, rfl⟩
      case measure => simp [intOf]; omega
    · go_wp2
      go_ret
      exact ⟨rfl, q, rfl⟩
set_option maxHeartbeats 4000000 in
set_option maxRecDepth 100000 in
theorem alikeL (A A' : Option Addr) (c c' B B' : Nat) (l : List Lk) (w : World) (h1 : Reads w B 4 A l.length (rc lkR l)) (h2 : Reads w B' 4 A' l.length (rc lkR l)) (hl : l.length ≤ 3518437208883) :
    Calls Tryz.prog 11 #[.slice A l.length c, .slice A' l.length c'] w fun e w' => e = .returned (.bool true) ∧ ∃ q, w' = w.drewN q := by
  have H1 := Lib.hid h1
  have H2 := Lib.hid h2
  clear h1 h2
  go_enter Tryz.func11, Tryz.ntmps11
  go_wp2
  go_loopw [5] (AlikeRel l.length w) (fun i _ => l.length - (intOf i).toNat)
  case atStart => exact ⟨0, 0, rfl, Nat.zero_le _, rfl⟩
  case round =>
    obtain ⟨k, q, rfl, hk, rfl⟩ := hrel
    by_cases hlt : k < l.length
    · obtain ⟨b1, o1, rfl, _, a0, a1, a2, a3⟩ := rdL H1.out hlt
      obtain ⟨b2, o2, rfl, _, b0, b1, b2, b3⟩ := rdL H2.out hlt
      have kL : (0 : Int) ≤ (k : Int) := by omega
      have kU : (k : Int) < (l.length : Int) := by omega
      have he := run_neL (gr lkR l k) (gr lkR l k)
      rw [eqL_self] at he
      generalize gr lkR l k = x at *
      clear H1 H2
      go_wp2
      go_quiet (fail)
      go_wp2
      go_roundw
      case rel => exact ⟨k + 1, _, by go_num, by omega, rfl⟩
      case measure => simp [intOf]; omega
    · go_wp2
      go_ret
      exact ⟨rfl, q, rfl⟩
set_option maxHeartbeats 4000000 in
set_option maxRecDepth 100000 in
theorem alikeE (A A' : Option Addr) (c c' B B' : Nat) (l : List Edg) (w : World) (h1 : Reads w B 5 A l.length (rc edR l)) (h2 : Reads w B' 5 A' l.length (rc edR l)) (hl : l.length ≤ 2932031007402) :
    Calls Tryz.prog 27 #[.slice A l.length c, .slice A' l.length c'] w fun e w' => e = .returned (.bool true) ∧ ∃ q, w' = w.drewN q := by
  have H1 := Lib.hid h1
  have H2 := Lib.hid h2
  clear h1 h2
  go_enter Tryz.func27, Tryz.ntmps27
  go_wp2
  go_loopw [5] (AlikeRel l.length w) (fun i _ => l.length - (intOf i).toNat)
  case atStart => exact ⟨0, 0, rfl, Nat.zero_le _, rfl⟩
  case round =>
    obtain ⟨k, q, rfl, hk, rfl⟩ := hrel
    by_cases hlt : k < l.length
    · obtain ⟨b1, o1, rfl, _, a0, a1, a2, a3, a4⟩ := rdE H1.out hlt
      obtain ⟨b2, o2, rfl, _, b0, b1, b2, b3, b4⟩ := rdE H2.out hlt
      have kL : (0 : Int) ≤ (k : Int) := by omega
      have kU : (k : Int) < (l.length : Int) := by omega
      have he := run_neE (gr edR l k) (gr edR l k)
      rw [eqE_self] at he
      generalize gr edR l k = x at *
      clear H1 H2
      go_wp2
      go_quiet (fail)
      go_wp2
      go_roundw
      case rel => exact ⟨k + 1, _, by go_num, by omega, rfl⟩
      case measure => simp [intOf]; omega
    · go_wp2
      go_ret
      exact ⟨rfl, q, rfl⟩
end Go.Proofs.YtpidpdbjjdkhoaaGreat
