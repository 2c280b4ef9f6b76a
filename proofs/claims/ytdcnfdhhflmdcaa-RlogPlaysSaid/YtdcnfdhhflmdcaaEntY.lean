/- SameEntries of two rows alike. -/
import Derived.Test.YtdcnfdhhflmdcaaEntX
import Derived.Test.YtdcnfdhhflmdcaaWrB
namespace Go.Proofs.Ytdcnfdhhflmdcaa
open Go.RowKit
set_option linter.unusedSimpArgs false
set_option linter.unusedVariables false

set_option maxHeartbeats 2000000 in
set_option maxRecDepth 100000 in
theorem sameI_yes (A A' : Option Addr) (c c' B B' : Nat) (l : List Int) (w : World) (h1 : Reads w B 1 A l.length (ic l)) (h2 : Reads w B' 1 A' l.length (ic l)) (hl : l.length ≤ 17592186044416) :
    Calls Try.prog 49 #[.slice A l.length c, .slice A' l.length c'] w fun e w' => e = .returned (.bool true) ∧ ∃ q, w' = w.drewN q := by
  go_enter Try.func49, Try.ntmps49
  go_wp2
  go_loopw [5] (SameWRel l.length w) (fun i _ => l.length - (intOf i).toNat)
  case atStart => exact ⟨0, 0, rfl, Nat.zero_le _, rfl⟩
  case round =>
    obtain ⟨k, q, rfl, hk, rfl⟩ := hrel
    by_cases hlt : k < l.length
    · obtain ⟨ad1, rfl, _, a0⟩ := h1.numb hlt
      obtain ⟨ad2, rfl, _, c0⟩ := h2.numb hlt
      have kL : (0 : Int) ≤ (k : Int) := by omega
      have kU : (k : Int) < (l.length : Int) := by omega
      generalize gm l k = x at *
      clear h1 h2
      go_wp2
      go_quiet (fail)
      go_wp2
      go_roundw
      case rel => exact ⟨k + 1, _, by go_num, by omega, rfl⟩
      case measure => simp [intOf]; omega
    · go_wp2
      go_ret
      exact ⟨rfl, q, rfl⟩
/-- a command by value -/
def cagg (e : Ent) (A1 : Option Addr) (c1 : Nat) (A2 : Option Addr) (c2 : Nat) : Value :=
  .agg #[.int .i64 e.kind, .int .i64 e.idn, .int .i64 e.idc, .int .i64 e.home, .string e.key, .int .i64 e.mode, .slice A1 e.ws.length c1, .slice A2 e.gs.length c2, .int .i64 e.stamp, .int .i64 e.out, .int .i64 e.code, .int .i64 e.grp]
theorem run_eqId (a b : Int) (w : World) : (binOp .eql 32 (.agg #[.int .i64 a, .int .i64 b]) (.agg #[.int .i64 a, .int .i64 b])).run Try.prog w = .ok (.bool true) w := by
  rw [run_eql_struct]
  have hf := fields_of Try.underlying32
  have h := run_equalIn_struct (P := Try.prog) w 9999 32 #[.int .i64 a, .int .i64 b] #[.int .i64 a, .int .i64 b] (by rw [hf]; exact Try.underlying32) (by kernel_rfl)
  rw [h, hf]
  have p1 : ∀ (w : World), (part 3 #[.int .i64 a, .int .i64 b] 0).run Try.prog w = .ok (.int .i64 a) w := fun w => by kernel_rfl
  have p2 : ∀ (w : World), (part 3 #[.int .i64 a, .int .i64 b] 1).run Try.prog w = .ok (.int .i64 b) w := fun w => by kernel_rfl
  have q1 : ∀ (x y : Int) (w : World), (Op.equalIn 9999 3 (.int .i64 x) (.int .i64 y)).run Try.prog w = .ok (x == y) w := fun x y w => by kernel_rfl
  simp [Op.eqFields, p1, p2, q1, Result.andThen]
set_option maxHeartbeats 4000000 in
set_option maxRecDepth 100000 in
theorem sameC_yes (e : Ent) (A1 A2 A1' A2' : Option Addr) (c1 c2 c1' c2' : Nat) (w : World) (h1 : Reads w w.heap.size 3 A1 e.ws.length (wc e.ws)) (h2 : Reads w w.heap.size 1 A2 e.gs.length (ic e.gs)) (h3 : Reads w w.heap.size 3 A1' e.ws.length (wc e.ws)) (h4 : Reads w w.heap.size 1 A2' e.gs.length (ic e.gs))
    (hs1 : e.ws.length * 40 ≤ 140737488355328) (hs2 : e.gs.length * 8 ≤ 140737488355328) :
    Calls Try.prog 37 #[cagg e A1 c1 A2 c2, cagg e A1' c1' A2' c2'] w fun e w' => e = .returned (.bool true) ∧ Below w.heap.size w w' := by
  have heq := run_eqId e.idn e.idc
  have hb1 := (below_alloc w (.cells #[.int .i64 e.kind, .int .i64 e.idn, .int .i64 e.idc, .int .i64 e.home, .string e.key, .int .i64 e.mode, .slice A1 e.ws.length c1, .slice A2 e.gs.length c2, .int .i64 e.stamp, .int .i64 e.out, .int .i64 e.code, .int .i64 e.grp] 35))
  have hb2 := hb1.alloc hb1.size (.cells #[.int .i64 e.kind, .int .i64 e.idn, .int .i64 e.idc, .int .i64 e.home, .string e.key, .int .i64 e.mode, .slice A1' e.ws.length c1', .slice A2' e.gs.length c2', .int .i64 e.stamp, .int .i64 e.out, .int .i64 e.code, .int .i64 e.grp] 35)
  have HB := Lib.hid hb2
  have HW := Lib.hid (sameW_yes A1 A1' c1 c1' _ _ e.ws _ (h1.below hb2) (h3.below hb2) (by omega))
  have HI := Lib.hid (fun q => sameI_yes A2 A2' c2 c2' _ _ e.gs _ ((h2.below hb2).drewN q) ((h4.below hb2).drewN q) (by omega))
  clear h1 h2 h3 h4 hb1 hb2
  unfold cagg
  go_enter Try.func37, Try.ntmps37
  go_wp2_with fail
  refine HW.out.mono ?_
  rintro e w' ⟨rfl, q, rfl⟩
  go_wp2_with fail
  refine (HI.out _).mono ?_
  rintro e w' ⟨rfl, q2, rfl⟩
  go_wp2
  go_ret
  exact ⟨rfl, below_drewN HB.out _⟩
end Go.Proofs.Ytdcnfdhhflmdcaa
