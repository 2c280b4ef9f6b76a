/- Writes: SameWrites of two rows alike. -/
import Derived.Test.YtdcnfdhhflmdcaaWrA
namespace Go.Proofs.Ytdcnfdhhflmdcaa
open Go.RowKit
set_option linter.unusedSimpArgs false
set_option linter.unusedVariables false

def SameWRel (n : Nat) (w0 : World) (i : Value) (wr : World) : Prop := ∃ k q : Nat, i = .int .i64 k ∧ k ≤ n ∧ wr = w0.drewN q
set_option maxHeartbeats 4000000 in
set_option maxRecDepth 100000 in
theorem sameW_yes (A A' : Option Addr) (c c' B B' : Nat) (l : List Wrt) (w : World) (h1 : Reads w B 3 A l.length (wc l)) (h2 : Reads w B' 3 A' l.length (wc l)) (hl : l.length ≤ 8796093022208) :
    Calls Try.prog 48 #[.slice A l.length c, .slice A' l.length c'] w fun e w' => e = .returned (.bool true) ∧ ∃ q, w' = w.drewN q := by
  have HN := Lib.hid (fun x => neW_self x)
  go_enter Try.func48, Try.ntmps48
  go_wp2
  go_loopw [5] (SameWRel l.length w) (fun i _ => l.length - (intOf i).toNat)
  case atStart => exact ⟨0, 0, rfl, Nat.zero_le _, rfl⟩
  case round =>
    obtain ⟨k, q, rfl, hk, rfl⟩ := hrel
    by_cases hlt : k < l.length
    · obtain ⟨b1, o1, rfl, _, a0, a1, a2⟩ := h1.wrt hlt
      obtain ⟨b2, o2, rfl, _, c0, c1, c2⟩ := h2.wrt hlt
      have kL : (0 : Int) ≤ (k : Int) := by omega
      have kU : (k : Int) < (l.length : Int) := by omega
      have hne := run_neW (gw l k) (gw l k)
      rw [HN.out] at hne
      generalize gw l k = x at *
      clear h1 h2
      go_wp2
      go_quiet (fail)
      go_wp2
      go_roundw
      case rel => exact ⟨k + 1, _, by go_num, by omega, rfl⟩
      case measure => simp [intOf]; omega
    · go_wp2
      go_ret
      exact ⟨rfl, q, rfl⟩
end Go.Proofs.Ytdcnfdhhflmdcaa
