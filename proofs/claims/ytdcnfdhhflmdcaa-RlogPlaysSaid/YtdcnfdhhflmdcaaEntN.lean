/- The reference's log: Newer. -/
import Derived.Test.YtdcnfdhhflmdcaaEntM
namespace Go.Proofs.Ytdcnfdhhflmdcaa
open Go.RowKit
set_option linter.unusedSimpArgs false
set_option linter.unusedVariables false

set_option maxHeartbeats 1000000 in
theorem rnewer_any (d : Nat) (base term : Int) (A : Option Addr) (c : Nat) (ms : List MEnt) (index t : Int) (w : World) (h : RefAt w d base term A c ms) :
    Calls Try.prog 47 #[.pointer (some ⟨d, 0, none⟩), .int .i64 index, .int .i64 t] w fun e w' => e = .returned (.bool (newerB (lastI base (es ms)) (lastT base term (es ms)) index t)) ∧ ∃ q, w' = w.drewN q := by
  have HL := Lib.hid (rlast_any d base term A c ms w h)
  clear h
  unfold LastEnds at HL
  generalize lastI base (es ms) = a at *
  generalize lastT base term (es ms) = b at *
  have HN : Hid (newerB a b index t = (decide (b < t) || (t == b && decide (a ≤ index)))) := Lib.hid rfl
  go_enter Try.func47, Try.ntmps47
  cases h1 : decide (b < t) with
  | true =>
    go_wp2_with fail
    refine HL.out.mono ?_
    rintro e w' ⟨rfl, q, rfl⟩
    go_wp2
    go_ret
    exact ⟨by rw [HN.out, h1]; rfl, q, rfl⟩
  | false =>
    cases h2 : (t == b) with
    | false =>
      go_wp2_with fail
      refine HL.out.mono ?_
      rintro e w' ⟨rfl, q, rfl⟩
      go_wp2
      go_ret
      exact ⟨by rw [HN.out, h1, h2]; rfl, q, rfl⟩
    | true =>
      cases h3 : decide (a ≤ index) with
      | false =>
        go_wp2_with fail
        refine HL.out.mono ?_
        rintro e w' ⟨rfl, q, rfl⟩
        go_wp2
        go_ret
        exact ⟨by rw [HN.out, h1, h2, h3]; rfl, q, rfl⟩
      | true =>
        go_wp2_with fail
        refine HL.out.mono ?_
        rintro e w' ⟨rfl, q, rfl⟩
        go_wp2
        go_ret
        exact ⟨by rw [HN.out, h1, h2, h3]; rfl, q, rfl⟩
end Go.Proofs.Ytdcnfdhhflmdcaa
