/- rlog: Reset. -/
import Derived.Test.YtdcnfdhhflmdcaaEntH
namespace Go.Proofs.Ytdcnfdhhflmdcaa
open Go.RowKit
set_option linter.unusedSimpArgs false
set_option linter.unusedVariables false

def resetE (base term : Int) : Int := if numB base && numB term then 0 else 2
def ResetEnds (d : Nat) (base term b t : Int) (A : Option Addr) (n c : Nat) (w : World) (e : Ending) (w' : World) : Prop :=
  e = .returned (.int .i64 (resetE b t)) ∧ Kept [d] w w' ∧ Blk w' d 69 (if numB b && numB t then logC b t none 0 0 else logC base term A n c)
set_option maxHeartbeats 1000000 in
theorem reset_any (d : Nat) (base term b t : Int) (A : Option Addr) (n c : Nat) (w : World) (h : Blk w d 69 (logC base term A n c)) :
    Calls Try.prog 18 #[.pointer (some ⟨d, 0, none⟩), .int .i64 b, .int .i64 t] w (ResetEnds d base term b t A n c w) := by
  have x0 : w.cell? ⟨d, 0, none⟩ = some (.int .i64 base) := h.cell 0
  have x1 : w.cell? ⟨d, 1, none⟩ = some (.int .i64 term) := h.cell 1
  have x2 : w.cell? ⟨d, 2, none⟩ = some (.slice A n c) := h.cell 2
  have f0 := h.frozen 0
  have f1 := h.frozen 1
  have f2 := h.frozen 2
  have H := Lib.hid h
  clear h
  have HB := number_any b w
  have HT := number_any t w
  cases hb : numB b with
  | false =>
    rw [hb] at HB
    have HE : Hid (resetE b t = 2 ∧ (numB b && numB t) = false) := Lib.hid (by unfold resetE; rw [hb]; exact ⟨rfl, rfl⟩)
    clear hb
    go_enter Try.func18, Try.ntmps18
    go_wp2_with (go_at_call 31; refine HB.mono ?_; rintro e w' ⟨rfl, rfl⟩)
    go_ret
    exact ⟨by rw [HE.out.1]; rfl, Kept.refl _ _, by rw [HE.out.2]; exact H.out⟩
  | true =>
    rw [hb] at HB
    cases ht : numB t with
    | false =>
      rw [ht] at HT
      have HE : Hid (resetE b t = 2 ∧ (numB b && numB t) = false) := Lib.hid (by unfold resetE; rw [hb, ht]; exact ⟨rfl, rfl⟩)
      clear hb ht
      go_enter Try.func18, Try.ntmps18
      go_wp2_with fail
      refine HB.mono ?_
      rintro e w' ⟨rfl, rfl⟩
      go_wp2_with fail
      refine HT.mono ?_
      rintro e w' ⟨rfl, rfl⟩
      go_wp2
      go_ret
      exact ⟨by rw [HE.out.1]; rfl, Kept.refl _ _, by rw [HE.out.2]; exact H.out⟩
    | true =>
      rw [ht] at HT
      have HE : Hid (resetE b t = 0 ∧ (numB b && numB t) = true) := Lib.hid (by unfold resetE; rw [hb, ht]; exact ⟨rfl, rfl⟩)
      clear hb ht
      go_enter Try.func18, Try.ntmps18
      go_wp2_with fail
      refine HB.mono ?_
      rintro e w' ⟨rfl, rfl⟩
      go_wp2_with fail
      refine HT.mono ?_
      rintro e w' ⟨rfl, rfl⟩
      go_wp2
      go_ret
      exact ⟨by rw [HE.out.1]; rfl, (((Kept.refl _ _).setCell _ (.inl (by simp))).setCell _ (.inl (by simp))).setCell _ (.inl (by simp)), by rw [HE.out.2]; exact ((H.out.set_ 0 (.int .i64 b)).set_ 1 (.int .i64 t)).set_ 2 (.slice none 0 0)⟩
end Go.Proofs.Ytdcnfdhhflmdcaa
