/- rlog: Base, Reset, Compact said of the log as one thing; the law's copies. -/
import Derived.Test.YtdcnfdhhflmdcaaLogA
namespace Go.Proofs.Ytdcnfdhhflmdcaa
open Go.RowKit
set_option linter.unusedSimpArgs false
set_option linter.unusedVariables false

section
variable {w : World} {d : Nat} {F : List Nat} {b t : Int} {l : List Ent}
theorem base_log (h : IsLog 69 w d F b t l) : Calls Try.prog 19 #[.pointer (some ⟨d, 0, none⟩)] w fun e w' => e = .returned (.tuple #[.int .i64 b, .int .i64 t]) ∧ ∃ q, w' = w.drewN q := by
  obtain ⟨A, c, ms, h, rfl, rfl⟩ := h
  exact base_any d b t A ms.length c w h.blk
def RsEnds (T : TypeId) (d : Nat) (F : List Nat) (b t : Int) (l : List Ent) (b' t' : Int) (w : World) (e : Ending) (w' : World) : Prop :=
  e = .returned (.int .i64 (resetE b' t')) ∧ ∃ F', IsLog T w' d F' (if numB b' && numB t' then b' else b) (if numB b' && numB t' then t' else t) (if numB b' && numB t' then [] else l) ∧ Moves F F' w w'
theorem reset_is {T : TypeId} {w w' : World} {A : Option Addr} {c : Nat} {ms : List MEnt} (hT : 37 ≠ T ∧ 76 ≠ T ∧ 3 ≠ T) (h : Lg T w d A c b t ms) {b' t' : Int} (hk : Kept [d] w w') (hb : Blk w' d T (if numB b' && numB t' then logC b' t' none 0 0 else logC b t A ms.length c)) :
    ∃ F', IsLog T w' d F' (if numB b' && numB t' then b' else b) (if numB b' && numB t' then t' else t) (if numB b' && numB t' then [] else es ms) ∧ Moves (fpL d A ms) F' w w' := by
  have hkk : Kept (fpL d A ms) w w' := hk.mono (fun x hx => by rw [List.mem_singleton.1 hx]; exact List.mem_cons_self ..)
  cases hn : (numB b' && numB t') with
  | true =>
    rw [hn] at hb
    simp only [if_true] at hb ⊢
    have hb1 : 1 ≤ b' ∧ b' ≤ 1099511627776 := by
      rw [Bool.and_eq_true] at hn
      have := hn.1
      unfold numB at this
      exact of_decide_eq_true this
    exact ⟨fpL d none [], ⟨none, 0, [], ⟨hb, OwnE.nil _ _, by omega, by simp; omega, by simp, by simp⟩, rfl, rfl⟩, ⟨hkk, fun k hk => by simp [fpL, fpE, ob, rows] at hk; rw [hk]; exact .inl (List.mem_cons_self ..)⟩⟩
  | false =>
    rw [hn] at hb
    simp only [if_false, Bool.false_eq_true] at hb ⊢
    exact ⟨fpL d A ms, ⟨A, c, ms, ⟨hb, h.own.kept hk (fun k hk1 hk2 => h.far hT (by rw [← List.mem_singleton.1 hk2]; exact hk1)), h.b0, h.b1, h.few, h.small⟩, rfl, rfl⟩, ⟨hkk, fun k hk => .inl hk⟩⟩
theorem reset_log (h : IsLog 69 w d F b t l) (b' t' : Int) : Calls Try.prog 18 #[.pointer (some ⟨d, 0, none⟩), .int .i64 b', .int .i64 t'] w (RsEnds 69 d F b t l b' t' w) := by
  obtain ⟨A, c, ms, h, rfl, rfl⟩ := h
  exact (reset_any d b t b' t' A ms.length c w h.blk).mono fun e w' ⟨he, hk, hb⟩ => ⟨he, reset_is (by decide) h hk hb⟩
end
set_option maxHeartbeats 1000000 in
theorem lcopies_any (A0 : Option Addr) (c0 : Nat) (ms : List MEnt) (w : World) (hE : Ents w w.heap.size A0 ms.length ms) (hs : SmallL ms) : Calls Try.prog 16 #[.slice A0 ms.length c0] w fun e w' => ∃ A c ms', e = .returned (.slice A ms'.length c) ∧ es ms' = es ms ∧ OwnE w' w.heap.size A c ms' ∧ Below w.heap.size w w' := by
  have HC := Lib.hid (copies_any A0 c0 ms w hE hs)
  clear hE hs
  have : Calls Try.prog 16 #[.slice A0 ms.length c0] w (CopiesEnds ms w) := by
    go_enter Try.func16, Try.ntmps16
    go_wp2_with fail
    refine HC.out.mono ?_
    rintro e w1 ⟨A, c, ms', rfl, hm, hO, hb⟩
    have HM := Lib.hid hm
    clear hm
    go_wp2
    go_ret
    exact ⟨A, c, ms', rfl, HM.out, hO, hb⟩
  refine this.mono ?_
  rintro e w1 ⟨A, c, ms', he, hm, hO, hb⟩
  have hl : ms.length = ms'.length := by simpa using (congrArg List.length hm).symm
  rw [hl] at he
  exact ⟨A, c, ms', he, hm, hO, hb⟩
end Go.Proofs.Ytdcnfdhhflmdcaa
