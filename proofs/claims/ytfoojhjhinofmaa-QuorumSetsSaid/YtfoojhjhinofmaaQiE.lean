/- Layer 7: the law QuorumIndex, walked. -/
import Derived.Test.YtfoojhjhinofmaaQiD
namespace Go.Proofs.Ytfoojhjhinofmaa
open Go.RowKit
set_option linter.unusedSimpArgs false
set_option linter.unusedVariables false

theorem below_alloc (w : World) (o : Obj) : Below w.heap.size w (w.alloc o) := (Below.refl _ _).alloc (Nat.le_refl _) _
theorem below_drewN {B : Nat} {w w1 : World} (h : Below B w w1) (n : Nat) : Below B w (w1.drewN n) := ⟨h.os, h.tape, h.output, h.size, h.block⟩
theorem ic_snoc (M : List Int) (x : Int) : ic M ++ [Value.int .i64 x] = ic (M ++ [x]) := by simp [ic]
theorem ic_own {M : List Int} {x : Int} {j : Nat} (h : j < M.length) : (ic (M ++ [x]))[j]? = some (.int .i64 (gm M j)) := by
  rw [← ic_snoc, List.getElem?_append_left (by rw [ic_len]; exact h)]
  exact ic_at h
theorem ic_last {M : List Int} {x : Int} : (ic (M ++ [x]))[M.length]? = some (.int .i64 x) := by
  rw [← ic_snoc, List.getElem?_append_right (by rw [ic_len]; exact Nat.le_refl _), ic_len]
  simp
def IdxRel (n : Nat) (w0 : World) (i : Value) (wr : World) : Prop := ∃ k q : Nat, i = .int .i64 k ∧ k ≤ n ∧ wr = w0.drewN q
/-- a law holds: true, and nothing that lay has changed -/
def Done (w : World) (e : Ending) (w' : World) : Prop := e = .returned (.bool true) ∧ Below w.heap.size w w'
set_option maxHeartbeats 4000000 in
set_option maxRecDepth 100000 in
theorem qindex_any (A : Option Addr) (c : Nat) (M : List Int) (w : World) (hr : Reads w w.heap.size 1 A M.length (ic M)) : Calls Try.prog 5 #[.slice A M.length c] w (Done w) := by
  obtain ⟨i0, hi0, hz0, hz1, hz2⟩ := info_parts Try.info3
  by_cases hbig : 2000 < M.length
  · go_enter Try.func5, Try.ntmps5
    go_wp2
    go_ret
    exact ⟨rfl, Below.refl _ _⟩
  · have hll : M.length ≤ 2000 := by omega
    have e1 := Lib.hid (ic_snoc M 7)
    have hgr : decide (2000 < (M.length : Int)) = false := decide_eq_false (by omega)
    clear hbig
    go_enter Try.func5, Try.ntmps5
    go_wp2_with (first
      | (at_builtin; refine wpList_app rfl (.tmp 9) (.tmp 10) 31 31 rfl 3 i0 _ 1 8 Try.underlying31 hi0 hz0 hz1 hz2 rfl (by omega) (some ⟨w.heap.size, 0, none⟩) 0 0 [] rfl (World.ownsRow_made w #[] 0 (Nat.zero_le _) (by simp [maxLen]) rfl) _ M.length (ic M) rfl (Src.ofReads Try.underlying31 (hr.alloc (Nat.le_refl _) _) (ic_one _)) (by simp only [maxLen]; omega) (by omega) ?_; intro A1 k1 w1 hown1 hk1 hf1; rw [Nat.zero_add, List.nil_append] at hown1)
      | (at_builtin; refine wpList_app rfl (.tmp 11) (.tmp 12) 31 31 rfl 3 i0 _ 1 8 Try.underlying31 hi0 hz0 hz1 hz2 rfl (by omega) A1 M.length k1 (ic M) rfl (hown1.alloc _) _ 1 [.int .i64 7] rfl (Src.one1 Try.underlying31 _ _ rfl) (by simp only [maxLen]; omega) (by omega) ?_; intro A2 k2 w2 hown2 hk2 hf2; rw [e1.out] at hown2; obtain ⟨g, cap, hv, hg0, hgl⟩ := hown2.form (by omega); injection hv with hA _ hc; subst hA hc; have hcap := own_cap hown2; have hc1 : M.length + 1 ≤ k2 := hcap.1))
    have hb1 : Below w.heap.size w w1 := hk1.of_alloc.below (Nat.le_refl _) (by simp [ob])
    have hb2 : Below w.heap.size w w2 := hb1.trans (hk2.of_alloc.below hb1.size (fun x hx => (hf1 x hx).elim (fun h => by simp [ob] at h; omega) (fun h => by simp at h; omega)))
    have hrg : Reads w2 w2.heap.size 1 (some ⟨g, 0, none⟩) M.length (ic M) := by
      have := (Reads.of_own hown2).take (k := M.length) (by omega)
      rw [Nat.mul_one, ← e1.out, List.take_append_of_le_length (by rw [ic_len]; exact Nat.le_refl _), List.take_of_length_le (by rw [ic_len]; exact Nat.le_refl _)] at this
      exact this
    clear hown1 hk1 hf1 hk2 hf2 hcap hb1
    refine (index_any (some ⟨g, 0, none⟩) k2 w2.heap.size M w2 hrg (Nat.le_refl _) (by omega)).mono ?_
    rintro e w3 ⟨rfl, hb3⟩
    have hb3' := hb2.trans (hb3.mono hb2.size)
    have hown3 := (Kept.of_below (S := []) hb3).own hown2 (by simp)
    have hr3 := hr.below hb3'
    have HRI := Lib.hid (fun q => refIndex_any A c w.heap.size M (w3.drewN q) (hr3.drewN q) (by omega))
    have hlast := (hown3.cellAt M.length (by omega)).trans ic_last
    have hbi : Hid (bestOf M = idxOf M) := Lib.hid (by
      rcases Nat.eq_zero_or_pos M.length with h | h
      · obtain rfl : M = [] := List.eq_nil_of_length_eq_zero h
        rw [best_nil, idx_nil]
      · exact best_idx h)
    clear hown2 hb2 hb3 hrg e1
    generalize idxOf M = ix at *
    go_wp2
    go_loopw [5] (IdxRel M.length w3) (fun i _ => M.length - (intOf i).toNat)
    case atStart => exact ⟨0, 0, rfl, Nat.zero_le _, rfl⟩
    case round =>
      obtain ⟨k, q, rfl, hk, rfl⟩ := hrel
      by_cases hlt : k < M.length
      · obtain ⟨ad, rfl, hadB, hcell⟩ := hr3.numb hlt
        have x1 := (hown3.cellAt k (by omega)).trans (ic_own hlt)
        have kL : (0 : Int) ≤ (k : Int) := by omega
        have kU : (k : Int) < (M.length : Int) := by omega
        have kV : (k : Int) < (M.length : Int) + 1 := by omega
        clear hlast
        go_wp2
        go_quiet (fail)
        go_wp2
        go_roundw
        case rel => exact ⟨k + 1, _, by go_num, by omega, rfl⟩
        case measure => simp [intOf]; omega
      · have HQ := HRI.out q
        rw [hbi.out] at HQ
        have HQQ := Lib.hid HQ
        clear HRI HQ hbi
        go_wp2_with fail
        refine HQQ.out.mono ?_
        rintro e w4 ⟨rfl, q4, rfl⟩
        go_wp2
        go_ret
        exact ⟨ret_bool (by simp), below_drewN hb3' _⟩
end Go.Proofs.Ytfoojhjhinofmaa
