/- Layer 7: Sets's sequence has its contract (after the guide's worked texts). -/
import Derived.RangeFuncNested
import Derived.RangeFuncBound
import Derived.RangeFuncCalls
import Derived.RangeFuncLeaves
import Derived.Shelf.Abstract
import Derived.Shelf.RegionOpen
import Derived.WalkKit
import Derived.OwnWalkIn
import Derived.TacticsInMore
import Derived.LoopNIn
import Derived.LoopIn
import Derived.Test.YtfoojhjhinofmaaQsA
namespace Go.Proofs.Ytfoojhjhinofmaa
open Go.RowKit Go.Shelf
set_option linter.unusedSimpArgs false
set_option linter.unusedVariables false
attribute [local go_sem] Oper.semAt_some

theorem upto_ref {m : Nat} (h1 : 1 ≤ m) (h2 : m ≤ 10) {k : Nat} (hk : k ≤ (refL m).length) : upto (it m) k = (refL m).take k := by
  apply List.ext_getElem
  · simp [upto, hk]
  · intro i h3 h4
    have hi : i < (refL m).length := by simp [upto] at h3; omega
    have := (ok_at h1 h2 hi).1
    simp only [upto, List.getElem_map, List.getElem_range, List.getElem_take]
    rw [this, List.getD_eq_getElem?_getD, List.getElem?_eq_getElem hi]
    rfl
set_option maxRecDepth 100000 in
set_option maxHeartbeats 4000000 in
theorem setsIt_in (n : Nat) (hn : 1 ≤ n) (l Bn n₀ m : Nat) (hm1 : 1 ≤ m) (hm2 : m ≤ 10) (hb : Bn < n₀) (J Jx : List Nat → World → Prop)
    (hY : ∀ pre x W, J pre W → pre.length < (refL m).length → YieldAt Fence.wide (n - 1) Try.prog l #[.int .u64 (x : Nat)] W fun e W' =>
      (e = .returned (.bool true) ∧ J (pre ++ [x]) W' ∧ Below n₀ W W') ∨ (e = .returned (.bool false) ∧ Jx (pre ++ [x]) W'))
    (W : World) (hBn : W.cell? ⟨Bn, 0, none⟩ = some (.int .i64 m)) (h0 : J [] W) :
    CallsIn Fence.wide n Try.prog 19 #[.func (.yield l) #[] #[], .pointer (some ⟨Bn, 0, none⟩)] W fun e W' => (∃ v, e = .returned v) ∧
      ((∃ ys, ys = refL m ∧ J ys W') ∨ (∃ pre, pre <+: refL m ∧ Jx pre W')) := by
  have z1 : decide ((m : Int) < 1) = false := decide_eq_false (by omega)
  have z2 : decide (16 < (m : Int)) = false := decide_eq_false (by omega)
  have HN := Lib.hid (need_any (m : Int) W)
  rw [needF_yes (n := (m : Int)) (by omega) (by omega)] at HN
  refine callsIn_of_wp Try.func19 rfl trivial ?_ rfl
  simp only [Try.ntmps19, List.size_toArray, List.length_cons, List.length_nil, Nat.reduceAdd, Nat.reduceSub, Array.replicate_succ, Array.replicate_zero, List.push_toArray, List.append_toArray, List.nil_append, List.cons_append]
  gi_wp2_with (refine ⟨trivial, ?_⟩; gi_at_call 10; refine (callsIn_wide.2 HN.out).mono ?_; rintro e w' ⟨rfl, rfl⟩)
  have hs0 : IntKind.u64.wrap (IntKind.u64.wrap (2 ^ (m / 2 + 1)) - 1) = ((it m 0 : Nat) : Int) := by
    have h1 : 2 ^ (m / 2 + 1) ≤ 2 ^ 6 := Nat.pow_le_pow_right (by decide) (by omega)
    have h2 : 1 ≤ 2 ^ (m / 2 + 1) := Nat.one_le_two_pow
    have e : (2 : Int) ^ (m / 2 + 1) = ((2 ^ (m / 2 + 1) : Nat) : Int) := by simp
    rw [e, wrapN _ (by omega), show (((2 ^ (m / 2 + 1) : Nat) : Int) - 1) = ((2 ^ (m / 2 + 1) - 1 : Nat) : Int) by omega, wrapN _ (by omega)]
    rfl
  obtain ⟨hT, hE1, hE2⟩ := ok_ends hm1 hm2
  obtain ⟨P, hP⟩ : ∃ P : Int, P = wrap64 (2 ^ m) := ⟨_, rfl⟩
  have hPT : ((refL m).length : Int) < P := by
    have h1 : 2 ^ m ≤ 2 ^ 10 := Nat.pow_le_pow_right (by decide) (by omega)
    have e : (2 : Int) ^ m = ((2 ^ m : Nat) : Int) := by simp
    rw [hP, e]
    unfold wrap64
    omega
  have hTs : (refL m).length ≤ 1024 := by have h1 : 2 ^ m ≤ 2 ^ 10 := Nat.pow_le_pow_right (by decide) (by omega)
                                          omega
  rw [hs0, ← hP]
  clear hs0 hP HN z1 z2
  have hLow := fun w => callsIn_wide (n := n - 1) |>.2 (low_any (m : Int) w (by omega) (by omega))
  gi_loopw [4, 17] (fun s i wr => ∃ k : Nat, k ≤ (refL m).length ∧ i = .int .i64 k ∧ s = .int .u64 (it m k : Nat) ∧ J (upto (it m) k) wr ∧ Below n₀ W wr)
    (fun _ i _ => (refL m).length - (intOf i).toNat)
  case atStart => exact ⟨0, Nat.zero_le _, rfl, rfl, h0, Below.refl _ _⟩
  case round =>
    obtain ⟨k, hk, rfl, rfl, hJs, hnx⟩ := hrel
    have hbn : wr.cell? ⟨Bn, 0, none⟩ = some (.int .i64 m) := (hnx.cell (p := ⟨Bn, 0, none⟩) hb).trans hBn
    have hkP : (k : Int) < P := by omega
    by_cases hlt : k < (refL m).length
    · obtain ⟨-, hle, hc, hsm⟩ := ok_at hm1 hm2 hlt
      obtain ⟨fn, tmps, assign, body, hy, hR⟩ := hY _ (it m k) wr hJs (by rw [upto_length]; exact hlt)
      have HX := Lib.hid (fun w => next_any (it m k) w hsm hc)
      have HU := Lib.hid (upto_succ (it m) k)
      have HS : Hid (it m (k + 1) = nextN (it m k)) := Lib.hid rfl
      obtain ⟨s, hs⟩ : ∃ s, s = it m k := ⟨_, rfl⟩
      rw [← hs] at hle hy hR HX HU HS ⊢
      have hle2 : decide ((lowF m : Int) < (s : Int)) = false := decide_eq_false (by omega)
      have hle3 : decide (lowF m < s) = false := decide_eq_false (by omega)
      clear hs hc hsm hE1 hE2 hT
      gi_wp2_with (refine ⟨trivial, ?_⟩; gi_at_call 21; refine (hLow _).mono ?_; rintro e w' ⟨rfl, rfl⟩)
      refine hR.mono ?_
      rintro e W3 (⟨rfl, hJ3, hk3⟩ | ⟨rfl, hJx3⟩)
      · gi_wp2_with (refine ⟨trivial, ?_⟩; gi_at_call 20; refine (callsIn_wide.2 (HX.out _)).mono ?_; rintro e w' ⟨rfl, rfl⟩)
        go_roundw
        case rel => exact ⟨k + 1, by omega, by go_num, by rw [HS.out], by rw [HU.out]; exact hJ3, hnx.trans hk3⟩
        case measure => simp [intOf]; omega
      · have HP : Hid (upto (it m) k ++ [s] <+: refL m) := Lib.hid (by rw [← HU.out, upto_ref hm1 hm2 (by omega)]; exact List.take_prefix _ _)
        gi_wp2
        refine bodyPost_ret (results_none rfl _ _ _) rfl ?_
        exact ⟨⟨_, rfl⟩, .inr ⟨_, HP.out, hJx3⟩⟩
    · obtain rfl : k = (refL m).length := by omega
      have HU : Hid (upto (it m) (refL m).length = refL m) := Lib.hid (by rw [upto_ref hm1 hm2 (Nat.le_refl _), List.take_length])
      obtain ⟨s, hs⟩ : ∃ s, s = it m (refL m).length := ⟨_, rfl⟩
      rw [← hs] at hE1 hE2 ⊢
      have hle2 : decide ((lowF m : Int) < (s : Int)) = true := decide_eq_true (by omega)
      have hle3 : decide (lowF m < s) = true := decide_eq_true (by omega)
      clear hs hE1 hE2 hT
      gi_wp2_with (first | (refine ⟨trivial, ?_⟩; gi_at_call 21; refine (hLow _).mono ?_; rintro e w' ⟨rfl, rfl⟩))
      refine ⟨fun _ h => (by cases h), ?_⟩
      gi_wp2
      refine bodyPost_ret (results_none rfl _ _ _) rfl ?_
      exact ⟨⟨_, rfl⟩, .inl ⟨_, rfl, by rw [← HU.out]; exact hJs⟩⟩
/-- **Sets(m) hands back a value that stops**: all of refL m in its order, or a beginning of it, where a round has said 'no more'. -/
theorem sets_stops (n : Nat) (hn : 1 ≤ n) (Bn n₀ m : Nat) (hm1 : 1 ≤ m) (hm2 : m ≤ 10) (w : World) (hb : Bn < n₀) (hn₀ : n₀ ≤ w.heap.size) (hc : w.cell? ⟨Bn, 0, none⟩ = some (.int .i64 m)) :
    SeqStopsK Fence.wide n Try.prog 19 #[.pointer (some ⟨Bn, 0, none⟩)] (fun x : Nat => #[Value.int .u64 (x : Int)]) (Below n₀) (fun ys => ys = refL m) (fun pre => pre <+: refL m) (refL m).length w := fun l J Jx W hW _ _ hY h0 =>
  setsIt_in n hn l Bn n₀ m hm1 hm2 hb J Jx hY W ((hW.cell (p := ⟨Bn, 0, none⟩) (by simp only; omega)).trans hc) h0
set_option maxHeartbeats 1000000 in
/-- .. out of bounds: no round. -/
theorem setsNo_in (n : Nat) (hn : 1 ≤ n) (l Bn : Nat) (k : Int) (hk : k < 1 ∨ 16 < k) (J : List Nat → World → Prop) (W : World) (hBn : W.cell? ⟨Bn, 0, none⟩ = some (.int .i64 k)) (h0 : J [] W) :
    CallsIn Fence.wide n Try.prog 19 #[.func (.yield l) #[] #[], .pointer (some ⟨Bn, 0, none⟩)] W fun e W' => (∃ v, e = .returned v) ∧ J [] W' := by
  rcases hk with hk | hk
  · have z1 : decide (k < 1) = true := decide_eq_true hk
    refine callsIn_of_wp Try.func19 rfl trivial ?_ rfl
    simp only [Try.ntmps19, List.size_toArray, List.length_cons, List.length_nil, Nat.reduceAdd, Nat.reduceSub, Array.replicate_succ, Array.replicate_zero, List.push_toArray, List.append_toArray, List.nil_append, List.cons_append]
    gi_wp2
    refine bodyPost_ret (results_none rfl _ _ _) rfl ?_
    exact ⟨⟨_, rfl⟩, h0⟩
  · have z1 : decide (k < 1) = false := decide_eq_false (by omega)
    have z2 : decide (16 < k) = true := decide_eq_true hk
    refine callsIn_of_wp Try.func19 rfl trivial ?_ rfl
    simp only [Try.ntmps19, List.size_toArray, List.length_cons, List.length_nil, Nat.reduceAdd, Nat.reduceSub, Array.replicate_succ, Array.replicate_zero, List.push_toArray, List.append_toArray, List.nil_append, List.cons_append]
    gi_wp2
    refine bodyPost_ret (results_none rfl _ _ _) rfl ?_
    exact ⟨⟨_, rfl⟩, h0⟩
theorem setsNo_stops (n : Nat) (hn : 1 ≤ n) (Bn n₀ : Nat) (k : Int) (hk : k < 1 ∨ 16 < k) (w : World) (hb : Bn < n₀) (hn₀ : n₀ ≤ w.heap.size) (hc : w.cell? ⟨Bn, 0, none⟩ = some (.int .i64 k)) :
    SeqStopsK Fence.wide n Try.prog 19 #[.pointer (some ⟨Bn, 0, none⟩)] (fun x : Nat => #[Value.int .u64 (x : Int)]) (Below n₀) (fun ys => ys = []) (fun pre => pre <+: []) 0 w := fun l J Jx W hW _ _ hY h0 =>
  (setsNo_in n hn l Bn k hk J W ((hW.cell (p := ⟨Bn, 0, none⟩) (by simp only; omega)).trans hc) h0).mono fun e W' ⟨he, hj⟩ => ⟨he, .inl ⟨_, rfl, hj⟩⟩
end Go.Proofs.Ytfoojhjhinofmaa
