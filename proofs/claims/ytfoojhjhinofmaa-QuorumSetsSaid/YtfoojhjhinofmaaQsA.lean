/- Layer 7: the sequence of the least majorities: the step, the reference's list. -/
import Derived.Test.YtfoojhjhinofmaaQsM
import Derived.Deep.QuietTactic
import Derived.BigQuiet
namespace Go.Proofs.Ytfoojhjhinofmaa
open Go.RowKit
set_option linter.unusedSimpArgs false
set_option linter.unusedVariables false

theorem next_end (s c : Nat) (hs : s < 1048576) (h0 : 0 < s) (hc : c = s &&& (18446744073709551616 - s)) (hc0 : 0 < c) :
    bits BinOp.and IntKind.u64 (s : Int) (IntKind.u64.wrap (-(s : Int))) = (c : Int) ∧
    bits BinOp.or IntKind.u64 (IntKind.u64.wrap ((bits BinOp.xor IntKind.u64 (IntKind.u64.wrap ((s : Int) + (c : Int))) (s : Int) / 4).tdiv (c : Int))) (IntKind.u64.wrap ((s : Int) + (c : Int))) = (nextN s : Nat) := by
  have hcs : c ≤ s := by rw [hc]; exact Nat.and_le_left
  have e1 : IntKind.u64.wrap (-(s : Int)) = ((18446744073709551616 - s : Nat) : Int) := by rw [IntKind.wrap_u64]; omega
  have e2 := u64_and_nat s (18446744073709551616 - s) (by omega) (by omega)
  have e3 : IntKind.u64.wrap ((s : Int) + (c : Int)) = ((s + c : Nat) : Int) := by rw [IntKind.wrap_u64]; omega
  have e4 := u64_xor_nat (s + c) s (by omega) (by omega)
  have hx : (s + c) ^^^ s < 2097152 := Nat.xor_lt_two_pow (n := 21) (by omega) (by omega)
  refine ⟨by rw [e1, e2, hc], ?_⟩
  rw [e3, e4]
  have e5 : (((((s + c) ^^^ s : Nat) : Int) / 4).tdiv (c : Int)) = (((s + c) ^^^ s) / 4 / c : Nat) := by
    rw [show ((((s + c) ^^^ s : Nat) : Int) / 4) = ((((s + c) ^^^ s) / 4 : Nat) : Int) by omega, ← Int.ofNat_tdiv]
  have hq : ((s + c) ^^^ s) / 4 / c < 18446744073709551616 := by
    have h1 := Nat.div_le_self (((s + c) ^^^ s) / 4) c
    have h2 := Nat.div_le_self ((s + c) ^^^ s) 4
    omega
  rw [e5, wrapN _ hq, u64_or_nat _ _ hq (by omega)]
  unfold nextN
  rw [hc]
set_option maxHeartbeats 1000000 in
theorem next_any (s : Nat) (w : World) (hs : s < 1048576) (hc0 : 0 < (s &&& (18446744073709551616 - s))) :
    Calls Try.prog 20 #[.int .u64 s] w fun e w' => e = .returned (.int .u64 (nextN s : Nat)) ∧ w = w' := by
  obtain ⟨c, hc⟩ : ∃ c, c = s &&& (18446744073709551616 - s) := ⟨_, rfl⟩
  have h0 : 0 < s := by
    rcases Nat.eq_zero_or_pos s with h | h
    · rw [h] at hc0; simp at hc0
    · exact h
  have HE := Lib.hid (next_end s c hs h0 hc (by rw [hc]; exact hc0))
  have hne : ¬ (bits BinOp.and IntKind.u64 (s : Int) (IntKind.u64.wrap (-(s : Int))) = 0) := by rw [HE.out.1]; omega
  clear hc0
  go_enter Try.func20, Try.ntmps20
  go_wp2
  go_ret
  exact ⟨by rw [HE.out.1, HE.out.2]; rfl, rfl⟩

/-- the cells of numbers without a sign -/
def uc (M : List Nat) : List Value := M.map fun x : Nat => Value.int .u64 (x : Int)
theorem uc_len (M : List Nat) : (uc M).length = M.length := by simp [uc]
theorem uc_one (M : List Nat) : ∀ u ∈ uc M, u.oneCell' = true := by
  intro u hu
  obtain ⟨b, _, rfl⟩ := List.mem_map.1 hu
  rfl
def gn (M : List Nat) (i : Nat) : Nat := M.getD i 0
theorem gn_at {M : List Nat} {i : Nat} (h : i < M.length) : gn M i = M[i] := by
  unfold gn
  rw [List.getD_eq_getElem?_getD, List.getElem?_eq_getElem h]
  rfl
theorem uc_at {M : List Nat} {i : Nat} (h : i < M.length) : (uc M)[i]? = some (.int .u64 (gn M i : Nat)) := by
  unfold uc
  rw [List.getElem?_map, List.getElem?_eq_getElem h, gn_at h]
  rfl
theorem uc_snoc (M : List Nat) (x : Nat) : uc M ++ [Value.int .u64 (x : Int)] = uc (M ++ [x]) := by simp [uc]
theorem Try.info27 : (Try.prog.info? 27).map (fun i => (i.zero, i.size, i.bytes)) = some (some (.int .u64 0), 1, 8) := by kernel_rfl
def RefEnds (M : List Nat) (w : World) (e : Ending) (w' : World) : Prop :=
  ∃ A c, e = .returned (.slice A M.length c) ∧ w'.ownsRow 0 27 1 (.slice A M.length c) M.length (uc M) ∧ Below w.heap.size w w' ∧ ∀ k ∈ ob A, w.heap.size ≤ k
def RefRel (m : Nat) (w : World) (l s : Value) (wr : World) : Prop :=
  ∃ (k : Nat) (A : Option Addr) (c : Nat) (M : List Nat), s = .int .u64 (k : Int) ∧ k ≤ 2 ^ m ∧ M = refK m k ∧ M.length ≤ k ∧ l = .slice A M.length c ∧ wr.ownsRow 0 27 1 (.slice A M.length c) M.length (uc M) ∧ Below w.heap.size w wr ∧ ∀ x ∈ ob A, w.heap.size ≤ x
set_option maxHeartbeats 2000000 in
theorem refSets_no (n : Int) (w : World) (hn : n < 1 ∨ 16 < n) : Calls Try.prog 9 #[.int .i64 n] w fun e w' => e = .returned (.slice none 0 0) ∧ w = w' := by
  rcases hn with hn | hn
  · have z1 : decide (n < 1) = true := decide_eq_true hn
    go_enter Try.func9, Try.ntmps9
    go_wp2
    go_ret
    exact ⟨rfl, rfl⟩
  · have z1 : decide (n < 1) = false := decide_eq_false (by omega)
    have z2 : decide (16 < n) = true := decide_eq_true hn
    go_enter Try.func9, Try.ntmps9
    go_wp2
    go_ret
    exact ⟨rfl, rfl⟩
set_option maxHeartbeats 4000000 in
set_option maxRecDepth 100000 in
theorem refSets_any (m : Nat) (w : World) (h1 : 1 ≤ m) (h2 : m ≤ 16) : Calls Try.prog 9 #[.int .i64 m] w (RefEnds (refL m) w) := by
  obtain ⟨i0, hi0, hz0, hz1, hz2⟩ := info_parts Try.info27
  have z1 : decide ((m : Int) < 1) = false := decide_eq_false (by omega)
  have z2 : decide (16 < (m : Int)) = false := decide_eq_false (by omega)
  have hp : 2 ^ m ≤ 65536 := Nat.pow_le_pow_right (n := 2) (by decide) h2
  have hpw : IntKind.u64.wrap (2 ^ m) = ((2 ^ m : Nat) : Int) := by
    have : ((2 : Int) ^ m) = ((2 ^ m : Nat) : Int) := by simp
    rw [this, wrapN _ (by omega)]
  go_enter Try.func9, Try.ntmps9
  go_wp2
  go_loopw [3, 4] (RefRel m w) (fun _ s _ => 2 ^ m - (intOf s).toNat)
  case atStart => exact ⟨0, none, 0, [], rfl, Nat.zero_le _, rfl, Nat.le_refl _, rfl, World.ownsRow_nil _ _ _ _, Below.refl _ _, by simp [ob]⟩
  case round =>
    obtain ⟨k, A, c, M, rfl, hk, hM, hMk, rfl, hown, hb, hf⟩ := hrel
    have HM := Lib.hid hM
    clear hM
    have HB := Lib.hid (bits_any (m : Int) k wr (by omega))
    have HN := Lib.hid (refNeed_any (m : Int) wr)
    by_cases hlt : k < 2 ^ m
    · have y1 : decide ((k : Int) < IntKind.u64.wrap (2 ^ m)) = true := decide_eq_true (by rw [hpw]; omega)
      have y2 : (k : Int) < 2 ^ m := by have : ((2 : Int) ^ m) = ((2 ^ m : Nat) : Int) := by simp
                                        omega
      have hon := Lib.hid (refK_on m k)
      cases hp2 : (bitsF (m : Int) k == needF (m : Int)) with
      | true =>
        rw [hp2, if_pos rfl, ← HM.out] at hon
        have e3 := Lib.hid (uc_snoc M k)
        go_wp2_with (first
          | (go_at_call 22; refine HB.out.mono ?_; rintro e w' ⟨rfl, rfl⟩)
          | (go_at_call 11; refine HN.out.mono ?_; rintro e w' ⟨rfl, rfl⟩)
          | (at_builtin; refine wpList_app rfl (.tmp 24) (.tmp 26) 25 25 rfl 27 i0 _ 1 8 Try.underlying25 hi0 hz0 hz1 hz2 rfl (by omega) A M.length c (uc M) rfl (hown.alloc _) _ 1 [.int .u64 (k : Int)] rfl (Src.one1 Try.underlying25 _ _ rfl) (by simp only [maxLen]; omega) (by omega) ?_; intro A3 k3 w3 hown3 hk3 hf3; rw [e3.out] at hown3))
        have hol2 : M.length + 1 = (M ++ [k]).length := by simp
        rw [hol2] at hown3 ⊢
        have hbel := hb.trans (hk3.of_alloc.below hb.size hf)
        go_roundw
        case rel => exact ⟨k + 1, A3, k3, _, by go_num, by omega, hon.out.symm, by simp; omega, rfl, hown3, hbel, fun y hy => by
            rcases hf3 y hy with h | h
            · exact hf y h
            · simp at h
              have := hb.size
              omega⟩
        case measure => simp [intOf]; omega
      | false =>
        rw [hp2, if_neg (by simp), List.append_nil, ← HM.out] at hon
        go_wp2_with (first
          | (go_at_call 22; refine HB.out.mono ?_; rintro e w' ⟨rfl, rfl⟩)
          | (go_at_call 11; refine HN.out.mono ?_; rintro e w' ⟨rfl, rfl⟩))
        go_roundw
        case rel => exact ⟨k + 1, A, c, M, by go_num, by omega, hon.out.symm, by omega, rfl, hown, hb, hf⟩
        case measure => simp [intOf]; omega
    · have y1 : decide ((k : Int) < IntKind.u64.wrap (2 ^ m)) = false := decide_eq_false (by rw [hpw]; omega)
      have y2 : ¬ ((k : Int) < 2 ^ m) := by have : ((2 : Int) ^ m) = ((2 ^ m : Nat) : Int) := by simp
                                            omega
      have hfin : Hid (refL m = M) := Lib.hid (by rw [HM.out, show k = 2 ^ m by omega]; rfl)
      go_wp2
      go_ret
      unfold RefEnds
      rw [hfin.out]
      exact ⟨A, c, rfl, hown, hb, hf⟩
set_option maxHeartbeats 1000000 in
theorem sets_any (n : Int) (w : World) : Calls Try.prog 8 #[.int .i64 n] w fun e w' => e = .returned (.func (.func 19) #[] #[.pointer (some ⟨w.heap.size, 0, none⟩)]) ∧ w' = w.alloc (.cells #[.int .i64 n] 3) := by
  go_enter Try.func8, Try.ntmps8
  go_wp2
  go_ret
  exact ⟨rfl, rfl⟩
end Go.Proofs.Ytfoojhjhinofmaa
