/- Layer 12: key, Clone, New of the program and of the reference. -/
import Derived.Test.YthenjpenfemmbaaDrA
import Derived.Deep.QuietTactic
import Derived.BigQuiet
import Derived.Outline
import Derived.WalkSpells
namespace Go.Proofs.Ythenjpenfemmbaa
open Go.RowKit
set_option linter.unusedSimpArgs false
set_option linter.unusedVariables false

/-- texts, as cells -/
def sc (L : List ByteArray) : List Value := L.map Value.string
theorem sc_len (L : List ByteArray) : (sc L).length = L.length := by simp [sc]
theorem sc_one (L : List ByteArray) : ∀ u ∈ sc L, u.oneCell' = true := by
  intro u hu
  obtain ⟨b, _, rfl⟩ := List.mem_map.1 hu
  rfl
theorem Try.info9 : (Try.prog.info? 9).map (fun i => (i.zero, i.size, i.bytes)) = some (some (.string ⟨#[]⟩), 1, 16) := by kernel_rfl
theorem Reads.text {w : World} {B n : Nat} {A : Option Addr} {L : List ByteArray} (h : Reads w B 1 A n (sc L)) {k : Nat} (hk : k < L.length) : ∃ ad, A = some ad ∧ ad.block < B ∧ w.cell? (ad.add k) = some (.string (gx L k)) := by
  have hn := h.1
  rw [sc_len] at hn
  obtain ⟨ad, u, hA, hb, hu, hc⟩ := h.at_ (k := k) (by omega)
  rw [sc, gx_map hk] at hu
  cases hu
  exact ⟨ad, hA, hb, hc⟩

set_option maxHeartbeats 1000000 in
theorem key_true (s : ByteArray) (w : World) (h : keyB s = true) : Calls Try.prog 25 #[.string s] w fun e w' => e = .returned (.bool true) ∧ w = w' := by
  obtain ⟨h1, h2⟩ := key_yes h
  have H := Lib.hid h
  clear h
  have q1 : decide (1 ≤ (s.size : Int)) = true := decide_eq_true (by omega)
  have q2 : decide ((s.size : Int) ≤ 32) = true := decide_eq_true (by omega)
  go_enter Try.func25, Try.ntmps25
  go_wp2
  go_ret
  exact ⟨rfl, rfl⟩
set_option maxHeartbeats 1000000 in
theorem key_false (s : ByteArray) (w : World) (h : keyB s = false) : Calls Try.prog 25 #[.string s] w fun e w' => e = .returned (.bool false) ∧ w = w' := by
  have h1 := key_no h
  have H := Lib.hid h
  clear h
  by_cases h2 : s.size < 1
  · have q1 : decide (1 ≤ (s.size : Int)) = false := decide_eq_false (by omega)
    clear h1
    go_enter Try.func25, Try.ntmps25
    go_wp2
    go_ret
    exact ⟨rfl, rfl⟩
  · have q1 : decide (1 ≤ (s.size : Int)) = true := decide_eq_true (by omega)
    have q2 : decide ((s.size : Int) ≤ 32) = false := decide_eq_false (by omega)
    clear h1
    go_enter Try.func25, Try.ntmps25
    go_wp2
    go_ret
    exact ⟨rfl, rfl⟩
theorem key_any (s : ByteArray) (w : World) : Calls Try.prog 25 #[.string s] w fun e w' => e = .returned (.bool (keyB s)) ∧ w = w' := by
  cases h : keyB s with
  | true => exact key_true s w h
  | false => exact key_false s w h
set_option maxHeartbeats 1000000 in
theorem rkey_true (s : ByteArray) (w : World) (h : keyB s = true) : Calls Try.prog 17 #[.string s] w fun e w' => e = .returned (.bool true) ∧ w = w' := by
  obtain ⟨h1, h2⟩ := key_yes h
  have H := Lib.hid h
  clear h
  have q1 : decide (1 ≤ (s.size : Int)) = true := decide_eq_true (by omega)
  have q2 : decide ((s.size : Int) ≤ 32) = true := decide_eq_true (by omega)
  go_enter Try.func17, Try.ntmps17
  go_wp2
  go_ret
  exact ⟨rfl, rfl⟩
set_option maxHeartbeats 1000000 in
theorem rkey_false (s : ByteArray) (w : World) (h : keyB s = false) : Calls Try.prog 17 #[.string s] w fun e w' => e = .returned (.bool false) ∧ w = w' := by
  have h1 := key_no h
  have H := Lib.hid h
  clear h
  by_cases h2 : s.size < 1
  · have q1 : decide (1 ≤ (s.size : Int)) = false := decide_eq_false (by omega)
    clear h1
    go_enter Try.func17, Try.ntmps17
    go_wp2
    go_ret
    exact ⟨rfl, rfl⟩
  · have q1 : decide (1 ≤ (s.size : Int)) = true := decide_eq_true (by omega)
    have q2 : decide ((s.size : Int) ≤ 32) = false := decide_eq_false (by omega)
    clear h1
    go_enter Try.func17, Try.ntmps17
    go_wp2
    go_ret
    exact ⟨rfl, rfl⟩
theorem rkey_any (s : ByteArray) (w : World) : Calls Try.prog 17 #[.string s] w fun e w' => e = .returned (.bool (keyB s)) ∧ w = w' := by
  cases h : keyB s with
  | true => exact rkey_true s w h
  | false => exact rkey_false s w h
theorem num_any (n : Int) (w : World) : Calls Try.prog 9 #[.int .i64 n] w fun e w' => e = .returned (.int .i64 n) ∧ w = w' := by
  go_enter Try.func9, Try.ntmps9
  go_wp2
  go_ret
  exact ⟨rfl, rfl⟩

/-- texts of the call's own that read as L, in new memory -/
def NewTexts (w : World) (L : List ByteArray) (e : Ending) (w' : World) : Prop :=
  ∃ A c, e = .returned (.slice A L.length c) ∧ Reads w' w'.heap.size 1 A L.length (sc L) ∧ Below w.heap.size w w' ∧ ∀ k ∈ ob A, w.heap.size ≤ k
set_option maxHeartbeats 1000000 in
theorem clone_any (A : Option Addr) (c B : Nat) (L : List ByteArray) (w : World) (hr : Reads w B 1 A L.length (sc L)) (hB : B ≤ w.heap.size) (hl : L.length ≤ 8796093022208) :
    Calls Try.prog 26 #[.slice A L.length c] w (NewTexts w L) := by
  obtain ⟨i0, hi0, hz0, hz1, hz2⟩ := info_parts Try.info9
  rcases A with _ | ad
  · have h0 : L.length = 0 := by
      rcases Nat.eq_zero_or_pos L.length with h0 | h0
      · exact h0
      · obtain ⟨ad, h, _⟩ := hr.2 h0
        cases h
    obtain rfl : L = [] := List.eq_nil_of_length_eq_zero h0
    clear h0
    have e1 : ∀ w : World, (binOp .eql 22 (.slice none 0 c) (.slice none 0 0)).run Try.prog w = .ok (.bool true) w := fun w => Lib.run_eql_slice_nil w 22 9 none 0 c 0 0 Try.underlying22
    go_enter Try.func26, Try.ntmps26
    go_wp2
    go_ret
    exact ⟨none, 0, rfl, Reads.none_, Below.refl _ _, by simp [ob]⟩
  · have e1 : ∀ w : World, (binOp .eql 22 (.slice (some ad) L.length c) (.slice none 0 0)).run Try.prog w = .ok (.bool false) w := fun w => Lib.run_eql_slice_nil w 22 9 (some ad) L.length c 0 0 Try.underlying22
    go_enter Try.func26, Try.ntmps26
    go_wp2_with (at_builtin; refine wpList_app rfl (.tmp 5) (.tmp 6) 22 22 rfl 9 i0 _ 1 16 Try.underlying22 hi0 hz0 hz1 hz2 rfl (by omega) (some ⟨w.heap.size, 0, none⟩) 0 0 [] rfl (World.ownsRow_made w #[] 0 (Nat.zero_le _) (by simp [maxLen]) rfl) _ L.length (sc L) rfl (Src.ofReads Try.underlying22 (hr.alloc hB _) (sc_one _)) (by simp only [maxLen]; omega) (by omega) ?_; intro A1 k1 w1 hown1 hk1 hf1; rw [Nat.zero_add, List.nil_append] at hown1)
    go_ret
    refine ⟨A1, k1, rfl, Reads.of_own hown1, hk1.of_alloc.below (Nat.le_refl _) (by simp [ob]), fun x hx => ?_⟩
    exact (hf1 x hx).elim (fun h => by simp [ob] at h; omega) (fun h => by simp at h; omega)
end Go.Proofs.Ythenjpenfemmbaa
