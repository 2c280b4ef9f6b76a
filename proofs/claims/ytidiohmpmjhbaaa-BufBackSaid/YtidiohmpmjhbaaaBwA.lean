/- The writers of layer 1: what each call does to a writer, the program's and the reference's alike. -/
import Derived.Test.YtidiohmpmjhbaaaProg
import Derived.Test.YtidiohmpmjhbaaaAid
import Derived.Deep.QuietTactic
import Derived.BigQuiet
import Derived.Outline
namespace Go.Proofs.Ytidiohmpmjhbaaa
open Go.RowKit

/-- bytes, as cells -/
def bc (xs : List UInt8) : List Value := xs.map fun b => Value.int .u8 (b.toNat : Int)
theorem bc_len (xs : List UInt8) : (bc xs).length = xs.length := by simp [bc]
theorem bc_append (xs ys : List UInt8) : bc (xs ++ ys) = bc xs ++ bc ys := by simp [bc]
theorem bc_one (xs : List UInt8) : ∀ u ∈ bc xs, u.oneCell' = true := by
  intro u hu
  obtain ⟨b, _, rfl⟩ := List.mem_map.1 hu
  rfl

/-- A writer. -/
structure Wr where
  most : Int
  xs : List UInt8
  over : Bool
def Wr.put (W : Wr) (ys : List UInt8) : Wr := if W.over then W else if W.most - W.xs.length < ys.length then { W with over := true } else { W with xs := W.xs ++ ys }

/-- block b is the program's writer W, whose bytes lie at A -/
structure IsW (w : World) (b : Nat) (W : Wr) (A : Option Addr) (c : Nat) : Prop where
  blk : Blk w b 63 #[.slice A W.xs.length c, .int .i64 W.most, .bool W.over]
  row : w.ownsRow 0 5 1 (.slice A W.xs.length c) W.xs.length (bc W.xs)
  pos : 0 ≤ W.most
  top : W.most ≤ 9223372036854775807

section
variable {w w' : World} {b c : Nat} {W : Wr} {A : Option Addr} {S : List Nat}
theorem IsW.lt (h : IsW w b W A c) : ∀ k ∈ b :: ob A, k < w.heap.size := by
  intro k hk
  rcases List.mem_cons.1 hk with rfl | hk
  · exact h.blk.lt
  · exact own_lt h.row k hk
theorem IsW.kept (h : IsW w b W A c) (hk : Kept S w w') (hd : ∀ k ∈ b :: ob A, k ∉ S) : IsW w' b W A c :=
  ⟨hk.blk h.blk (hd b (by simp)), hk.own h.row (fun _ hg => hd _ (List.mem_cons_of_mem _ (ownBlock_mem.1 hg))), h.pos, h.top⟩
end

theorem Try.info5 : (Try.prog.info? 5).map (fun i => (i.zero, i.size, i.bytes)) = some (some (.int .u8 0), 1, 1) := by kernel_rfl

set_option maxHeartbeats 1000000 in
theorem put_any (b : Nat) (W : Wr) (A : Option Addr) (c : Nat) (ys : List UInt8) (A' : Option Addr) (c' B : Nat) (w : World) (h : IsW w b W A c) (hr : Reads w B 1 A' ys.length (bc ys)) (hl : W.xs.length + ys.length ≤ 1099511627776) :
    Calls Try.prog 47 #[.pointer (some ⟨b, 0, none⟩), .slice A' ys.length c'] w fun e w' => e = .returned (.tuple #[]) ∧ ∃ A1 c1, IsW w' b (W.put ys) A1 c1 ∧ Moves (b :: ob A) (b :: ob A1) w w' := by
  obtain ⟨i0, hi0, hz0, hz1, hz2⟩ := info_parts Try.info5
  have hb := h.blk
  have c0 := hb.cell 0
  have c1 := hb.cell 1
  have c2 := hb.cell 2
  have f0 := hb.frozen 0
  have f2 := hb.frozen 2
  simp only [List.getElem?_toArray, List.getElem?_cons_zero, List.getElem?_cons_succ] at c0 c1 c2
  have hp := h.pos
  have ht := h.top
  by_cases ho : W.over = true
  · rw [ho] at c2
    have hW : W.put ys = W := by unfold Wr.put; rw [if_pos ho]
    rw [hW]
    go_enter Try.func47, Try.ntmps47
    go_wp2
    go_end0
    exact ⟨rfl, A, c, h, Moves.refl _ _⟩
  · have ho' : W.over = false := by simpa using ho
    rw [ho'] at c2
    by_cases hg : W.most - (W.xs.length : Int) < (ys.length : Int)
    · have hW : W.put ys = { W with over := true } := by unfold Wr.put; rw [if_neg ho, if_pos hg]
      rw [hW]
      go_enter Try.func47, Try.ntmps47
      go_wp2
      go_quiet (fail)
      go_wp2
      go_end0
      refine ⟨rfl, A, c, ⟨?_, ?_, hp, ht⟩, ⟨((Kept.refl _ _).drewN _).setCell _ (.inl (by simp)), fun k hk => .inl hk⟩⟩
      · exact (hb.drewN _).set_ 2 _
      · exact own_far (w := w.drewN nq) h.row (fun g hg he => by subst he; exact own_blk_ne h.row hb (by decide) hg) _
    · have hW : W.put ys = { W with xs := W.xs ++ ys } := by unfold Wr.put; rw [if_neg ho, if_neg hg]
      rw [hW]
      go_enter Try.func47, Try.ntmps47
      go_wp2
      go_quiet (fail)
      go_wp2_with (at_builtin; refine wpList_app rfl (.tmp 8) (.tmp 9) 30 30 rfl 5 i0 _ 1 1 Try.underlying30 hi0 hz0 hz1 hz2 rfl (by omega) A W.xs.length c (bc W.xs) rfl h.row _ ys.length (bc ys) rfl (Src.ofReads Try.underlying30 hr (bc_one ys)) (by simp only [maxLen]; omega) (by omega) ?_; intro A1 k1 w1 hown1 hk1 hf1; have hb1 := hk1.blk (hb.drewN nq) (own_ne h.row hb (by decide)); have c0' := hb1.cell 0; have f0' := hb1.frozen 0; simp only [List.getElem?_toArray, List.getElem?_cons_zero] at c0')
      go_end0
      refine ⟨rfl, A1, k1, ⟨?_, ?_, hp, ht⟩, ⟨(((Kept.refl _ _).drewN nq).trans hk1 (fun x hx => .inl (List.mem_cons_of_mem _ hx))).setCell _ (.inl (by simp)), ?_⟩⟩
      · have := hb1.set_ 0 (.slice A1 (W.xs.length + ys.length) k1)
        simpa using this
      · have := own_far hown1 (p := ⟨b, 0, none⟩) (fun g hg he => by subst he; exact own_blk_ne hown1 hb1 (by decide) hg) (.slice A1 (W.xs.length + ys.length) k1)
        simpa [bc_append] using this
      · intro k hk
        rcases List.mem_cons.1 hk with rfl | hk
        · exact .inl (by simp)
        · exact (hf1 k hk).elim (fun h => .inl (List.mem_cons_of_mem _ h)) .inr

/-- block b is the reference's writer W -/
structure IsV (w : World) (b : Nat) (W : Wr) (A : Option Addr) (c : Nat) : Prop where
  blk : Blk w b 65 #[.int .i64 W.most, .slice A W.xs.length c, .bool W.over]
  row : w.ownsRow 0 5 1 (.slice A W.xs.length c) W.xs.length (bc W.xs)
  pos : 0 ≤ W.most
  top : W.most ≤ 9223372036854775807
section
variable {w w' : World} {b c : Nat} {W : Wr} {A : Option Addr} {S : List Nat}
theorem IsV.lt (h : IsV w b W A c) : ∀ k ∈ b :: ob A, k < w.heap.size := by
  intro k hk
  rcases List.mem_cons.1 hk with rfl | hk
  · exact h.blk.lt
  · exact own_lt h.row k hk
theorem IsV.kept (h : IsV w b W A c) (hk : Kept S w w') (hd : ∀ k ∈ b :: ob A, k ∉ S) : IsV w' b W A c :=
  ⟨hk.blk h.blk (hd b (by simp)), hk.own h.row (fun _ hg => hd _ (List.mem_cons_of_mem _ (ownBlock_mem.1 hg))), h.pos, h.top⟩
end

set_option maxHeartbeats 1000000 in
theorem raw_any (b : Nat) (W : Wr) (A : Option Addr) (c : Nat) (ys : List UInt8) (A' : Option Addr) (c' B : Nat) (w : World) (h : IsV w b W A c) (hr : Reads w B 1 A' ys.length (bc ys)) (hl : W.xs.length + ys.length ≤ 1099511627776) :
    Calls Try.prog 37 #[.pointer (some ⟨b, 0, none⟩), .slice A' ys.length c'] w fun e w' => e = .returned (.tuple #[]) ∧ ∃ A1 c1, IsV w' b (W.put ys) A1 c1 ∧ Moves (b :: ob A) (b :: ob A1) w w' := by
  obtain ⟨i0, hi0, hz0, hz1, hz2⟩ := info_parts Try.info5
  have hb := h.blk
  have c0 := hb.cell 0
  have c1 := hb.cell 1
  have c2 := hb.cell 2
  have f0 := hb.frozen 1
  have f2 := hb.frozen 2
  simp only [List.getElem?_toArray, List.getElem?_cons_zero, List.getElem?_cons_succ] at c0 c1 c2
  have hp := h.pos
  have ht := h.top
  by_cases ho : W.over = true
  · rw [ho] at c2
    have hW : W.put ys = W := by unfold Wr.put; rw [if_pos ho]
    rw [hW]
    go_enter Try.func37, Try.ntmps37
    go_wp2
    refine bodyPost_ret (results_none rfl _ _ _) rfl ?_
    exact ⟨rfl, A, c, h, Moves.refl _ _⟩
  · have ho' : W.over = false := by simpa using ho
    rw [ho'] at c2
    by_cases hg : W.most - (W.xs.length : Int) < (ys.length : Int)
    · have hW : W.put ys = { W with over := true } := by unfold Wr.put; rw [if_neg ho, if_pos hg]
      rw [hW]
      go_enter Try.func37, Try.ntmps37
      go_wp2
      go_quiet (fail)
      go_wp2
      refine bodyPost_ret (results_none rfl _ _ _) rfl ?_
      refine ⟨rfl, A, c, ⟨?_, ?_, hp, ht⟩, ⟨((Kept.refl _ _).drewN _).setCell _ (.inl (by simp)), fun k hk => .inl hk⟩⟩
      · exact (hb.drewN _).set_ 2 _
      · exact own_far (w := w.drewN nq) h.row (fun g hg he => by subst he; exact own_blk_ne h.row hb (by decide) hg) _
    · have hW : W.put ys = { W with xs := W.xs ++ ys } := by unfold Wr.put; rw [if_neg ho, if_neg hg]
      rw [hW]
      go_enter Try.func37, Try.ntmps37
      go_wp2
      go_quiet (fail)
      go_wp2_with (at_builtin; refine wpList_app rfl (.tmp 28) (.tmp 29) 30 30 rfl 5 i0 _ 1 1 Try.underlying30 hi0 hz0 hz1 hz2 rfl (by omega) A W.xs.length c (bc W.xs) rfl h.row _ ys.length (bc ys) rfl (Src.ofReads Try.underlying30 hr (bc_one ys)) (by simp only [maxLen]; omega) (by omega) ?_; intro A1 k1 w1 hown1 hk1 hf1; have hb1 := hk1.blk (hb.drewN nq) (own_ne h.row hb (by decide)); have c0' := hb1.cell 1; have f0' := hb1.frozen 1; simp only [List.getElem?_toArray, List.getElem?_cons_zero, List.getElem?_cons_succ] at c0')
      go_end0
      refine ⟨rfl, A1, k1, ⟨?_, ?_, hp, ht⟩, ⟨(((Kept.refl _ _).drewN nq).trans hk1 (fun x hx => .inl (List.mem_cons_of_mem _ hx))).setCell _ (.inl (by simp)), ?_⟩⟩
      · have := hb1.set_ 1 (.slice A1 (W.xs.length + ys.length) k1)
        simpa using this
      · have := own_far hown1 (p := ⟨b, 1, none⟩) (fun g hg he => by subst he; exact own_blk_ne hown1 hb1 (by decide) hg) (.slice A1 (W.xs.length + ys.length) k1)
        simpa [bc_append] using this
      · intro k hk
        rcases List.mem_cons.1 hk with rfl | hk
        · exact .inl (by simp)
        · exact (hf1 k hk).elim (fun h => .inl (List.mem_cons_of_mem _ h)) .inr

/-- a number's bytes -/
def vb (n : Nat) : List UInt8 := if n < 128 then [UInt8.ofNat n] else UInt8.ofNat (n % 128 + 128) :: vb (n / 128)
decreasing_by omega
theorem vb_small {n : Nat} (h : n < 128) : vb n = [UInt8.ofNat n] := by rw [vb, if_pos h]
theorem vb_big {n : Nat} (h : ¬ n < 128) : vb n = UInt8.ofNat (n % 128 + 128) :: vb (n / 128) := by rw [vb, if_neg h]
theorem vb_len (k : Nat) : ∀ n, n < 128 ^ (k + 1) → (vb n).length ≤ k + 1 := by
  induction k with
  | zero => intro n h; rw [vb_small (by simpa using h)]; simp
  | succ k ih =>
    intro n h
    by_cases hs : n < 128
    · rw [vb_small hs]; simp
    · rw [vb_big hs]
      have := ih (n / 128) (by rw [Nat.div_lt_iff_lt_mul (by decide)]; rw [Nat.pow_succ] at h; exact h)
      simp
      exact this
theorem vb_len64 {n : Nat} (h : n < 18446744073709551616) : (vb n).length ≤ 10 := vb_len 9 n (Nat.lt_of_lt_of_le h (by decide))
theorem or_byte : ∀ a, a < 256 → a ||| 128 = a % 128 + 128 := by decide +kernel
theorem or_int (k : Nat) : bits BinOp.or IntKind.u8 ((k : Int) % 256) 128 = ((k % 128 + 128 : Nat) : Int) := by
  have h := u8_or_nat (k % 256) 128 (by omega) (by decide)
  rw [or_byte _ (by omega)] at h
  have e : ((k % 256 : Nat) : Int) = (k : Int) % 256 := by omega
  rw [e] at h
  have e2 : ((128 : Nat) : Int) = 128 := rfl
  rw [e2] at h
  rw [h]
  omega
theorem bc_snoc (xs : List UInt8) (n : Nat) (h : n < 256) : bc xs ++ [Value.int .u8 (n : Int)] = bc (xs ++ [UInt8.ofNat n]) := by
  rw [bc_append]
  simp [bc, Nat.mod_eq_of_lt h]

set_option maxHeartbeats 1000000 in
set_option maxRecDepth 100000 in
theorem uint_any (n : Nat) (w : World) (hn : n < 18446744073709551616) :
    Calls Try.prog 50 #[.int .u64 n] w fun e w' => ∃ A c, e = .returned (.slice A (vb n).length c) ∧ w'.ownsRow 0 5 1 (.slice A (vb n).length c) (vb n).length (bc (vb n)) ∧ Below w.heap.size w w' ∧ (∀ k ∈ ob A, w.heap.size ≤ k) := by
  obtain ⟨i0, hi0, hz0, hz1, hz2⟩ := info_parts Try.info5
  go_enter Try.func50, Try.ntmps50
  go_wp2
  go_loopw [0, 3] (fun m v wr => ∃ (k : Nat) (pre : List UInt8) (A : Option Addr) (c : Nat), m = .int .u64 k ∧ k < 18446744073709551616 ∧ v = .slice A pre.length c ∧ wr.ownsRow 0 5 1 (.slice A pre.length c) pre.length (bc pre) ∧ Below w.heap.size w wr ∧ (∀ k ∈ ob A, w.heap.size ≤ k) ∧ pre ++ vb k = vb n ∧ pre.length ≤ 10) (fun m _ _ => (intOf m).toNat)
  case atStart => exact ⟨n, [], none, 0, rfl, hn, rfl, World.ownsRow_nil _ _ _ _, Below.refl _ _, by simp [ob], rfl, by simp⟩
  case round =>
    obtain ⟨k, pre, A, c, rfl, hk, rfl, hown, hbel, hfr, hpre, hpl⟩ := hrel
    have H := Lib.hid hpre
    clear hpre
    by_cases hlt : k < 128
    · have e1 := Lib.hid (vb_small hlt)
      have e2 := Lib.hid (bc_snoc pre k (by omega))
      go_wp2_with (at_builtin; refine wpList_app rfl (.tmp 14) (.tmp 17) 30 30 rfl 5 i0 _ 1 1 Try.underlying30 hi0 hz0 hz1 hz2 rfl (by omega) A pre.length c (bc pre) rfl (hown.alloc _) _ 1 [.int .u8 k] rfl (Src.one1 Try.underlying30 _ _ rfl) (by simp only [maxLen]; omega) (by omega) ?_; intro A1 k1 w1 hown1 hk1 hf1)
      go_ret
      have hl : pre.length + 1 = (vb n).length := by rw [← H.out, e1.out]; simp
      rw [e2.out, show pre ++ [UInt8.ofNat k] = vb n by rw [← H.out, e1.out], hl] at hown1
      refine ⟨A1, k1, by rw [← hl]; rfl, hown1, hbel.trans (hk1.of_alloc.below hbel.size hfr), fun x hx => (hf1 x hx).elim (hfr x) (fun h => ?_)⟩
      have := hbel.size
      simp at h
      omega
    · have e1 := Lib.hid (vb_big hlt)
      have e2 := Lib.hid (bc_snoc pre (k % 128 + 128) (by omega))
      have e3 := Lib.hid (or_int k)
      have hl10 : pre.length + 1 ≤ 10 := by
        have h1 := vb_len64 hn
        rw [← H.out, e1.out] at h1
        have h2 : 1 ≤ (vb (k / 128)).length := by rw [vb]; split <;> simp
        simp at h1
        omega
      go_wp2_with (at_builtin; refine wpList_app rfl (.tmp 8) (.tmp 12) 30 30 rfl 5 i0 _ 1 1 Try.underlying30 hi0 hz0 hz1 hz2 rfl (by omega) A pre.length c (bc pre) rfl (hown.alloc _) _ 1 _ rfl (Src.one1 Try.underlying30 _ _ rfl) (by simp only [maxLen]; omega) (by omega) ?_; intro A1 k1 w1 hown1 hk1 hf1)
      have hl : pre.length + 1 = (pre ++ [UInt8.ofNat (k % 128 + 128)]).length := by simp
      rw [e3.out, e2.out] at hown1
      go_roundw
      case rel =>
        refine ⟨k / 128, pre ++ [UInt8.ofNat (k % 128 + 128)], A1, k1, by go_num, by omega, by rw [← hl], by rw [← hl]; exact hown1, hbel.trans (hk1.of_alloc.below hbel.size hfr), fun x hx => (hf1 x hx).elim (hfr x) (fun h => ?_), by rw [← H.out, e1.out]; simp, by omega⟩
        have := hbel.size
        simp at h
        omega
      case measure => simp [intOf]; omega
end Go.Proofs.Ytidiohmpmjhbaaa
