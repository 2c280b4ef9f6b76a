/- The writers of layer 1, on: the reference's numbers, and the calls over put. -/
import Derived.Test.YtidiohmpmjhbaaaBwA
namespace Go.Proofs.Ytidiohmpmjhbaaa
open Go.RowKit

theorem add_int (k : Nat) : (k : Int) % 128 + 128 = ((k % 128 + 128 : Nat) : Int) := by omega
set_option maxHeartbeats 1000000 in
set_option maxRecDepth 100000 in
theorem varint_any (n : Nat) (w : World) (hn : n < 18446744073709551616) :
    Calls Try.prog 52 #[.int .u64 n] w fun e w' => ∃ A c, e = .returned (.slice A (vb n).length c) ∧ w'.ownsRow 0 5 1 (.slice A (vb n).length c) (vb n).length (bc (vb n)) ∧ Below w.heap.size w w' ∧ (∀ k ∈ ob A, w.heap.size ≤ k) := by
  obtain ⟨i0, hi0, hz0, hz1, hz2⟩ := info_parts Try.info5
  go_enter Try.func52, Try.ntmps52
  go_wp2
  go_loopw [0, 3] (fun m v wr => ∃ (k : Nat) (pre : List UInt8) (A : Option Addr) (c : Nat), m = .int .u64 k ∧ k < 18446744073709551616 ∧ v = .slice A pre.length c ∧ wr.ownsRow 0 5 1 (.slice A pre.length c) pre.length (bc pre) ∧ Below w.heap.size w wr ∧ (∀ k ∈ ob A, w.heap.size ≤ k) ∧ pre ++ vb k = vb n ∧ pre.length ≤ 10) (fun m _ _ => (intOf m).toNat)
  case atStart => exact ⟨n, [], none, 0, rfl, hn, rfl, World.ownsRow_nil _ _ _ _, Below.refl _ _, by simp [ob], rfl, by simp⟩
  case round =>
    obtain ⟨k, pre, A, c, rfl, hk, rfl, hown, hbel, hfr, hpre, hpl⟩ := hrel
    have H := Lib.hid hpre
    clear hpre
    by_cases hlt : k < 128
    · have e1 := Lib.hid (vb_small hlt)
      have e2 := Lib.hid (bc_snoc pre k (by omega))
      go_wp2_with (at_builtin; refine wpList_app rfl (.tmp 15) (.tmp 18) 30 30 rfl 5 i0 _ 1 1 Try.underlying30 hi0 hz0 hz1 hz2 rfl (by omega) A pre.length c (bc pre) rfl (hown.alloc _) _ 1 [.int .u8 k] rfl (Src.one1 Try.underlying30 _ _ rfl) (by simp only [maxLen]; omega) (by omega) ?_; intro A1 k1 w1 hown1 hk1 hf1)
      go_ret
      have hl : pre.length + 1 = (vb n).length := by rw [← H.out, e1.out]; simp
      rw [e2.out, show pre ++ [UInt8.ofNat k] = vb n by rw [← H.out, e1.out], hl] at hown1
      refine ⟨A1, k1, by rw [← hl]; rfl, hown1, hbel.trans (hk1.of_alloc.below hbel.size hfr), fun x hx => (hf1 x hx).elim (hfr x) (fun h => ?_)⟩
      have := hbel.size
      simp at h
      omega
    · have e1 := Lib.hid (vb_big hlt)
      have e2 := Lib.hid (bc_snoc pre (k % 128 + 128) (by omega))
      have hl10 : pre.length + 1 ≤ 10 := by
        have h1 := vb_len64 hn
        rw [← H.out, e1.out] at h1
        have h2 : 1 ≤ (vb (k / 128)).length := by rw [vb]; split <;> simp
        simp at h1
        omega
      go_wp2_with (at_builtin; refine wpList_app rfl (.tmp 6) (.tmp 11) 30 30 rfl 5 i0 _ 1 1 Try.underlying30 hi0 hz0 hz1 hz2 rfl (by omega) A pre.length c (bc pre) rfl (hown.alloc _) _ 1 _ rfl (Src.one1 Try.underlying30 _ _ rfl) (by simp only [maxLen]; omega) (by omega) ?_; intro A1 k1 w1 hown1 hk1 hf1)
      have hl : pre.length + 1 = (pre ++ [UInt8.ofNat (k % 128 + 128)]).length := by simp
      rw [add_int, e2.out] at hown1
      go_roundw
      case rel =>
        refine ⟨k / 128, pre ++ [UInt8.ofNat (k % 128 + 128)], A1, k1, by go_num, by omega, by rw [← hl], by rw [← hl]; exact hown1, hbel.trans (hk1.of_alloc.below hbel.size hfr), fun x hx => (hf1 x hx).elim (hfr x) (fun h => ?_), by rw [← H.out, e1.out]; simp, by omega⟩
        have := hbel.size
        simp at h
        omega
      case measure => simp [intOf]; omega

theorem reads_new (w : World) (x : Value) (t : TypeId) : Reads (w.alloc (.cells #[x] t)) (w.heap.size + 1) 1 (some ⟨w.heap.size, 0, none⟩) 1 [x] :=
  ⟨rfl, fun _ => ⟨_, rfl, by simp, cell_one_new w x t⟩⟩

/-- what a call of a writer leaves: the writer W1 in place of W -/
def PutW (w : World) (b : Nat) (A : Option Addr) (W1 : Wr) (e : Ending) (w' : World) : Prop := e = .returned (.tuple #[]) ∧ ∃ A1 c1, IsW w' b W1 A1 c1 ∧ Moves (b :: ob A) (b :: ob A1) w w'
def PutV (w : World) (b : Nat) (A : Option Addr) (W1 : Wr) (e : Ending) (w' : World) : Prop := e = .returned (.tuple #[]) ∧ ∃ A1 c1, IsV w' b W1 A1 c1 ∧ Moves (b :: ob A) (b :: ob A1) w w'
theorem PutW.left {w w1 : World} {b : Nat} {A : Option Addr} {W1 : Wr} {e : Ending} {w' : World} (h : PutW w1 b A W1 e w') (hb : Below w.heap.size w w1) : PutW w b A W1 e w' := by
  obtain ⟨he, A1, c1, h1, h2⟩ := h
  exact ⟨he, A1, c1, h1, Moves.below_left hb h2⟩
theorem PutV.left {w w1 : World} {b : Nat} {A : Option Addr} {W1 : Wr} {e : Ending} {w' : World} (h : PutV w1 b A W1 e w') (hb : Below w.heap.size w w1) : PutV w b A W1 e w' := by
  obtain ⟨he, A1, c1, h1, h2⟩ := h
  exact ⟨he, A1, c1, h1, Moves.below_left hb h2⟩
theorem IsW.below {w w' : World} {b c : Nat} {W : Wr} {A : Option Addr} (h : IsW w b W A c) (hb : Below w.heap.size w w') : IsW w' b W A c :=
  h.kept (S := []) (Kept.of_below hb) (by simp)
theorem IsV.below {w w' : World} {b c : Nat} {W : Wr} {A : Option Addr} (h : IsV w b W A c) (hb : Below w.heap.size w w') : IsV w' b W A c :=
  h.kept (S := []) (Kept.of_below hb) (by simp)
theorem below_alloc (w : World) (o : Obj) : Below w.heap.size w (w.alloc o) := (Below.refl _ _).alloc (Nat.le_refl _) o

set_option maxHeartbeats 1000000 in
theorem byte_any (b : Nat) (W : Wr) (A : Option Addr) (c x : Nat) (w : World) (h : IsW w b W A c) (hx : x < 256) (hl : W.xs.length + 1 ≤ 1099511627776) :
    Calls Try.prog 21 #[.pointer (some ⟨b, 0, none⟩), .int .u8 x] w (PutW w b A (W.put [UInt8.ofNat x])) := by
  have hr : Reads (w.alloc (.cells #[.int .u8 x] 5)) (w.heap.size + 1) 1 (some ⟨w.heap.size, 0, none⟩) 1 (bc [UInt8.ofNat x]) := by
    rw [show bc [UInt8.ofNat x] = [Value.int .u8 (x : Int)] from (bc_snoc [] x hx).symm]
    exact reads_new w _ 5
  go_enter Try.func21, Try.ntmps21
  go_wp2_with fail
  refine (put_any b W A c [UInt8.ofNat x] _ _ _ _ (h.below (below_alloc _ _)) hr hl).mono ?_
  rintro e w' ⟨rfl, hq⟩
  go_wp2
  go_end0
  exact PutW.left ⟨rfl, hq⟩ (below_alloc _ _)
set_option maxHeartbeats 1000000 in
theorem vbyte_any (b : Nat) (W : Wr) (A : Option Addr) (c x : Nat) (w : World) (h : IsV w b W A c) (hx : x < 256) (hl : W.xs.length + 1 ≤ 1099511627776) :
    Calls Try.prog 32 #[.pointer (some ⟨b, 0, none⟩), .int .u8 x] w (PutV w b A (W.put [UInt8.ofNat x])) := by
  have hr : Reads (w.alloc (.cells #[.int .u8 x] 5)) (w.heap.size + 1) 1 (some ⟨w.heap.size, 0, none⟩) 1 (bc [UInt8.ofNat x]) := by
    rw [show bc [UInt8.ofNat x] = [Value.int .u8 (x : Int)] from (bc_snoc [] x hx).symm]
    exact reads_new w _ 5
  go_enter Try.func32, Try.ntmps32
  go_wp2_with fail
  refine (raw_any b W A c [UInt8.ofNat x] _ _ _ _ (h.below (below_alloc _ _)) hr hl).mono ?_
  rintro e w' ⟨rfl, hq⟩
  go_wp2
  go_end0
  exact PutV.left ⟨rfl, hq⟩ (below_alloc _ _)
set_option maxHeartbeats 1000000 in
theorem wuint_any (b : Nat) (W : Wr) (A : Option Addr) (c n : Nat) (w : World) (h : IsW w b W A c) (hn : n < 18446744073709551616) (hl : W.xs.length + 10 ≤ 1099511627776) :
    Calls Try.prog 23 #[.pointer (some ⟨b, 0, none⟩), .int .u64 n] w (PutW w b A (W.put (vb n))) := by
  have hv := vb_len64 hn
  go_enter Try.func23, Try.ntmps23
  go_wp2_with fail
  refine (uint_any n _ hn).mono ?_
  rintro e w1 ⟨A2, c2, rfl, hown, hb, hf⟩
  go_wp2_with fail
  refine (put_any b W A c (vb n) _ _ _ _ (h.below hb) (Reads.of_own hown) (by omega)).mono ?_
  rintro e w' ⟨rfl, hq⟩
  go_wp2
  go_end0
  exact PutW.left ⟨rfl, hq⟩ hb
set_option maxHeartbeats 1000000 in
theorem vuint_any (b : Nat) (W : Wr) (A : Option Addr) (c n : Nat) (w : World) (h : IsV w b W A c) (hn : n < 18446744073709551616) (hl : W.xs.length + 10 ≤ 1099511627776) :
    Calls Try.prog 33 #[.pointer (some ⟨b, 0, none⟩), .int .u64 n] w (PutV w b A (W.put (vb n))) := by
  have hv := vb_len64 hn
  go_enter Try.func33, Try.ntmps33
  go_wp2_with fail
  refine (varint_any n _ hn).mono ?_
  rintro e w1 ⟨A2, c2, rfl, hown, hb, hf⟩
  go_wp2_with fail
  refine (raw_any b W A c (vb n) _ _ _ _ (h.below hb) (Reads.of_own hown) (by omega)).mono ?_
  rintro e w' ⟨rfl, hq⟩
  go_wp2
  go_end0
  exact PutV.left ⟨rfl, hq⟩ hb
/-- the number that stands for one that may be below 0 -/
def zig (n : Int) : Nat := if n < 0 then (-2 * n - 1).toNat else (2 * n).toNat
theorem zig_lt {n : Int} (h1 : -9223372036854775808 ≤ n) (h2 : n ≤ 9223372036854775807) : zig n < 18446744073709551616 := by unfold zig; split <;> omega
set_option maxHeartbeats 1000000 in
theorem zig_any (n : Int) (w : World) (h1 : -9223372036854775808 ≤ n) (h2 : n ≤ 9223372036854775807) :
    Calls Try.prog 53 #[.int .i64 n] w fun e w' => e = .returned (.int .u64 (zig n)) ∧ w = w' := by
  by_cases h : n < 0
  · have hf : Hid ((zig n : Int) = -2 * n - 1) := by unfold Hid zig; rw [if_pos h]; omega
    go_enter Try.func53, Try.ntmps53
    go_wp2
    go_ret
    exact ⟨ret_int (by rw [hf.out]; omega), rfl⟩
  · have hf : Hid ((zig n : Int) = 2 * n) := by unfold Hid zig; rw [if_neg h]; omega
    go_enter Try.func53, Try.ntmps53
    go_wp2
    go_ret
    exact ⟨ret_int hf.out.symm, rfl⟩
theorem xor_ones (x : Nat) (hx : x < 18446744073709551616) : x ^^^ 18446744073709551615 = 18446744073709551615 - x := by
  apply Nat.eq_of_testBit_eq
  intro i
  have h := Nat.testBit_two_pow_sub_succ (x := x) (n := 64) (by omega) i
  rw [show 18446744073709551615 - x = 2 ^ 64 - (x + 1) by omega, h, Nat.testBit_xor, show (18446744073709551615 : Nat) = 2 ^ 64 - 1 from rfl, Nat.testBit_two_pow_sub_one]
  by_cases hi : i < 64
  · simp [hi]
  · have hz : x.testBit i = false := Nat.testBit_lt_two_pow (Nat.lt_of_lt_of_le (by omega : x < 2 ^ 64) (Nat.pow_le_pow_right (by decide) (by omega)))
    simp [hi, hz]
theorem zig_bits (n : Int) (h1 : -9223372036854775808 ≤ n) (h2 : n ≤ 9223372036854775807) :
    bits BinOp.xor IntKind.u64 (IntKind.u64.wrap (IntKind.u64.wrap n * 2)) (IntKind.u64.wrap (n / 9223372036854775808)) = (zig n : Int) := by
  have e1 : IntKind.u64.wrap (IntKind.u64.wrap n * 2) = (((2 * n) % 18446744073709551616).toNat : Int) := by rw [IntKind.wrap_u64, IntKind.wrap_u64]; omega
  rw [e1]
  by_cases h : n < 0
  · have e2 : IntKind.u64.wrap (n / 9223372036854775808) = ((18446744073709551615 : Nat) : Int) := by rw [IntKind.wrap_u64]; omega
    rw [e2, bits_xor_u64_nat _ _ (by omega) (by decide), xor_ones _ (by omega)]
    unfold zig
    rw [if_pos h]
    omega
  · have e2 : IntKind.u64.wrap (n / 9223372036854775808) = ((0 : Nat) : Int) := by rw [IntKind.wrap_u64]; omega
    rw [e2, bits_xor_u64_nat _ _ (by omega) (by decide), Nat.xor_zero]
    unfold zig
    rw [if_neg h]
    omega
set_option maxHeartbeats 1000000 in
theorem wint_any (b : Nat) (W : Wr) (A : Option Addr) (c : Nat) (n : Int) (w : World) (h : IsW w b W A c) (h1 : -9223372036854775808 ≤ n) (h2 : n ≤ 9223372036854775807) (hl : W.xs.length + 10 ≤ 1099511627776) :
    Calls Try.prog 25 #[.pointer (some ⟨b, 0, none⟩), .int .i64 n] w (PutW w b A (W.put (vb (zig n)))) := by
  have hn := zig_lt h1 h2
  have hv := vb_len64 hn
  go_enter Try.func25, Try.ntmps25
  go_wp2_with fail
  rw [zig_bits n h1 h2]
  refine (uint_any (zig n) _ hn).mono ?_
  rintro e w1 ⟨A2, c2, rfl, hown, hb, hf⟩
  go_wp2_with fail
  refine (put_any b W A c (vb (zig n)) _ _ _ _ (h.below hb) (Reads.of_own hown) (by omega)).mono ?_
  rintro e w' ⟨rfl, hq⟩
  go_wp2
  go_end0
  exact PutW.left ⟨rfl, hq⟩ hb
set_option maxHeartbeats 1000000 in
theorem vint_any (b : Nat) (W : Wr) (A : Option Addr) (c : Nat) (n : Int) (w : World) (h : IsV w b W A c) (h1 : -9223372036854775808 ≤ n) (h2 : n ≤ 9223372036854775807) (hl : W.xs.length + 10 ≤ 1099511627776) :
    Calls Try.prog 34 #[.pointer (some ⟨b, 0, none⟩), .int .i64 n] w (PutV w b A (W.put (vb (zig n)))) := by
  have hn := zig_lt h1 h2
  have hv := vb_len64 hn
  go_enter Try.func34, Try.ntmps34
  go_wp2_with fail
  refine (zig_any n _ h1 h2).mono ?_
  rintro e w' ⟨rfl, rfl⟩
  go_wp2_with fail
  refine (varint_any (zig n) _ hn).mono ?_
  rintro e w1 ⟨A2, c2, rfl, hown, hb, hf⟩
  go_wp2_with fail
  refine (raw_any b W A c (vb (zig n)) _ _ _ _ (h.below hb) (Reads.of_own hown) (by omega)).mono ?_
  rintro e w' ⟨rfl, hq⟩
  go_wp2
  go_end0
  exact PutV.left ⟨rfl, hq⟩ hb

/-- a text's bytes -/
def sb (s : ByteArray) : List UInt8 := s.data.toList
theorem sb_len (s : ByteArray) : (sb s).length = s.size := by simp [sb]
theorem sb_cells (s : ByteArray) : byteCells s = bc (sb s) := rfl
/-- a text's own bytes: how many, and these -/
def tb (s : ByteArray) : List UInt8 := vb s.size ++ sb s
def Wr.text (W : Wr) (s : ByteArray) : Wr := if W.most < s.size then { W with over := true } else W.put (tb s)

set_option maxHeartbeats 1000000 in
theorem wtext_any (b : Nat) (W : Wr) (A : Option Addr) (c : Nat) (s : ByteArray) (w : World) (h : IsW w b W A c) (hl : W.xs.length + s.size + 10 ≤ 1099511627776) :
    Calls Try.prog 27 #[.pointer (some ⟨b, 0, none⟩), .string s] w (PutW w b A (W.text s)) := by
  obtain ⟨i0, hi0, hz0, hz1, hz2⟩ := info_parts Try.info5
  have hn : s.size < 18446744073709551616 := by omega
  have hv := vb_len64 hn
  have hb := h.blk
  have c1 := hb.cell 1
  have f2 := hb.frozen 2
  have c2 := hb.cell 2
  simp only [List.getElem?_toArray, List.getElem?_cons_zero, List.getElem?_cons_succ] at c1 c2
  have hp := h.pos
  have ht := h.top
  by_cases hg : W.most < s.size
  · have hW : W.text s = { W with over := true } := by unfold Wr.text; rw [if_pos hg]
    rw [hW]
    go_enter Try.func27, Try.ntmps27
    go_wp2
    refine bodyPost_ret (results_none rfl _ _ _) rfl ?_
    refine ⟨rfl, A, c, ⟨hb.set_ 2 _, ?_, hp, ht⟩, ⟨(Kept.refl _ _).setCell _ (.inl (by simp)), fun k hk => .inl hk⟩⟩
    exact own_far h.row (fun g hg he => by subst he; exact own_blk_ne h.row hb (by decide) hg) _
  · have hW : W.text s = W.put (tb s) := by unfold Wr.text; rw [if_neg hg]
    rw [hW]
    have H := Lib.hid hW
    clear hW
    go_enter Try.func27, Try.ntmps27
    go_wp2_with fail
    refine (uint_any s.size _ hn).mono ?_
    rintro e w1 ⟨A2, c2, rfl, hown, hb1, hf⟩
    go_wp2_with (at_builtin; refine wpList_app rfl (.tmp 18) (.tmp 19) 30 9 rfl 5 i0 _ 1 1 Try.underlying30 hi0 hz0 hz1 hz2 rfl (by omega) A2 _ c2 (bc (vb s.size)) rfl hown (.string s) s.size (bc (sb s)) rfl (Src.ofString _ Try.underlying9 s) (by simp only [maxLen]; omega) (by omega) ?_; intro A3 k3 w3 hown3 hk3 hf3)
    have hl3 : (vb s.size).length + s.size = (tb s).length := by unfold tb; rw [List.length_append, sb_len]
    have hb3 : Below w.heap.size w w3 := hb1.trans (hk3.below hb1.size hf)
    rw [← bc_append, show vb s.size ++ sb s = tb s from rfl, hl3] at hown3
    rw [hl3]
    refine (put_any b W A c (tb s) _ _ _ _ (h.below hb3) (Reads.of_own hown3) (by omega)).mono ?_
    rintro e w' ⟨rfl, hq⟩
    go_wp2
    go_end0
    exact PutW.left ⟨rfl, hq⟩ hb3
set_option maxHeartbeats 1000000 in
theorem vtext_any (b : Nat) (W : Wr) (A : Option Addr) (c : Nat) (s : ByteArray) (w : World) (h : IsV w b W A c) (hl : W.xs.length + s.size + 10 ≤ 1099511627776) :
    Calls Try.prog 35 #[.pointer (some ⟨b, 0, none⟩), .string s] w (PutV w b A (W.text s)) := by
  obtain ⟨i0, hi0, hz0, hz1, hz2⟩ := info_parts Try.info5
  have hn : s.size < 18446744073709551616 := by omega
  have hv := vb_len64 hn
  have hb := h.blk
  have c1 := hb.cell 0
  have f2 := hb.frozen 2
  have c2 := hb.cell 2
  simp only [List.getElem?_toArray, List.getElem?_cons_zero, List.getElem?_cons_succ] at c1 c2
  have hp := h.pos
  have ht := h.top
  by_cases hg : W.most < s.size
  · have hW : W.text s = { W with over := true } := by unfold Wr.text; rw [if_pos hg]
    rw [hW]
    go_enter Try.func35, Try.ntmps35
    go_wp2
    refine bodyPost_ret (results_none rfl _ _ _) rfl ?_
    refine ⟨rfl, A, c, ⟨hb.set_ 2 _, ?_, hp, ht⟩, ⟨(Kept.refl _ _).setCell _ (.inl (by simp)), fun k hk => .inl hk⟩⟩
    exact own_far h.row (fun g hg he => by subst he; exact own_blk_ne h.row hb (by decide) hg) _
  · have hW : W.text s = W.put (tb s) := by unfold Wr.text; rw [if_neg hg]
    rw [hW]
    have H := Lib.hid hW
    clear hW
    go_enter Try.func35, Try.ntmps35
    go_wp2_with fail
    refine (varint_any s.size _ hn).mono ?_
    rintro e w1 ⟨A2, c2, rfl, hown, hb1, hf⟩
    go_wp2_with (at_builtin; refine wpList_app rfl (.tmp 18) (.tmp 19) 30 9 rfl 5 i0 _ 1 1 Try.underlying30 hi0 hz0 hz1 hz2 rfl (by omega) A2 _ c2 (bc (vb s.size)) rfl hown (.string s) s.size (bc (sb s)) rfl (Src.ofString _ Try.underlying9 s) (by simp only [maxLen]; omega) (by omega) ?_; intro A3 k3 w3 hown3 hk3 hf3)
    have hl3 : (vb s.size).length + s.size = (tb s).length := by unfold tb; rw [List.length_append, sb_len]
    have hb3 : Below w.heap.size w w3 := hb1.trans (hk3.below hb1.size hf)
    rw [← bc_append, show vb s.size ++ sb s = tb s from rfl, hl3] at hown3
    rw [hl3]
    refine (raw_any b W A c (tb s) _ _ _ _ (h.below hb3) (Reads.of_own hown3) (by omega)).mono ?_
    rintro e w' ⟨rfl, hq⟩
    go_wp2
    go_end0
    exact PutV.left ⟨rfl, hq⟩ hb3
set_option maxHeartbeats 1000000 in
theorem wraw_any (b : Nat) (W : Wr) (A : Option Addr) (c : Nat) (ys : List UInt8) (A' : Option Addr) (c' B : Nat) (w : World) (h : IsW w b W A c) (hr : Reads w B 1 A' ys.length (bc ys)) (hl : W.xs.length + ys.length ≤ 1099511627776) :
    Calls Try.prog 36 #[.pointer (some ⟨b, 0, none⟩), .slice A' ys.length c'] w (PutW w b A (W.put ys)) := by
  go_enter Try.func36, Try.ntmps36
  go_wp2_with fail
  refine (put_any b W A c ys _ _ _ _ h hr hl).mono ?_
  rintro e w' ⟨rfl, hq⟩
  go_wp2
  go_end0
  exact ⟨rfl, hq⟩
set_option maxHeartbeats 1000000 in
theorem len_any (b : Nat) (W : Wr) (A : Option Addr) (c : Nat) (w : World) (h : IsW w b W A c) :
    Calls Try.prog 38 #[.pointer (some ⟨b, 0, none⟩)] w fun e w' => e = .returned (.int .i64 W.xs.length) ∧ w = w' := by
  have c0 := h.blk.cell 0
  simp only [List.getElem?_toArray, List.getElem?_cons_zero] at c0
  go_enter Try.func38, Try.ntmps38
  go_wp2
  go_ret
  exact ⟨rfl, rfl⟩

/-- what a writer tells -/
def Wr.out (W : Wr) : List UInt8 := if W.over then [] else W.xs
def Wr.err (W : Wr) : Int := if W.over then 9 else 0
/-- a new slice of bytes and a number are told -/
def Told (w : World) (ys : List UInt8) (r : Int) (e : Ending) (w' : World) : Prop :=
  ∃ A c, e = .returned (.tuple #[.slice A ys.length c, .int .i64 r]) ∧ w'.ownsRow 0 5 1 (.slice A ys.length c) ys.length (bc ys) ∧ Below w.heap.size w w' ∧ (∀ k ∈ ob A, w.heap.size ≤ k)
set_option maxHeartbeats 1000000 in
theorem wbytes_any (b : Nat) (W : Wr) (A : Option Addr) (c : Nat) (w : World) (h : IsW w b W A c) (hl : W.xs.length ≤ 1099511627776) :
    Calls Try.prog 10 #[.pointer (some ⟨b, 0, none⟩)] w (Told w W.out W.err) := by
  obtain ⟨i0, hi0, hz0, hz1, hz2⟩ := info_parts Try.info5
  have c0 := h.blk.cell 0
  have c2 := h.blk.cell 2
  simp only [List.getElem?_toArray, List.getElem?_cons_zero, List.getElem?_cons_succ] at c0 c2
  by_cases ho : W.over = true
  · rw [ho] at c2
    have h1 : W.out = [] := by unfold Wr.out; rw [if_pos ho]
    have h2 : W.err = 9 := by unfold Wr.err; rw [if_pos ho]
    rw [h1, h2]
    clear h1 h2
    go_enter Try.func10, Try.ntmps10
    go_wp2
    go_ret2
    exact ⟨none, 0, rfl, World.ownsRow_nil _ _ _ _, Below.refl _ _, by simp [ob]⟩
  · have ho' : W.over = false := by simpa using ho
    rw [ho'] at c2
    have h1 : W.out = W.xs := by unfold Wr.out; rw [if_neg ho]
    have h2 : W.err = 0 := by unfold Wr.err; rw [if_neg ho]
    rw [h1, h2]
    clear h1 h2
    have ca : ∀ o, (w.alloc o).cell? ⟨b, 0, none⟩ = some (.slice A W.xs.length c) := fun o => ((h.blk.alloc o).cell 0).trans (by simp)
    have hr : Reads w w.heap.size 1 A W.xs.length (bc W.xs) := Reads.of_own h.row
    go_enter Try.func10, Try.ntmps10
    go_wp2_with (at_builtin; refine wpList_app rfl (.tmp 8) (.tmp 12) 30 30 rfl 5 i0 _ 1 1 Try.underlying30 hi0 hz0 hz1 hz2 rfl (by omega) (some ⟨w.heap.size, 0, none⟩) 0 0 [] rfl (World.ownsRow_made w #[] 0 (Nat.zero_le _) (by simp [maxLen]) rfl) _ W.xs.length (bc W.xs) rfl (Src.ofReads Try.underlying30 (hr.alloc (Nat.le_refl _) _) (bc_one _)) (by simp only [maxLen]; omega) (by omega) ?_; intro A1 k1 w1 hown1 hk1 hf1)
    go_ret2
    rw [Nat.zero_add, List.nil_append] at hown1
    refine ⟨A1, k1, rfl, hown1, (below_alloc w _).trans (hk1.below (B := w.heap.size) (by simp) (by simp [ob])), fun k hk => ?_⟩
    have := hf1 k hk
    simp [ob] at this
    omega
set_option maxHeartbeats 1000000 in
theorem vbytes_any (b : Nat) (W : Wr) (A : Option Addr) (c : Nat) (w : World) (h : IsV w b W A c) (hl : W.xs.length ≤ 1099511627776) :
    Calls Try.prog 11 #[.pointer (some ⟨b, 0, none⟩)] w (Told w W.out W.err) := by
  obtain ⟨i0, hi0, hz0, hz1, hz2⟩ := info_parts Try.info5
  have c0 := h.blk.cell 1
  have c2 := h.blk.cell 2
  simp only [List.getElem?_toArray, List.getElem?_cons_zero, List.getElem?_cons_succ] at c0 c2
  by_cases ho : W.over = true
  · rw [ho] at c2
    have h1 : W.out = [] := by unfold Wr.out; rw [if_pos ho]
    have h2 : W.err = 9 := by unfold Wr.err; rw [if_pos ho]
    rw [h1, h2]
    clear h1 h2
    go_enter Try.func11, Try.ntmps11
    go_wp2
    go_ret2
    exact ⟨none, 0, rfl, World.ownsRow_nil _ _ _ _, Below.refl _ _, by simp [ob]⟩
  · have ho' : W.over = false := by simpa using ho
    rw [ho'] at c2
    have h1 : W.out = W.xs := by unfold Wr.out; rw [if_neg ho]
    have h2 : W.err = 0 := by unfold Wr.err; rw [if_neg ho]
    rw [h1, h2]
    clear h1 h2
    have ca : ∀ o, (w.alloc o).cell? ⟨b, 1, none⟩ = some (.slice A W.xs.length c) := fun o => ((h.blk.alloc o).cell 1).trans (by simp)
    have hr : Reads w w.heap.size 1 A W.xs.length (bc W.xs) := Reads.of_own h.row
    go_enter Try.func11, Try.ntmps11
    go_wp2_with (at_builtin; refine wpList_app rfl (.tmp 8) (.tmp 12) 30 30 rfl 5 i0 _ 1 1 Try.underlying30 hi0 hz0 hz1 hz2 rfl (by omega) (some ⟨w.heap.size, 0, none⟩) 0 0 [] rfl (World.ownsRow_made w #[] 0 (Nat.zero_le _) (by simp [maxLen]) rfl) _ W.xs.length (bc W.xs) rfl (Src.ofReads Try.underlying30 (hr.alloc (Nat.le_refl _) _) (bc_one _)) (by simp only [maxLen]; omega) (by omega) ?_; intro A1 k1 w1 hown1 hk1 hf1)
    go_ret2
    rw [Nat.zero_add, List.nil_append] at hown1
    refine ⟨A1, k1, rfl, hown1, (below_alloc w _).trans (hk1.below (B := w.heap.size) (by simp) (by simp [ob])), fun k hk => ?_⟩
    have := hf1 k hk
    simp [ob] at this
    omega

/-- two slices of bytes, held against each other -/
theorem foldl_bytes (xs : List UInt8) : (xs.map fun b => (b.toNat : Int)).foldl (fun (r : ByteArray) n => r.push (UInt8.ofNat n.toNat)) ByteArray.empty = ⟨xs.toArray⟩ := by
  rw [foldl_push_bytes]
  have h : (xs.map fun b => (b.toNat : Int)).map (fun n => UInt8.ofNat n.toNat) = xs := by
    rw [List.map_map]
    conv => rhs; rw [← List.map_id xs]
    apply List.map_congr_left
    intro b _
    simp
  rw [h]
  simp [ByteArray.empty, ByteArray.emptyWithCapacity]
  rfl
theorem run_conv (A : Option Addr) (n c B : Nat) (xs : List UInt8) (w : World) (hr : Reads w B 1 A n (bc xs)) :
    (convert 30 9 (.slice A n c)).run Try.prog w = .ok (.string ⟨xs.toArray⟩) w := by
  have hn : xs.length = n := by have := hr.1; rw [bc_len] at this; omega
  rcases A with _ | ad
  · have h0 : n = 0 := by
      rcases Nat.eq_zero_or_pos n with h0 | h0
      · exact h0
      · obtain ⟨ad, h, _⟩ := hr.2 h0
        cases h
    subst h0
    obtain rfl : xs = [] := List.eq_nil_of_length_eq_zero hn
    exact run_convert_bytes_nil (P := Try.prog) w 30 5 Try.underlying30 Try.underlying5 0 c 9 Try.underlying9
  · have hl : (loadCells ad n).run Try.prog w = .ok ((xs.map fun b => (b.toNat : Int)).map (Value.int .u8)).toArray w := by
      have h := run_loadCells_list (P := Try.prog) w ad (bc xs) (fun j v hj => by
        have hjn : 0 < n := by
          have := (List.getElem?_eq_some_iff.1 hj).1
          rw [bc_len] at this
          omega
        obtain ⟨ad', h, _, hc⟩ := hr.2 hjn
        injection h with h
        subst h
        exact hc j v hj)
      rw [bc_len, hn] at h
      rw [h]
      simp [bc, Function.comp_def]
    rw [run_convert_bytes_string (P := Try.prog) w 30 9 5 (some ad) n c Try.underlying30 Try.underlying5 Try.underlying9, run_bytesToString w ad n c _ hl, foldl_bytes]
theorem beq_dec (xs ys : List UInt8) : (xs == ys) = decide (xs = ys) := by rw [Bool.eq_iff_iff]; simp
set_option maxHeartbeats 1000000 in
theorem same_any (A A' : Option Addr) (n n' c c' B B' : Nat) (xs ys : List UInt8) (w : World) (h1 : Reads w B 1 A n (bc xs)) (h2 : Reads w B' 1 A' n' (bc ys)) :
    Calls Try.prog 12 #[.slice A n c, .slice A' n' c'] w fun e w' => e = .returned (.bool (decide (xs = ys))) ∧ w = w' := by
  have r1 := run_conv A n c B xs w h1
  have r2 := run_conv A' n' c' B' ys w h2
  go_enter Try.func12, Try.ntmps12
  go_wp2
  go_ret
  exact ⟨ret_bool (beq_dec xs ys), rfl⟩

/-- a new writer -/
def Wr.new (m : Int) : Wr := ⟨max 0 m, [], false⟩
def NewW (w : World) (m : Int) (e : Ending) (w' : World) : Prop := e = .returned (.pointer (some ⟨w.heap.size, 0, none⟩)) ∧ w' = w.alloc (.cells #[.slice none 0 0, .int .i64 (max 0 m), .bool false] 63)
def NewV (w : World) (m : Int) (e : Ending) (w' : World) : Prop := e = .returned (.pointer (some ⟨w.heap.size, 0, none⟩)) ∧ w' = w.alloc (.cells #[.int .i64 (max 0 m), .slice none 0 0, .bool false] 65)
set_option maxHeartbeats 1000000 in
theorem new_any (m : Int) (w : World) : Calls Try.prog 7 #[.int .i64 m] w (NewW w m) := by
  by_cases h : 0 ≤ m
  · have e : Hid (max 0 m = m) := by unfold Hid; omega
    go_enter Try.func7, Try.ntmps7
    go_wp2
    all_goals (go_ret; refine ⟨rfl, ?_⟩; rw [e.out] <;> (obtain rfl : m = 0 := (by omega); rfl))
  · have e : Hid (max 0 m = 0) := by unfold Hid; omega
    go_enter Try.func7, Try.ntmps7
    go_wp2
    all_goals (go_ret; refine ⟨rfl, ?_⟩; rw [e.out] <;> (obtain rfl : m = 0 := (by omega); rfl))
set_option maxHeartbeats 1000000 in
theorem vnew_any (m : Int) (w : World) : Calls Try.prog 8 #[.int .i64 m] w (NewV w m) := by
  by_cases h : 0 ≤ m
  · have e : Hid (max 0 m = m) := by unfold Hid; omega
    go_enter Try.func8, Try.ntmps8
    go_wp2
    all_goals (go_ret; refine ⟨rfl, ?_⟩; rw [e.out] <;> (obtain rfl : m = 0 := (by omega); rfl))
  · have e : Hid (max 0 m = 0) := by unfold Hid; omega
    go_enter Try.func8, Try.ntmps8
    go_wp2
    all_goals (go_ret; refine ⟨rfl, ?_⟩; rw [e.out] <;> (obtain rfl : m = 0 := (by omega); rfl))
theorem NewW.isW {w w' : World} {m : Int} {e : Ending} (h : NewW w m e w') (hm : m ≤ 9223372036854775807) : IsW w' w.heap.size (Wr.new m) none 0 := by
  rw [h.2]
  refine ⟨Blk.new w 63 _, World.ownsRow_nil _ _ _ _, ?_, ?_⟩ <;> (unfold Wr.new; simp; try omega)
theorem NewV.isV {w w' : World} {m : Int} {e : Ending} (h : NewV w m e w') (hm : m ≤ 9223372036854775807) : IsV w' w.heap.size (Wr.new m) none 0 := by
  rw [h.2]
  refine ⟨Blk.new w 65 _, World.ownsRow_nil _ _ _ _, ?_, ?_⟩ <;> (unfold Wr.new; simp; try omega)
end Go.Proofs.Ytidiohmpmjhbaaa
