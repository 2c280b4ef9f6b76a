/- The readers of layer 1: the law's own take. (printed by gen_brh.py) -/
import Derived.Test.YtidiohmpmjhbaaaBrG
import Derived.Test.YtidiohmpmjhbaaaBwE
namespace Go.Proofs.Ytidiohmpmjhbaaa
open Go.RowKit

/-- the program's reader br and the reference's bq, alike, with rows of their own, above B -/
structure Twin (w : World) (B br : Nat) (A : Option Addr) (c bq : Nat) (A' : Option Addr) (c' : Nat) (R : Rd) : Prop where
  isR : IsR w br R A c
  isQ : IsQ w bq R A' c'
  dis : ∀ k ∈ br :: ob A, k ∉ bq :: ob A'
  low : ∀ k ∈ br :: ob A, B ≤ k
  low' : ∀ k ∈ bq :: ob A', B ≤ k
section
variable {w w' : World} {B br bq c c' : Nat} {A A' : Option Addr} {R R1 : Rd}
theorem Twin.kept {S : List Nat} (h : Twin w B br A c bq A' c' R) (hk : Kept S w w') (hd : ∀ k ∈ br :: ob A, k ∉ S) (hd' : ∀ k ∈ bq :: ob A', k ∉ S) : Twin w' B br A c bq A' c' R :=
  ⟨h.isR.kept hk hd, h.isQ.kept hk hd', h.dis, h.low, h.low'⟩
theorem Twin.below (h : Twin w B br A c bq A' c' R) (hb : Below w.heap.size w w') : Twin w' B br A c bq A' c' R := h.kept (S := []) (Kept.of_below hb) (by simp) (by simp)
theorem Twin.drewN (h : Twin w B br A c bq A' c' R) (n : Nat) : Twin (w.drewN n) B br A c bq A' c' R := h.kept (S := []) ((Kept.refl _ _).drewN _) (by simp) (by simp)
theorem Twin.ne (h : Twin w B br A c bq A' c' R) : br ≠ bq := fun e => h.dis br (by simp) (by simp [e])
/-- the program's reader has gone on -/
theorem Twin.mid (h : Twin w B br A c bq A' c' R) (hk : Kept [br] w w') : IsQ w' bq R A' c' := h.isQ.kept hk (fun k hk hm => by
  simp at hm
  rw [hm] at hk
  exact h.dis br (by simp) hk)
/-- and the reference's behind it -/
theorem Twin.done {w1 : World} (h : Twin w B br A c bq A' c' R) (hR : IsR w1 br R1 A c) (hQ : IsQ w' bq R1 A' c') (hk : Kept [bq] w1 w') : Twin w' B br A c bq A' c' R1 :=
  ⟨hR.kept hk (fun k hk hm => by
    simp at hm
    rw [hm] at hk
    exact h.dis bq hk (by simp)), hQ, h.dis, h.low, h.low'⟩
theorem kept_two {w1 : World} (hk : Kept [br] w w1) (hk' : Kept [bq] w1 w') : Kept [br, bq] w w' := (hk.mono (by simp)).trans hk' (fun x hx => .inl (by simp at hx; simp [hx]))
end
/-- what take leaves -/
def TakeEnds (w : World) (B br : Nat) (A : Option Addr) (c bq : Nat) (A' : Option Addr) (c' : Nat) (R1 : Rd) (e : Ending) (w' : World) : Prop :=
  e = .returned (.bool true) ∧ Twin w' B br A c bq A' c' R1 ∧ Kept [br, bq] w w'
theorem TakeEnds.left {w w1 w' : World} {B br bq c c' : Nat} {A A' : Option Addr} {R1 : Rd} {e : Ending} (h : TakeEnds w1 B br A c bq A' c' R1 e w') (hb : Below w.heap.size w w1) : TakeEnds w B br A c bq A' c' R1 e w' :=
  ⟨h.1, h.2.1, (Kept.of_below hb).trans h.2.2 (fun _ hx => .inl hx)⟩
theorem quiet_looks {P : Program} {f : FuncId} {args : Array Value} {w : World} {n : Nat} {v : Value}
    (h : Calls P f args (w.drewN n) (Looks (w.drewN n) v)) : Calls P f args (w.drewN n) fun e w'' => e = .returned v ∧ ∃ m, w'' = w.drewN m :=
  h.mono fun _ _ ⟨he, k, hm⟩ => ⟨he, n + k, by rw [hm]; simp⟩
theorem raw_len (R : Rd) (m : Int) : (R.raw m).1.length ≤ R.bs.length := by
  have h1 : R.rest.length ≤ R.bs.length := by rw [rest_len]; omega
  unfold Rd.raw
  split
  · simp only
    unfold rawS
    split
    · rw [List.length_take]
      omega
    · simp
  · simp
def Rd.take (R : Rd) (o : OpD) : Rd :=
  if o.kind = 0 then R.byte.2 else if o.kind = 1 then R.uint.2 else if o.kind = 2 then R.int.2 else if o.kind = 3 then (R.text o.i).2 else if o.kind = 4 then (R.raw o.i).2 else R
set_option maxHeartbeats 4000000 in
set_option maxRecDepth 100000 in
theorem take_0 (br bq B c c' : Nat) (A A' Ab : Option Addr) (cb : Nat) (R : Rd) (o : OpD) (w : World) (h : Twin w B br A c bq A' c' R) (hi1 : -9223372036854775808 ≤ o.i) (hi2 : o.i ≤ 9223372036854775807) (hkd : o.kind = 0) :
    Calls Try.prog 15 #[.pointer (some ⟨br, 0, none⟩), .pointer (some ⟨bq, 0, none⟩), .agg (opCells o Ab cb)] w (TakeEnds w B br A c bq A' c' (R.take o)) := by
  have hres : R.take o = R.byte.2 := by unfold Rd.take; rw [if_pos hkd]
  rw [hres]
  clear hres
  obtain ⟨kd, n, i, s, bs, two⟩ := o
  simp only at hkd hi1 hi2
  subst hkd
  simp only [opCells]
  have hbel := below_alloc w (.cells #[.int .i64 0, .int .u64 n, .int .i64 i, .string s, .slice Ab bs.length cb, .bool two] 32)
  have h0 := h.below hbel
  have hop := Blk.new w 32 #[.int .i64 0, .int .u64 n, .int .i64 i, .string s, .slice Ab bs.length cb, .bool two]
  have HR := Lib.hid (rbyte_any br R A c _ h0.isR)
  have HQ := Lib.hid (fun w1 => qbyte_any bq R A' c' w1)
  generalize R.byte = q at *
  obtain ⟨v, R1⟩ := q
  simp only at HR HQ
  go_enter Try.func15, Try.ntmps15
  go_wp2_with fail
  refine HR.out.mono ?_
  rintro e w1 ⟨rfl, hR1, hk1⟩
  go_wp2_with fail
  refine (HQ.out _ (h0.mid hk1)).mono ?_
  rintro e w2 ⟨rfl, hQ2, hk2⟩
  have hT := h0.done hR1 hQ2 hk2
  have z1 := hT.isQ.blk.cell 1
  have z2 := hT.isQ.blk.cell 2
  simp only [List.getElem?_toArray, List.getElem?_cons_zero, List.getElem?_cons_succ] at z1 z2
  go_wp2
  go_quiet (first | (go_at_call 28; refine quiet_mine (rat_any br R1 A c _ (hT.isR.drewN _))) | (go_at_call 20; refine quiet_mine (rerr_any br R1 A c _ (hT.isR.drewN _))) | (go_at_call 16; refine quiet_looks (rend_any br R1 A c _ (hT.isR.drewN _))) | (go_at_call 17; refine quiet_looks (qend_any bq R1 A' c' _ (hT.isQ.drewN _))))
  go_wp2
  go_ret
  exact TakeEnds.left ⟨rfl, hT.drewN _, (kept_two hk1 hk2).drewN _⟩ hbel
set_option maxHeartbeats 4000000 in
set_option maxRecDepth 100000 in
theorem take_1 (br bq B c c' : Nat) (A A' Ab : Option Addr) (cb : Nat) (R : Rd) (o : OpD) (w : World) (h : Twin w B br A c bq A' c' R) (hi1 : -9223372036854775808 ≤ o.i) (hi2 : o.i ≤ 9223372036854775807) (hkd : o.kind = 1) :
    Calls Try.prog 15 #[.pointer (some ⟨br, 0, none⟩), .pointer (some ⟨bq, 0, none⟩), .agg (opCells o Ab cb)] w (TakeEnds w B br A c bq A' c' (R.take o)) := by
  have hres : R.take o = R.uint.2 := by unfold Rd.take; rw [if_neg (by omega), if_pos hkd]
  rw [hres]
  clear hres
  obtain ⟨kd, n, i, s, bs, two⟩ := o
  simp only at hkd hi1 hi2
  subst hkd
  simp only [opCells]
  have hbel := below_alloc w (.cells #[.int .i64 1, .int .u64 n, .int .i64 i, .string s, .slice Ab bs.length cb, .bool two] 32)
  have h0 := h.below hbel
  have hop := Blk.new w 32 #[.int .i64 1, .int .u64 n, .int .i64 i, .string s, .slice Ab bs.length cb, .bool two]
  have HR := Lib.hid (ruint_any br R A c _ h0.isR)
  have HQ := Lib.hid (fun w1 => quint_any bq R A' c' w1)
  generalize R.uint = q at *
  obtain ⟨v, R1⟩ := q
  simp only at HR HQ
  go_enter Try.func15, Try.ntmps15
  go_wp2_with fail
  refine HR.out.mono ?_
  rintro e w1 ⟨rfl, hR1, hk1⟩
  go_wp2_with fail
  refine (HQ.out _ (h0.mid hk1)).mono ?_
  rintro e w2 ⟨rfl, hQ2, hk2⟩
  have hT := h0.done hR1 hQ2 hk2
  have z1 := hT.isQ.blk.cell 1
  have z2 := hT.isQ.blk.cell 2
  simp only [List.getElem?_toArray, List.getElem?_cons_zero, List.getElem?_cons_succ] at z1 z2
  go_wp2
  go_quiet (first | (go_at_call 28; refine quiet_mine (rat_any br R1 A c _ (hT.isR.drewN _))) | (go_at_call 20; refine quiet_mine (rerr_any br R1 A c _ (hT.isR.drewN _))) | (go_at_call 16; refine quiet_looks (rend_any br R1 A c _ (hT.isR.drewN _))) | (go_at_call 17; refine quiet_looks (qend_any bq R1 A' c' _ (hT.isQ.drewN _))))
  go_wp2
  go_ret
  exact TakeEnds.left ⟨rfl, hT.drewN _, (kept_two hk1 hk2).drewN _⟩ hbel
set_option maxHeartbeats 4000000 in
set_option maxRecDepth 100000 in
theorem take_2 (br bq B c c' : Nat) (A A' Ab : Option Addr) (cb : Nat) (R : Rd) (o : OpD) (w : World) (h : Twin w B br A c bq A' c' R) (hi1 : -9223372036854775808 ≤ o.i) (hi2 : o.i ≤ 9223372036854775807) (hkd : o.kind = 2) :
    Calls Try.prog 15 #[.pointer (some ⟨br, 0, none⟩), .pointer (some ⟨bq, 0, none⟩), .agg (opCells o Ab cb)] w (TakeEnds w B br A c bq A' c' (R.take o)) := by
  have hres : R.take o = R.int.2 := by unfold Rd.take; rw [if_neg (by omega), if_neg (by omega), if_pos hkd]
  rw [hres]
  clear hres
  obtain ⟨kd, n, i, s, bs, two⟩ := o
  simp only at hkd hi1 hi2
  subst hkd
  simp only [opCells]
  have hbel := below_alloc w (.cells #[.int .i64 2, .int .u64 n, .int .i64 i, .string s, .slice Ab bs.length cb, .bool two] 32)
  have h0 := h.below hbel
  have hop := Blk.new w 32 #[.int .i64 2, .int .u64 n, .int .i64 i, .string s, .slice Ab bs.length cb, .bool two]
  have HR := Lib.hid (rint_any br R A c _ h0.isR)
  have HQ := Lib.hid (fun w1 => qint_any bq R A' c' w1)
  generalize R.int = q at *
  obtain ⟨v, R1⟩ := q
  simp only at HR HQ
  go_enter Try.func15, Try.ntmps15
  go_wp2_with fail
  refine HR.out.mono ?_
  rintro e w1 ⟨rfl, hR1, hk1⟩
  go_wp2_with fail
  refine (HQ.out _ (h0.mid hk1)).mono ?_
  rintro e w2 ⟨rfl, hQ2, hk2⟩
  have hT := h0.done hR1 hQ2 hk2
  have z1 := hT.isQ.blk.cell 1
  have z2 := hT.isQ.blk.cell 2
  simp only [List.getElem?_toArray, List.getElem?_cons_zero, List.getElem?_cons_succ] at z1 z2
  go_wp2
  go_quiet (first | (go_at_call 28; refine quiet_mine (rat_any br R1 A c _ (hT.isR.drewN _))) | (go_at_call 20; refine quiet_mine (rerr_any br R1 A c _ (hT.isR.drewN _))) | (go_at_call 16; refine quiet_looks (rend_any br R1 A c _ (hT.isR.drewN _))) | (go_at_call 17; refine quiet_looks (qend_any bq R1 A' c' _ (hT.isQ.drewN _))))
  go_wp2
  go_ret
  exact TakeEnds.left ⟨rfl, hT.drewN _, (kept_two hk1 hk2).drewN _⟩ hbel
set_option maxHeartbeats 4000000 in
set_option maxRecDepth 100000 in
theorem take_3 (br bq B c c' : Nat) (A A' Ab : Option Addr) (cb : Nat) (R : Rd) (o : OpD) (w : World) (h : Twin w B br A c bq A' c' R) (hi1 : -9223372036854775808 ≤ o.i) (hi2 : o.i ≤ 9223372036854775807) (hkd : o.kind = 3) :
    Calls Try.prog 15 #[.pointer (some ⟨br, 0, none⟩), .pointer (some ⟨bq, 0, none⟩), .agg (opCells o Ab cb)] w (TakeEnds w B br A c bq A' c' (R.take o)) := by
  have hres : R.take o = (R.text o.i).2 := by unfold Rd.take; rw [if_neg (by omega), if_neg (by omega), if_neg (by omega), if_pos hkd]
  rw [hres]
  clear hres
  obtain ⟨kd, n, i, s, bs, two⟩ := o
  simp only at hkd hi1 hi2
  subst hkd
  simp only [opCells]
  have hbel := below_alloc w (.cells #[.int .i64 3, .int .u64 n, .int .i64 i, .string s, .slice Ab bs.length cb, .bool two] 32)
  have h0 := h.below hbel
  have hop := Blk.new w 32 #[.int .i64 3, .int .u64 n, .int .i64 i, .string s, .slice Ab bs.length cb, .bool two]
  have x0 := hop.cell 0
  have x2 := hop.cell 2
  simp only [List.getElem?_toArray, List.getElem?_cons_zero, List.getElem?_cons_succ] at x0 x2
  have hbl : w.heap.size < (w.alloc (.cells #[.int .i64 3, .int .u64 n, .int .i64 i, .string s, .slice Ab bs.length cb, .bool two] 32)).heap.size := by simp
  have hbr := h.isR.lt br (by simp)
  have hbq := h.isQ.lt bq (by simp)
  have hnr : w.heap.size ∉ [br] := by simp; omega
  have hnq : w.heap.size ∉ [bq] := by simp; omega
  have HR := Lib.hid (fun w1 => rtext_any br R A c i hi1 hi2 w1)
  have HQ := Lib.hid (fun w1 => qtext_any bq R A' c' i hi1 hi2 w1)
  generalize R.text i = q at *
  obtain ⟨v, R1⟩ := q
  simp only at HR HQ
  go_enter Try.func15, Try.ntmps15
  go_wp2
  generalize hw0 : w.alloc (.cells #[.int .i64 3, .int .u64 n, .int .i64 i, .string s, .slice Ab bs.length cb, .bool two] 32) = w0 at *
  have hd := h0.drewN 1
  have hkd : Kept [br, bq] w0 (w0.drewN 1) := (Kept.refl _ _).drewN _
  go_region_held3 (fun w' => w'.cell? ⟨w.heap.size, 2, none⟩ = some (.int .i64 i))
    (first | go_keep)
    (first
      | (go_at_call 26; refine (HR.out (w0.drewN 1) hd.isR).mono ?_; rintro e w1 ⟨rfl, hR1, hk1⟩; have y2 := (hk1.cell (p := ⟨w.heap.size, 2, none⟩) hbl hnr).trans x2; dsimp only)
      | (go_at_call 42; refine (HQ.out w1 (hd.mid hk1)).mono ?_; rintro e w2 ⟨rfl, hQ2, hk2⟩; have y3 := (hk2.cell (p := ⟨w.heap.size, 2, none⟩) (Nat.lt_of_lt_of_le hbl hk1.size) hnq).trans y2; dsimp only))
  have hT := hd.done hR1 hQ2 hk2
  have z1 := hT.isQ.blk.cell 1
  have z2 := hT.isQ.blk.cell 2
  simp only [List.getElem?_toArray, List.getElem?_cons_zero, List.getElem?_cons_succ] at z1 z2
  go_wp2
  go_quiet (first | (go_at_call 28; refine quiet_mine (rat_any br R1 A c _ (hT.isR.drewN _))) | (go_at_call 20; refine quiet_mine (rerr_any br R1 A c _ (hT.isR.drewN _))) | (go_at_call 16; refine quiet_looks (rend_any br R1 A c _ (hT.isR.drewN _))) | (go_at_call 17; refine quiet_looks (qend_any bq R1 A' c' _ (hT.isQ.drewN _))))
  go_wp2
  go_ret
  exact TakeEnds.left ⟨rfl, hT.drewN _, (hkd.trans (kept_two hk1 hk2) (fun _ hx => .inl hx)).drewN _⟩ hbel
set_option maxHeartbeats 4000000 in
set_option maxRecDepth 100000 in
theorem take_4 (br bq B c c' : Nat) (A A' Ab : Option Addr) (cb : Nat) (R : Rd) (o : OpD) (w : World) (h : Twin w B br A c bq A' c' R) (hi1 : -9223372036854775808 ≤ o.i) (hi2 : o.i ≤ 9223372036854775807) (hkd : o.kind = 4) :
    Calls Try.prog 15 #[.pointer (some ⟨br, 0, none⟩), .pointer (some ⟨bq, 0, none⟩), .agg (opCells o Ab cb)] w (TakeEnds w B br A c bq A' c' (R.take o)) := by
  have hres : R.take o = (R.raw o.i).2 := by unfold Rd.take; rw [if_neg (by omega), if_neg (by omega), if_neg (by omega), if_neg (by omega), if_pos hkd]
  rw [hres]
  clear hres
  obtain ⟨kd, n, i, s, bs, two⟩ := o
  simp only at hkd hi1 hi2
  subst hkd
  simp only [opCells]
  have hbel := below_alloc w (.cells #[.int .i64 4, .int .u64 n, .int .i64 i, .string s, .slice Ab bs.length cb, .bool two] 32)
  have h0 := h.below hbel
  have hop := Blk.new w 32 #[.int .i64 4, .int .u64 n, .int .i64 i, .string s, .slice Ab bs.length cb, .bool two]
  have x0 := hop.cell 0
  have x2 := hop.cell 2
  simp only [List.getElem?_toArray, List.getElem?_cons_zero, List.getElem?_cons_succ] at x0 x2
  have hbl : w.heap.size < (w.alloc (.cells #[.int .i64 4, .int .u64 n, .int .i64 i, .string s, .slice Ab bs.length cb, .bool two] 32)).heap.size := by simp
  have hbr := h.isR.lt br (by simp)
  have hbq := h.isQ.lt bq (by simp)
  have hnr : w.heap.size ∉ [br] := by simp; omega
  have hnq : w.heap.size ∉ [bq] := by simp; omega
  have HR := Lib.hid (fun w1 => rraw_any br R A c i hi1 hi2 w1)
  have HQ := Lib.hid (fun w1 => qraw_any bq R A' c' i hi1 hi2 w1)
  have hvl0 := raw_len R i
  generalize R.raw i = q at *
  obtain ⟨v, R1⟩ := q
  simp only at HR HQ hvl0
  go_enter Try.func15, Try.ntmps15
  go_wp2
  generalize hw0 : w.alloc (.cells #[.int .i64 4, .int .u64 n, .int .i64 i, .string s, .slice Ab bs.length cb, .bool two] 32) = w0 at *
  have hd := h0.drewN 1
  have hkd : Kept [br, bq] w0 (w0.drewN 1) := (Kept.refl _ _).drewN _
  go_region_held3 (fun w' => w'.cell? ⟨w.heap.size, 2, none⟩ = some (.int .i64 i))
    (first | go_keep)
    (first
      | (go_at_call 43; refine (HR.out (w0.drewN 1) hd.isR).mono ?_; rintro e w1 ⟨A1, c1, rfl, hown1, hf1, hR1, hk1⟩; have y2 := (hk1.cell (p := ⟨w.heap.size, 2, none⟩) hbl hnr).trans x2; dsimp only)
      | (go_at_call 44; refine (HQ.out w1 (hd.mid hk1)).mono ?_; rintro e w2 ⟨A2, c2, rfl, hown2, hf2, hQ2, hk2⟩; have y3 := (hk2.cell (p := ⟨w.heap.size, 2, none⟩) (Nat.lt_of_lt_of_le hbl hk1.size) hnq).trans y2; dsimp only))
  have hT2 := hd.done hR1 hQ2 hk2
  have hk12 := hkd.trans (kept_two hk1 hk2) (fun _ hx => .inl hx)
  have hown1' := hk2.own hown1 (fun g hg hm => by have := hf1 g (ownBlock_mem.1 hg); have := hd.isQ.lt bq (by simp); simp at hm; omega)
  go_wp2_with (go_at_call 12; refine (same_yes _ _ _ _ _ _ _ _ v _ (Reads.of_own hown1') (Reads.of_own hown2)).mono ?_; rintro e w' ⟨rfl, rfl⟩)
  have hvl : v.length ≤ 140737488355328 := Nat.le_trans hvl0 h.isR.top
  have hfar1 : ∀ k ∈ br :: ob A, k ∉ ob A1 := fun k hk hm => by have := hd.isR.lt k hk; have := hf1 k hm; omega
  have hfar2 : ∀ k ∈ bq :: ob A', k ∉ ob A1 := fun k hk hm => by have := hd.isQ.lt k hk; have := hf1 k hm; omega
  obtain ⟨ww, hww⟩ : ∃ ww : World, ww = w2 := ⟨_, rfl⟩
  rw [← hww] at hT2 ⊢ hown1' hk12
  clear hww y3 hQ2 hk2 hown2
  go_loopw [10] (fun i wr => ∃ (k : Nat) (zs : List Value), i = .int .i64 k ∧ k ≤ v.length ∧ wr.ownsRow 0 5 1 (.slice A1 v.length c1) v.length zs ∧ Kept (ob A1) ww wr) (fun i _ => v.length - (intOf i).toNat)
  case atStart => exact ⟨0, _, rfl, Nat.zero_le _, hown1', Kept.refl _ _⟩
  case round =>
    obtain ⟨k, zs, rfl, hk, hown, hkp⟩ := hrel
    by_cases hlt : k < v.length
    · obtain ⟨g, cap, hv, _, hg⟩ := hown.form (by omega)
      injection hv with hA _ hc
      subst hA hc
      have hz : k < zs.length := by have := hown.1; omega
      have x1 := (hown.cellAt k (by omega)).trans (List.getElem?_eq_getElem hz)
      have x2 := hown.frozenAt k
      obtain ⟨hst, _⟩ := hown.stored k (.int .u8 55)
      go_wp2
      go_roundw
      case rel => exact ⟨k + 1, _, by go_num, by omega, hst, hkp.setCell _ (.inl (by simp [ob]))⟩
      case measure => simp [intOf]; omega
    · have hge : v.length ≤ k := by omega
      have hT := hT2.kept hkp hfar1 hfar2
      have z1 := hT.isQ.blk.cell 1
      have z2 := hT.isQ.blk.cell 2
      simp only [List.getElem?_toArray, List.getElem?_cons_zero, List.getElem?_cons_succ] at z1 z2
      go_wp2
      go_quiet (first | (go_at_call 28; refine quiet_mine (rat_any br R1 A c _ (hT.isR.drewN _))) | (go_at_call 20; refine quiet_mine (rerr_any br R1 A c _ (hT.isR.drewN _))) | (go_at_call 16; refine quiet_looks (rend_any br R1 A c _ (hT.isR.drewN _))) | (go_at_call 17; refine quiet_looks (qend_any bq R1 A' c' _ (hT.isQ.drewN _))))
      go_wp2
      go_ret
      exact TakeEnds.left ⟨rfl, hT.drewN _, (hk12.trans hkp (fun x hx => .inr (hf1 x hx))).drewN _⟩ hbel
set_option maxHeartbeats 4000000 in
set_option maxRecDepth 100000 in
theorem take_5 (br bq B c c' : Nat) (A A' Ab : Option Addr) (cb : Nat) (R : Rd) (o : OpD) (w : World) (h : Twin w B br A c bq A' c' R) (hi1 : -9223372036854775808 ≤ o.i) (hi2 : o.i ≤ 9223372036854775807) (k0 : o.kind ≠ 0) (k1 : o.kind ≠ 1) (k2 : o.kind ≠ 2) (k3 : o.kind ≠ 3) (k4 : o.kind ≠ 4) :
    Calls Try.prog 15 #[.pointer (some ⟨br, 0, none⟩), .pointer (some ⟨bq, 0, none⟩), .agg (opCells o Ab cb)] w (TakeEnds w B br A c bq A' c' (R.take o)) := by
  have hres : R.take o = R := by unfold Rd.take; rw [if_neg k0, if_neg k1, if_neg k2, if_neg k3, if_neg k4]
  rw [hres]
  clear hres
  obtain ⟨kd, n, i, s, bs, two⟩ := o
  simp only at k0 k1 k2 k3 k4 hi1 hi2
  have q0 : (kd == 0) = false := beq_eq_false_iff_ne.2 k0
  have q1 : (kd == 1) = false := beq_eq_false_iff_ne.2 k1
  have q2 : (kd == 2) = false := beq_eq_false_iff_ne.2 k2
  have q3 : (kd == 3) = false := beq_eq_false_iff_ne.2 k3
  have q4 : (kd == 4) = false := beq_eq_false_iff_ne.2 k4
  clear k0 k1 k2 k3 k4
  simp only [opCells]
  have hbel := below_alloc w (.cells #[.int .i64 kd, .int .u64 n, .int .i64 i, .string s, .slice Ab bs.length cb, .bool two] 32)
  have h0 := h.below hbel
  have hop := Blk.new w 32 #[.int .i64 kd, .int .u64 n, .int .i64 i, .string s, .slice Ab bs.length cb, .bool two]
  have hT := h0
  have x0 := hop.cell 0
  simp only [List.getElem?_toArray, List.getElem?_cons_zero] at x0
  go_enter Try.func15, Try.ntmps15
  have z1 := hT.isQ.blk.cell 1
  have z2 := hT.isQ.blk.cell 2
  simp only [List.getElem?_toArray, List.getElem?_cons_zero, List.getElem?_cons_succ] at z1 z2
  go_wp2
  go_quiet (first | (go_at_call 28; refine quiet_mine (rat_any br R A c _ (hT.isR.drewN _))) | (go_at_call 20; refine quiet_mine (rerr_any br R A c _ (hT.isR.drewN _))) | (go_at_call 16; refine quiet_looks (rend_any br R A c _ (hT.isR.drewN _))) | (go_at_call 17; refine quiet_looks (qend_any bq R A' c' _ (hT.isQ.drewN _))))
  go_wp2
  go_ret
  exact TakeEnds.left ⟨rfl, hT.drewN _, (Kept.refl _ _).drewN _⟩ hbel
end Go.Proofs.Ytidiohmpmjhbaaa
