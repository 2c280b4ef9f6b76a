/- The law's own put: a call of both writers leaves both alike. -/
import Derived.Test.YtidiohmpmjhbaaaBwB
namespace Go.Proofs.Ytidiohmpmjhbaaa
open Go.RowKit

/-- the program's and the reference's writer, alike, in memory of their own from B on -/
structure Pair (w : World) (B bw : Nat) (A : Option Addr) (c : Nat) (bv : Nat) (A' : Option Addr) (c' : Nat) (W : Wr) : Prop where
  isW : IsW w bw W A c
  isV : IsV w bv W A' c'
  dis : ∀ k ∈ bw :: ob A, k ∉ bv :: ob A'
  low : ∀ k ∈ bw :: ob A, B ≤ k
  low' : ∀ k ∈ bv :: ob A', B ≤ k

def foot (bw : Nat) (A : Option Addr) (bv : Nat) (A' : Option Addr) : List Nat := (bw :: ob A) ++ (bv :: ob A')

section
variable {w w1 w2 : World} {B bw c bv c' c1 c1' : Nat} {A A' A1 A1' : Option Addr} {W W1 : Wr}
theorem Pair.lt (h : Pair w B bw A c bv A' c' W) : ∀ k ∈ foot bw A bv A', k < w.heap.size := by
  intro k hk
  rcases List.mem_append.1 hk with hk | hk
  · exact h.isW.lt k hk
  · exact h.isV.lt k hk
theorem Pair.ge (h : Pair w B bw A c bv A' c' W) : ∀ k ∈ foot bw A bv A', B ≤ k := by
  intro k hk
  rcases List.mem_append.1 hk with hk | hk
  · exact h.low k hk
  · exact h.low' k hk
theorem Pair.le (h : Pair w B bw A c bv A' c' W) : B ≤ w.heap.size := by
  have h1 := h.isW.lt bw (by simp)
  have h2 := h.low bw (by simp)
  omega
theorem Pair.kept {S : List Nat} (h : Pair w B bw A c bv A' c' W) (hk : Kept S w w1) (hd : ∀ k ∈ foot bw A bv A', k ∉ S) : Pair w1 B bw A c bv A' c' W :=
  ⟨h.isW.kept hk (fun k hm => hd k (List.mem_append_left _ hm)), h.isV.kept hk (fun k hm => hd k (List.mem_append_right _ hm)), h.dis, h.low, h.low'⟩
theorem Pair.below (h : Pair w B bw A c bv A' c' W) (hb : Below w.heap.size w w1) : Pair w1 B bw A c bv A' c' W := h.kept (S := []) (Kept.of_below hb) (by simp)
theorem Pair.mid (h : Pair w B bw A c bv A' c' W) (hm : Moves (bw :: ob A) (bw :: ob A1) w w1) : IsV w1 bv W A' c' :=
  h.isV.kept hm.kept (fun k hk hk' => h.dis k hk' hk)
theorem Pair.done (h : Pair w B bw A c bv A' c' W) (h1 : IsW w1 bw W1 A1 c1) (hm : Moves (bw :: ob A) (bw :: ob A1) w w1) (h2 : IsV w2 bv W1 A1' c1') (hm2 : Moves (bv :: ob A') (bv :: ob A1') w1 w2) :
    Pair w2 B bw A1 c1 bv A1' c1' W1 ∧ Moves (foot bw A bv A') (foot bw A1 bv A1') w w2 := by
  have hB := h.le
  have d1 : ∀ k ∈ bv :: ob A', k ∉ bw :: ob A1 := hm.apart h.isV.lt (fun k hk hk' => h.dis k hk' hk)
  have d2 : ∀ k ∈ bw :: ob A1, k ∉ bv :: ob A1' := hm2.apart h1.lt (fun k hk hk' => d1 k hk' hk)
  refine ⟨⟨h1.kept hm2.kept (fun k hk hk' => d1 k hk' hk), h2, d2, fun k hk => ?_, fun k hk => ?_⟩, ⟨?_, ?_⟩⟩
  · rcases hm.foot k hk with hk | hk
    · exact h.low k hk
    · omega
  · rcases hm2.foot k hk with hk | hk
    · exact h.low' k hk
    · have := hm.kept.size
      omega
  · exact (hm.kept.mono (fun x hx => List.mem_append_left _ hx)).trans hm2.kept (fun x hx => .inl (List.mem_append_right _ hx))
  · intro k hk
    rcases List.mem_append.1 hk with hk | hk
    · exact (hm.foot k hk).imp (fun h => List.mem_append_left _ h) id
    · exact (hm2.foot k hk).imp (fun h => List.mem_append_right _ h) (fun h => Nat.le_trans hm.kept.size h)
end

/-- a call -/
structure OpD where
  kind : Int
  n : Nat
  i : Int
  s : ByteArray
  b : List UInt8
  two : Bool
def Wr.step (W : Wr) (o : OpD) : Wr :=
  if o.kind = 0 then W.put [UInt8.ofNat (o.n % 256)] else if o.kind = 1 then W.put (vb o.n) else if o.kind = 2 then W.put (vb (zig o.i)) else if o.kind = 3 then W.text o.s else if o.kind = 4 then W.put o.b else W
/-- a call's cells -/
def opCells (o : OpD) (Ab : Option Addr) (cb : Nat) : Array Value := #[.int .i64 o.kind, .int .u64 o.n, .int .i64 o.i, .string o.s, .slice Ab o.b.length cb, .bool o.two]
structure OpD.Fine (o : OpD) (w : World) (B : Nat) (Ab : Option Addr) : Prop where
  n : o.n < 18446744073709551616
  i1 : -9223372036854775808 ≤ o.i
  i2 : o.i ≤ 9223372036854775807
  b : Reads w B 1 Ab o.b.length (bc o.b)
def OpD.size (o : OpD) : Nat := o.s.size + o.b.length + 20

/-- what put leaves -/
def PutBoth (w : World) (B bw : Nat) (A : Option Addr) (bv : Nat) (A' : Option Addr) (W1 : Wr) (e : Ending) (w' : World) : Prop :=
  e = .returned (.bool true) ∧ ∃ A1 c1 A1' c1', Pair w' B bw A1 c1 bv A1' c1' W1 ∧ Moves (foot bw A bv A') (foot bw A1 bv A1') w w'

section
variable {w w1 w2 : World} {B bw c bv c' c1 c1' : Nat} {A A' A1 A1' : Option Addr} {W W1 : Wr}
/-- the last test: Len against the reference's own bytes -/
theorem Pair.cells (h : Pair w B bw A c bv A' c' W) : w.cell? ⟨bv, 1, none⟩ = some (.slice A' W.xs.length c') := by
  have := h.isV.blk.cell 1
  simpa using this
end

theorem Pair.told {w w0 w2 : World} {B bw bv c1 c1' nq : Nat} {A A' A1 A1' : Option Addr} {W1 : Wr} (hP : Pair w2 B bw A1 c1 bv A1' c1' W1) (hM : Moves (foot bw A bv A') (foot bw A1 bv A1') w0 w2) (hb : Below w.heap.size w w0) :
    PutBoth w B bw A bv A' W1 (.returned (.bool true)) (w2.drewN nq) :=
  ⟨rfl, A1, c1, A1', c1', hP.kept (S := []) ((Kept.refl _ _).drewN _) (by simp), (Moves.below_left hb hM).kept_right ((Kept.refl _ _).drewN _)⟩

set_option maxHeartbeats 2000000 in
set_option maxRecDepth 100000 in
theorem put_0 (bw c bv c' B : Nat) (A A' Ab : Option Addr) (cb : Nat) (W : Wr) (o : OpD) (w : World) (h : Pair w B bw A c bv A' c' W) (ho : o.Fine w B Ab) (hl : W.xs.length + o.size ≤ 1099511627776) (hk : o.kind = 0) :
    Calls Try.prog 9 #[.pointer (some ⟨bw, 0, none⟩), .pointer (some ⟨bv, 0, none⟩), .agg (opCells o Ab cb)] w (PutBoth w B bw A bv A' (W.step o)) := by
  have hW : W.step o = W.put [UInt8.ofNat (o.n % 256)] := by unfold Wr.step; rw [if_pos hk]
  rw [hW]
  clear hW
  unfold OpD.size at hl
  obtain ⟨kd, n, i, s, bs, two⟩ := o
  obtain ⟨hn, hi1, hi2, hb⟩ := ho
  simp only at hk hn hi1 hi2 hb hl
  subst hk
  simp only [opCells]
  have hbel := below_alloc w (.cells #[.int .i64 0, .int .u64 n, .int .i64 i, .string s, .slice Ab bs.length cb, .bool two] 32)
  have h0 := h.below hbel
  have hop := Blk.new w 32 #[.int .i64 0, .int .u64 n, .int .i64 i, .string s, .slice Ab bs.length cb, .bool two]
  have hne1 : w.heap.size ∉ bw :: ob A := fun hm => by have := h.isW.lt _ hm; omega
  have e8 : ((n : Int) % 256) = ((n % 256 : Nat) : Int) := by omega
  have E8 := Lib.hid e8
  clear e8
  go_enter Try.func9, Try.ntmps9
  go_wp2_with fail
  rw [E8.out]
  refine (byte_any bw W A c (n % 256) _ h0.isW (by omega) (by omega)).mono ?_
  rintro e w1 ⟨rfl, A1, c1, hW1, hm1⟩
  have hop1 := hm1.kept.blk hop hne1
  have x1 := hop1.cell 1
  simp only [List.getElem?_toArray, List.getElem?_cons_zero, List.getElem?_cons_succ] at x1
  go_wp2_with fail
  rw [E8.out]
  refine (vbyte_any bv W A' c' (n % 256) _ (h0.mid hm1) (by omega) (by omega)).mono ?_
  rintro e w2 ⟨rfl, A1', c1', hV1, hm2⟩
  obtain ⟨hP, hM⟩ := h0.done hW1 hm1 hV1 hm2
  have hc := hP.cells
  have hlen := hP.isW
  go_wp2_with fail
  go_quiet ((go_at_call 38; refine quiet_mine (len_any _ _ _ _ _ (hlen.kept (S := []) ((Kept.refl _ _).drewN _) (by simp)))))
  go_wp2
  go_ret
  exact hP.told hM hbel

set_option maxHeartbeats 2000000 in
set_option maxRecDepth 100000 in
theorem put_1 (bw c bv c' B : Nat) (A A' Ab : Option Addr) (cb : Nat) (W : Wr) (o : OpD) (w : World) (h : Pair w B bw A c bv A' c' W) (ho : o.Fine w B Ab) (hl : W.xs.length + o.size ≤ 1099511627776) (hk : o.kind = 1) :
    Calls Try.prog 9 #[.pointer (some ⟨bw, 0, none⟩), .pointer (some ⟨bv, 0, none⟩), .agg (opCells o Ab cb)] w (PutBoth w B bw A bv A' (W.step o)) := by
  have hW : W.step o = W.put (vb o.n) := by unfold Wr.step; rw [if_neg (by omega)]; rw [if_pos hk]
  rw [hW]
  clear hW
  unfold OpD.size at hl
  obtain ⟨kd, n, i, s, bs, two⟩ := o
  obtain ⟨hn, hi1, hi2, hb⟩ := ho
  simp only at hk hn hi1 hi2 hb hl
  subst hk
  simp only [opCells]
  have hbel := below_alloc w (.cells #[.int .i64 1, .int .u64 n, .int .i64 i, .string s, .slice Ab bs.length cb, .bool two] 32)
  have h0 := h.below hbel
  have hop := Blk.new w 32 #[.int .i64 1, .int .u64 n, .int .i64 i, .string s, .slice Ab bs.length cb, .bool two]
  have hne1 : w.heap.size ∉ bw :: ob A := fun hm => by have := h.isW.lt _ hm; omega
  go_enter Try.func9, Try.ntmps9
  go_wp2_with fail
  refine (wuint_any bw W A c n _ h0.isW hn (by omega)).mono ?_
  rintro e w1 ⟨rfl, A1, c1, hW1, hm1⟩
  have hop1 := hm1.kept.blk hop hne1
  have x1 := hop1.cell 1
  simp only [List.getElem?_toArray, List.getElem?_cons_zero, List.getElem?_cons_succ] at x1
  go_wp2_with fail
  refine (vuint_any bv W A' c' n _ (h0.mid hm1) hn (by omega)).mono ?_
  rintro e w2 ⟨rfl, A1', c1', hV1, hm2⟩
  obtain ⟨hP, hM⟩ := h0.done hW1 hm1 hV1 hm2
  have hc := hP.cells
  have hlen := hP.isW
  go_wp2_with fail
  go_quiet ((go_at_call 38; refine quiet_mine (len_any _ _ _ _ _ (hlen.kept (S := []) ((Kept.refl _ _).drewN _) (by simp)))))
  go_wp2
  go_ret
  exact hP.told hM hbel

set_option maxHeartbeats 2000000 in
set_option maxRecDepth 100000 in
theorem put_2 (bw c bv c' B : Nat) (A A' Ab : Option Addr) (cb : Nat) (W : Wr) (o : OpD) (w : World) (h : Pair w B bw A c bv A' c' W) (ho : o.Fine w B Ab) (hl : W.xs.length + o.size ≤ 1099511627776) (hk : o.kind = 2) :
    Calls Try.prog 9 #[.pointer (some ⟨bw, 0, none⟩), .pointer (some ⟨bv, 0, none⟩), .agg (opCells o Ab cb)] w (PutBoth w B bw A bv A' (W.step o)) := by
  have hW : W.step o = W.put (vb (zig o.i)) := by unfold Wr.step; rw [if_neg (by omega)]; rw [if_neg (by omega)]; rw [if_pos hk]
  rw [hW]
  clear hW
  unfold OpD.size at hl
  obtain ⟨kd, n, i, s, bs, two⟩ := o
  obtain ⟨hn, hi1, hi2, hb⟩ := ho
  simp only at hk hn hi1 hi2 hb hl
  subst hk
  simp only [opCells]
  have hbel := below_alloc w (.cells #[.int .i64 2, .int .u64 n, .int .i64 i, .string s, .slice Ab bs.length cb, .bool two] 32)
  have h0 := h.below hbel
  have hop := Blk.new w 32 #[.int .i64 2, .int .u64 n, .int .i64 i, .string s, .slice Ab bs.length cb, .bool two]
  have hne1 : w.heap.size ∉ bw :: ob A := fun hm => by have := h.isW.lt _ hm; omega
  go_enter Try.func9, Try.ntmps9
  go_wp2_with fail
  refine (wint_any bw W A c i _ h0.isW hi1 hi2 (by omega)).mono ?_
  rintro e w1 ⟨rfl, A1, c1, hW1, hm1⟩
  have hop1 := hm1.kept.blk hop hne1
  have x1 := hop1.cell 2
  simp only [List.getElem?_toArray, List.getElem?_cons_zero, List.getElem?_cons_succ] at x1
  go_wp2_with fail
  refine (vint_any bv W A' c' i _ (h0.mid hm1) hi1 hi2 (by omega)).mono ?_
  rintro e w2 ⟨rfl, A1', c1', hV1, hm2⟩
  obtain ⟨hP, hM⟩ := h0.done hW1 hm1 hV1 hm2
  have hc := hP.cells
  have hlen := hP.isW
  go_wp2_with fail
  go_quiet ((go_at_call 38; refine quiet_mine (len_any _ _ _ _ _ (hlen.kept (S := []) ((Kept.refl _ _).drewN _) (by simp)))))
  go_wp2
  go_ret
  exact hP.told hM hbel

set_option maxHeartbeats 2000000 in
set_option maxRecDepth 100000 in
theorem put_3 (bw c bv c' B : Nat) (A A' Ab : Option Addr) (cb : Nat) (W : Wr) (o : OpD) (w : World) (h : Pair w B bw A c bv A' c' W) (ho : o.Fine w B Ab) (hl : W.xs.length + o.size ≤ 1099511627776) (hk : o.kind = 3) :
    Calls Try.prog 9 #[.pointer (some ⟨bw, 0, none⟩), .pointer (some ⟨bv, 0, none⟩), .agg (opCells o Ab cb)] w (PutBoth w B bw A bv A' (W.step o)) := by
  have hW : W.step o = W.text o.s := by unfold Wr.step; rw [if_neg (by omega)]; rw [if_neg (by omega)]; rw [if_neg (by omega)]; rw [if_pos hk]
  rw [hW]
  clear hW
  unfold OpD.size at hl
  obtain ⟨kd, n, i, s, bs, two⟩ := o
  obtain ⟨hn, hi1, hi2, hb⟩ := ho
  simp only at hk hn hi1 hi2 hb hl
  subst hk
  simp only [opCells]
  have hbel := below_alloc w (.cells #[.int .i64 3, .int .u64 n, .int .i64 i, .string s, .slice Ab bs.length cb, .bool two] 32)
  have h0 := h.below hbel
  have hop := Blk.new w 32 #[.int .i64 3, .int .u64 n, .int .i64 i, .string s, .slice Ab bs.length cb, .bool two]
  have hne1 : w.heap.size ∉ bw :: ob A := fun hm => by have := h.isW.lt _ hm; omega
  go_enter Try.func9, Try.ntmps9
  go_wp2_with fail
  refine (wtext_any bw W A c s _ h0.isW (by omega)).mono ?_
  rintro e w1 ⟨rfl, A1, c1, hW1, hm1⟩
  have hop1 := hm1.kept.blk hop hne1
  have x1 := hop1.cell 3
  simp only [List.getElem?_toArray, List.getElem?_cons_zero, List.getElem?_cons_succ] at x1
  go_wp2_with fail
  refine (vtext_any bv W A' c' s _ (h0.mid hm1) (by omega)).mono ?_
  rintro e w2 ⟨rfl, A1', c1', hV1, hm2⟩
  obtain ⟨hP, hM⟩ := h0.done hW1 hm1 hV1 hm2
  have hc := hP.cells
  have hlen := hP.isW
  go_wp2_with fail
  go_quiet ((go_at_call 38; refine quiet_mine (len_any _ _ _ _ _ (hlen.kept (S := []) ((Kept.refl _ _).drewN _) (by simp)))))
  go_wp2
  go_ret
  exact hP.told hM hbel

end Go.Proofs.Ytidiohmpmjhbaaa
