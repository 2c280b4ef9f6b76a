/- BufWrites: the walk of the law. -/
import Derived.Test.YtidiohmpmjhbaaaBwD
import Derived.StillTailTactics
namespace Go.Proofs.Ytidiohmpmjhbaaa
open Go.RowKit

theorem Wr.put_len (W : Wr) (ys : List UInt8) : (W.put ys).xs.length ≤ W.xs.length + ys.length := by
  unfold Wr.put
  split
  · omega
  · split
    · simp
    · simp
theorem vb_pos (n : Nat) : 1 ≤ (vb n).length := by rw [vb]; split <;> simp
theorem Wr.step_len (W : Wr) (o : OpD) (hn : o.n < 18446744073709551616) (h1 : -9223372036854775808 ≤ o.i) (h2 : o.i ≤ 9223372036854775807) (hs : o.s.size < 18446744073709551616) : (W.step o).xs.length ≤ W.xs.length + o.size := by
  have a1 := vb_len64 hn
  have a2 := vb_len64 (zig_lt h1 h2)
  have a3 := vb_len64 hs
  unfold OpD.size Wr.step
  split
  · have := W.put_len [UInt8.ofNat (o.n % 256)]
    simp at this
    omega
  · split
    · have := W.put_len (vb o.n)
      omega
    · split
      · have := W.put_len (vb (zig o.i))
        omega
      · split
        · unfold Wr.text
          split
          · simp
          · have := W.put_len (tb o.s)
            have e : (tb o.s).length = (vb o.s.size).length + o.s.size := by unfold tb; rw [List.length_append, sb_len]
            omega
        · split
          · have := W.put_len o.b
            omega
          · omega

/-- two writers in turns -/
def turn (s : Wr × Wr) (o : OpD) : Wr × Wr := if o.two then (s.1, s.2.step o) else (s.1.step o, s.2)
def turns (s : Wr × Wr) (l : List OpD) : Wr × Wr := l.foldl turn s
theorem turns_snoc (s : Wr × Wr) (l : List OpD) (o : OpD) : turns s (l ++ [o]) = turn (turns s l) o := by simp [turns]

theorem turns_len (l : List OpD) : ∀ s : Wr × Wr, (∀ o ∈ l, o.n < 18446744073709551616 ∧ -9223372036854775808 ≤ o.i ∧ o.i ≤ 9223372036854775807 ∧ o.s.size < 18446744073709551616) →
    (turns s l).1.xs.length ≤ s.1.xs.length + (l.map OpD.size).sum ∧ (turns s l).2.xs.length ≤ s.2.xs.length + (l.map OpD.size).sum := by
  induction l with
  | nil => intro s _; simp [turns]
  | cons o l ih =>
    intro s h
    have h1 := ih (turn s o) (fun x hx => h x (List.mem_cons_of_mem _ hx))
    obtain ⟨q1, q2, q3, q4⟩ := h o (by simp)
    have e1 := Wr.step_len s.1 o q1 q2 q3 q4
    have e2 := Wr.step_len s.2 o q1 q2 q3 q4
    have e3 : turns s (o :: l) = turns (turn s o) l := rfl
    rw [e3, List.map_cons, List.sum_cons]
    unfold turn at h1 ⊢
    split at h1 <;> rename_i ht <;> simp only [ht, if_true, if_false, Bool.false_eq_true] at h1 ⊢ <;> omega
/-- calls, in memory -/
def OpsAt (w : World) (B : Nat) (A : Option Addr) (n : Nat) (ops : List OpD) : Prop :=
  ops.length = n ∧ (0 < n → ∃ b off, A = some ⟨b, off, none⟩ ∧ b < B ∧ ∀ i o, ops[i]? = some o → ∃ Ab cb, o.Fine w B Ab ∧ ∀ j v, (opCells o Ab cb)[j]? = some v → w.cell? ⟨b, off + i * 6 + j, none⟩ = some v)
theorem OpsAt.below {w w' : World} {B : Nat} {A : Option Addr} {n : Nat} {ops : List OpD} (h : OpsAt w B A n ops) (hb : Below B w w') : OpsAt w' B A n ops := by
  refine ⟨h.1, fun hn => ?_⟩
  obtain ⟨b, off, e, hlt, hc⟩ := h.2 hn
  refine ⟨b, off, e, hlt, fun i o ho => ?_⟩
  obtain ⟨Ab, cb, hf, hcell⟩ := hc i o ho
  exact ⟨Ab, cb, ⟨hf.n, hf.i1, hf.i2, hf.b.below hb⟩, fun j v hv => (hb.cell (p := ⟨b, off + i * 6 + j, none⟩) hlt).trans (hcell j v hv)⟩

/-- the law's two pairs of writers and their arrays, wherever they are in their turns -/
structure Both (w0 w : World) (b1 b2 a1 v1 v2 a2 : Nat) (A1 : Option Addr) (c1 : Nat) (A1' : Option Addr) (c1' : Nat) (A2 : Option Addr) (c2 : Nat) (A2' : Option Addr) (c2' : Nat) (s : Wr × Wr) : Prop where
  p1 : Pair w w0.heap.size b1 A1 c1 v1 A1' c1' s.1
  p2 : Pair w w0.heap.size b2 A2 c2 v2 A2' c2' s.2
  dis : ∀ k ∈ foot b1 A1 v1 A1', k ∉ foot b2 A2 v2 A2'
  x1 : Blk w a1 25 #[.pointer (some ⟨b1, 0, none⟩), .pointer (some ⟨b2, 0, none⟩)]
  x2 : Blk w a2 28 #[.pointer (some ⟨v1, 0, none⟩), .pointer (some ⟨v2, 0, none⟩)]
  below : Below w0.heap.size w0 w
theorem Pair.ne_blk {w : World} {B bw c bv c' g : Nat} {A A' : Option Addr} {W : Wr} {t : TypeId} {cs : Array Value} (h : Pair w B bw A c bv A' c' W) (hg : Blk w g t cs) (h63 : t ≠ 63) (h65 : t ≠ 65) (h5 : t ≠ 5) : g ∉ foot bw A bv A' := by
  intro hm
  rcases List.mem_append.1 hm with hm | hm
  · rcases List.mem_cons.1 hm with rfl | hm
    · exact hg.ne_ h.isW.blk h63 rfl
    · exact own_ne h.isW.row hg (fun e => h5 e.symm) hm
  · rcases List.mem_cons.1 hm with rfl | hm
    · exact hg.ne_ h.isV.blk h65 rfl
    · exact own_ne h.isV.row hg (fun e => h5 e.symm) hm
def InTurns (w0 w : World) (b1 b2 a1 v1 v2 a2 : Nat) (s : Wr × Wr) : Prop := ∃ A1 c1 A1' c1' A2 c2 A2' c2', Both w0 w b1 b2 a1 v1 v2 a2 A1 c1 A1' c1' A2 c2 A2' c2' s
section
variable {w0 w w' : World} {b1 b2 a1 v1 v2 a2 c1 c1' c2 c2' : Nat} {A1 A1' A2 A2' : Option Addr} {s : Wr × Wr} {W : Wr} {e : Ending}
theorem Both.first (h : Both w0 w b1 b2 a1 v1 v2 a2 A1 c1 A1' c1' A2 c2 A2' c2' s) (hp : PutBoth w w0.heap.size b1 A1 v1 A1' W e w') : e = .returned (.bool true) ∧ InTurns w0 w' b1 b2 a1 v1 v2 a2 (W, s.2) := by
  obtain ⟨he, A3, c3, A3', c3', hP, hM⟩ := hp
  refine ⟨he, A3, c3, A3', c3', A2, c2, A2', c2', hP, h.p2.kept hM.kept (fun k hk hk' => h.dis k hk' hk), ?_, hM.kept.blk h.x1 (h.p1.ne_blk h.x1 (by decide) (by decide) (by decide)), hM.kept.blk h.x2 (h.p1.ne_blk h.x2 (by decide) (by decide) (by decide)), h.below.trans (hM.below h.below.size h.p1.ge)⟩
  exact fun k hk hk' => hM.apart h.p2.lt (fun k hk hk' => h.dis k hk' hk) k hk' hk
theorem Both.second (h : Both w0 w b1 b2 a1 v1 v2 a2 A1 c1 A1' c1' A2 c2 A2' c2' s) (hp : PutBoth w w0.heap.size b2 A2 v2 A2' W e w') : e = .returned (.bool true) ∧ InTurns w0 w' b1 b2 a1 v1 v2 a2 (s.1, W) := by
  obtain ⟨he, A3, c3, A3', c3', hP, hM⟩ := hp
  refine ⟨he, A1, c1, A1', c1', A3, c3, A3', c3', h.p1.kept hM.kept (fun k hk hk' => h.dis k hk hk'), hP, ?_, hM.kept.blk h.x1 (h.p2.ne_blk h.x1 (by decide) (by decide) (by decide)), hM.kept.blk h.x2 (h.p2.ne_blk h.x2 (by decide) (by decide) (by decide)), h.below.trans (hM.below h.below.size h.p2.ge)⟩
  exact hM.apart h.p1.lt (fun k hk hk' => h.dis k hk hk')
theorem Both.drewN (h : Both w0 w b1 b2 a1 v1 v2 a2 A1 c1 A1' c1' A2 c2 A2' c2' s) (n : Nat) : Both w0 (w.drewN n) b1 b2 a1 v1 v2 a2 A1 c1 A1' c1' A2 c2 A2' c2' s :=
  ⟨h.p1.kept (S := []) ((Kept.refl _ _).drewN _) (by simp), h.p2.kept (S := []) ((Kept.refl _ _).drewN _) (by simp), h.dis, h.x1, h.x2, ⟨h.below.os, h.below.tape, h.below.output, h.below.size, h.below.block⟩⟩
theorem Both.later (h : Both w0 w b1 b2 a1 v1 v2 a2 A1 c1 A1' c1' A2 c2 A2' c2' s) (hb : Below w.heap.size w w') : Both w0 w' b1 b2 a1 v1 v2 a2 A1 c1 A1' c1' A2 c2 A2' c2' s :=
  ⟨h.p1.below hb, h.p2.below hb, h.dis, h.x1.below hb h.x1.lt, h.x2.below hb h.x2.lt, h.below.trans (hb.mono h.below.size)⟩
end

/-- the law's own memory ahead of its loop: two writers of the program's (h, h + 1), their array (h + 2), two of the reference's (h + 3, h + 4), their array (h + 5) -/
def start (w : World) (m1 m2 : Int) : World :=
  (((((w.alloc (.cells #[.slice none 0 0, .int .i64 (max 0 m1), .bool false] 63)).alloc (.cells #[.slice none 0 0, .int .i64 (max 0 m2), .bool false] 63)).alloc
    (.cells #[.pointer (some ⟨w.heap.size, 0, none⟩), .pointer (some ⟨w.heap.size + 1, 0, none⟩)] 25)).alloc (.cells #[.int .i64 (max 0 m1), .slice none 0 0, .bool false] 65)).alloc
    (.cells #[.int .i64 (max 0 m2), .slice none 0 0, .bool false] 65)).alloc (.cells #[.pointer (some ⟨w.heap.size + 1 + 1 + 1, 0, none⟩), .pointer (some ⟨w.heap.size + 1 + 1 + 1 + 1, 0, none⟩)] 28)
theorem start_pair {w : World} {h b b' : Nat} {m : Int} (h1 : Blk w b 63 #[.slice none 0 0, .int .i64 (max 0 m), .bool false]) (h2 : Blk w b' 65 #[.int .i64 (max 0 m), .slice none 0 0, .bool false]) (hm : m ≤ 9223372036854775807) (hb : h ≤ b) (hb' : h ≤ b') :
    Pair w h b none 0 b' none 0 (Wr.new m) := by
  have hp : 0 ≤ (Wr.new m).most := by unfold Wr.new; simp; omega
  have ht : (Wr.new m).most ≤ 9223372036854775807 := by unfold Wr.new; simp; omega
  refine ⟨⟨h1, World.ownsRow_nil _ _ _ _, hp, ht⟩, ⟨h2, World.ownsRow_nil _ _ _ _, hp, ht⟩, ?_, by simpa [ob] using hb, by simpa [ob] using hb'⟩
  intro k hk hk'
  simp [ob] at hk hk'
  subst hk
  subst hk'
  exact h1.ne_ h2 (by decide) rfl
theorem blk_new' {w : World} {g : Nat} {t : TypeId} {cs : Array Value} (h : g = w.heap.size) : Blk (w.alloc (.cells cs t)) g t cs := by subst h; exact Blk.new w t cs
theorem started (w : World) (m1 m2 : Int) (hm1 : m1 ≤ 9223372036854775807) (hm2 : m2 ≤ 9223372036854775807) :
    Both w (start w m1 m2) w.heap.size (w.heap.size + 1) (w.heap.size + 1 + 1) (w.heap.size + 1 + 1 + 1) (w.heap.size + 1 + 1 + 1 + 1) (w.heap.size + 1 + 1 + 1 + 1 + 1) none 0 none 0 none 0 none 0 (Wr.new m1, Wr.new m2) := by
  unfold start
  refine ⟨start_pair (((((((blk_new' rfl).alloc _).alloc _).alloc _).alloc _).alloc _)) ((((blk_new' (by simp)).alloc _).alloc _)) hm1 (by omega) (by omega), start_pair ((((((blk_new' (by simp)).alloc _).alloc _).alloc _).alloc _)) (((blk_new' (by simp)).alloc _)) hm2 (by omega) (by omega), ?_, (((((blk_new' (by simp)).alloc _).alloc _).alloc _)), blk_new' (by simp), ?_⟩
  · intro k hk hk'
    simp [foot, ob] at hk hk'
    omega
  · exact ((((((Below.refl _ _).alloc (Nat.le_refl _) _).alloc (by simp) _).alloc (by simp; omega) _).alloc (by simp; omega) _).alloc (by simp; omega) _).alloc (by simp; omega) _

theorem le_sum {l : List OpD} {o : OpD} (h : o ∈ l) : o.s.size + o.b.length + 20 ≤ (l.map OpD.size).sum := by
  induction l with
  | nil => cases h
  | cons x r ih =>
    rw [List.map_cons, List.sum_cons]
    rcases List.mem_cons.1 h with rfl | h
    · unfold OpD.size
      omega
    · have := ih h
      omega
theorem OpsAt.sizes {w : World} {B : Nat} {A : Option Addr} {n : Nat} {ops : List OpD} (h : OpsAt w B A n ops) (hsum : (ops.map OpD.size).sum ≤ 1099511627776) (m1 m2 : Int) (k : Nat) (hk : k < ops.length) :
    (turns (Wr.new m1, Wr.new m2) (ops.take k)).1.xs.length + ops[k].size ≤ 1099511627776 ∧ (turns (Wr.new m1, Wr.new m2) (ops.take k)).2.xs.length + ops[k].size ≤ 1099511627776 := by
  have hfine : ∀ o ∈ ops.take k, o.n < 18446744073709551616 ∧ -9223372036854775808 ≤ o.i ∧ o.i ≤ 9223372036854775807 ∧ o.s.size < 18446744073709551616 := by
    intro o ho
    have ho' := List.mem_of_mem_take ho
    obtain ⟨i, hi⟩ := List.mem_iff_getElem?.1 ho'
    obtain ⟨b, off, _, _, hc⟩ := h.2 (by have := h.1; omega)
    obtain ⟨Ab, cb, hf, _⟩ := hc i o hi
    have := le_sum ho'
    exact ⟨hf.n, hf.i1, hf.i2, by omega⟩
  have h1 := turns_len (ops.take k) (Wr.new m1, Wr.new m2) hfine
  have h2 : ((ops.take (k + 1)).map OpD.size).sum ≤ (ops.map OpD.size).sum := by
    conv => rhs; rw [← List.take_append_drop (k + 1) ops, List.map_append, List.sum_append]
    omega
  rw [List.take_succ_eq_append_getElem hk, List.map_append, List.sum_append] at h2
  simp only [List.map_cons, List.map_nil, List.sum_cons, List.sum_nil] at h2
  have e1 : (Wr.new m1).xs.length = 0 := rfl
  have e2 : (Wr.new m2).xs.length = 0 := rfl
  simp only [e1, e2] at h1
  omega
theorem OpsAt.total {w : World} {B : Nat} {A : Option Addr} {n : Nat} {ops : List OpD} (h : OpsAt w B A n ops) (hsum : (ops.map OpD.size).sum ≤ 1099511627776) (m1 m2 : Int) :
    (turns (Wr.new m1, Wr.new m2) ops).1.xs.length ≤ 1099511627776 ∧ (turns (Wr.new m1, Wr.new m2) ops).2.xs.length ≤ 1099511627776 := by
  have hfine : ∀ o ∈ ops, o.n < 18446744073709551616 ∧ -9223372036854775808 ≤ o.i ∧ o.i ≤ 9223372036854775807 ∧ o.s.size < 18446744073709551616 := by
    intro o ho'
    obtain ⟨i, hi⟩ := List.mem_iff_getElem?.1 ho'
    obtain ⟨b, off, _, _, hc⟩ := h.2 (by
      have := h.1
      have := (List.getElem?_eq_some_iff.1 hi).1
      omega)
    obtain ⟨Ab, cb, hf, _⟩ := hc i o hi
    have := le_sum ho'
    exact ⟨hf.n, hf.i1, hf.i2, by omega⟩
  have h1 := turns_len ops (Wr.new m1, Wr.new m2) hfine
  have e1 : (Wr.new m1).xs.length = 0 := rfl
  have e2 : (Wr.new m2).xs.length = 0 := rfl
  simp only [e1, e2] at h1
  omega
theorem out_len (W : Wr) : W.out.length ≤ W.xs.length := by unfold Wr.out; split <;> simp
theorem InTurns.later {w0 w w' : World} {b1 b2 a1 v1 v2 a2 : Nat} {s : Wr × Wr} (h : InTurns w0 w b1 b2 a1 v1 v2 a2 s) (hb : Below w.heap.size w w') : InTurns w0 w' b1 b2 a1 v1 v2 a2 s := by
  obtain ⟨A1, c1, A1', c1', A2, c2, A2', c2', hB⟩ := h
  exact ⟨_, _, _, _, _, _, _, _, hB.later hb⟩

set_option maxHeartbeats 2000000 in
set_option maxRecDepth 100000 in
theorem writes_any (m1 m2 : Int) (A : Option Addr) (n c : Nat) (ops : List OpD) (w : World) (hm1 : m1 ≤ 9223372036854775807) (hm2 : m2 ≤ 9223372036854775807) (hops : OpsAt w w.heap.size A n ops) (hn : n ≤ 140737488351232)
    (hsum : (ops.map OpD.size).sum ≤ 1099511627776) :
    Calls Try.prog 3 #[.int .i64 m1, .int .i64 m2, .slice A n c] w fun e w' => e = .returned (.bool true) ∧ Below w.heap.size w w' := by
  have H := started w m1 m2 hm1 hm2
  unfold start at H
  go_enter Try.func3, Try.ntmps3
  go_wp2_with fail
  refine (new_any m1 _).mono ?_
  rintro e w1 ⟨rfl, rfl⟩
  go_wp2_with fail
  refine (new_any m2 _).mono ?_
  rintro e w2 ⟨rfl, rfl⟩
  go_wp2_with fail
  refine (vnew_any m1 _).mono ?_
  rintro e w3 ⟨rfl, rfl⟩
  go_wp2_with fail
  refine (vnew_any m2 _).mono ?_
  rintro e w4 ⟨rfl, rfl⟩
  go_wp2_with fail
  obtain ⟨w6, hw6⟩ : ∃ w6, w6 = start w m1 m2 := ⟨_, rfl⟩
  unfold start at hw6
  rw [← hw6] at H ⊢
  clear hw6
  generalize w.heap.size + 1 + 1 + 1 + 1 + 1 = a2 at *
  generalize w.heap.size + 1 + 1 + 1 + 1 = v2 at *
  generalize w.heap.size + 1 + 1 + 1 = v1 at *
  generalize w.heap.size + 1 + 1 = a1 at *
  generalize w.heap.size + 1 = b2 at *
  go_loopw [9] (fun i wr => ∃ k : Nat, i = .int .i64 k ∧ k ≤ n ∧ InTurns w wr w.heap.size b2 a1 v1 v2 a2 (turns (Wr.new m1, Wr.new m2) (ops.take k))) (fun i _ => n - (intOf i).toNat)
  case atStart => exact ⟨0, rfl, Nat.zero_le _, _, _, _, _, _, _, _, _, H⟩
  case round =>
    obtain ⟨k, rfl, hk, A1, c1, A1', c1', A2, c2, A2', c2', hB⟩ := hrel
    by_cases hlt : k < n
    · have hkl : k < ops.length := by have := hops.1; omega
      obtain ⟨b, off, rfl, hbl, hcs⟩ := (hops.below hB.below).2 (by omega)
      obtain ⟨o, ho⟩ : ∃ o, ops[k] = o := ⟨_, rfl⟩
      obtain ⟨Ab, cb, hf, hcell⟩ := hcs k o (by rw [List.getElem?_eq_getElem hkl, ho])
      have y0 : wr.cell? ⟨b, off + k * 6, none⟩ = some (.int .i64 o.kind) := hcell 0 _ rfl
      have y1 : wr.cell? ⟨b, off + k * 6 + 1, none⟩ = some (.int .u64 o.n) := hcell 1 _ rfl
      have y2 : wr.cell? ⟨b, off + k * 6 + 2, none⟩ = some (.int .i64 o.i) := hcell 2 _ rfl
      have y3 : wr.cell? ⟨b, off + k * 6 + 3, none⟩ = some (.string o.s) := hcell 3 _ rfl
      have y4 : wr.cell? ⟨b, off + k * 6 + 4, none⟩ = some (.slice Ab o.b.length cb) := hcell 4 _ rfl
      have y5 : wr.cell? ⟨b, off + k * 6 + 5, none⟩ = some (.bool o.two) := hcell 5 _ rfl
      have z1 := hB.x1.cell 0
      have z2 := hB.x1.cell 1
      have z3 := hB.x2.cell 0
      have z4 := hB.x2.cell 1
      simp only [List.getElem?_toArray, List.getElem?_cons_zero, List.getElem?_cons_succ] at z1 z2 z3 z4
      clear hcell hcs
      have hBd := hB.drewN 1
      have hfd : o.Fine (wr.drewN 1) w.heap.size Ab := ⟨hf.n, hf.i1, hf.i2, hf.b.drewN 1⟩
      have hsz : (turns (Wr.new m1, Wr.new m2) (ops.take k)).1.xs.length + o.size ≤ 1099511627776 ∧ (turns (Wr.new m1, Wr.new m2) (ops.take k)).2.xs.length + o.size ≤ 1099511627776 := by rw [← ho]; exact hops.sizes hsum m1 m2 k hkl
      have hnext : turns (Wr.new m1, Wr.new m2) (ops.take (k + 1)) = turn (turns (Wr.new m1, Wr.new m2) (ops.take k)) o := by
        rw [List.take_succ_eq_append_getElem hkl, turns_snoc, ho]
      have Hn := Lib.hid hnext
      clear hnext ho hops
      generalize turns (Wr.new m1, Wr.new m2) (ops.take k) = s at *
      by_cases ht : o.two = true
      · rw [ht] at y5
        go_wp2
        go_still_tail 10, (by kernel_rfl)
        change wpList _ _ _ _ _ (wr.drewN 1)
        generalize wr.drewN 1 = wd at *
        go_wp2_with fail
        have HC := put_any_op b2 c2 v2 c2' _ A2 A2' Ab cb s.2 o wd hBd.p2 hfd hsz.2
        unfold opCells at HC
        rw [ht] at HC
        refine HC.mono ?_
        clear HC
        intro e w' hq
        obtain ⟨rfl, hT⟩ := hBd.second hq
        go_wp2
        go_roundw
        case rel =>
          have hT' : InTurns w w' w.heap.size b2 a1 v1 v2 a2 (turns (Wr.new m1, Wr.new m2) (ops.take (k + 1))) := by rw [Hn.out]; unfold turn; rw [if_pos ht]; exact hT
          first | exact ⟨k + 1, by go_num, by omega, hT'⟩ | ((repeat apply Exists.intro); refine ⟨?_, rfl⟩; exact ⟨k + 1, by go_num, by omega, hT'⟩)
        case measure => simp [intOf]; omega
      · have ht' : o.two = false := by simpa using ht
        rw [ht'] at y5
        go_wp2
        go_still_tail 10, (by kernel_rfl)
        change wpList _ _ _ _ _ (wr.drewN 1)
        generalize wr.drewN 1 = wd at *
        go_wp2_with fail
        have HC := put_any_op w.heap.size c1 v1 c1' _ A1 A1' Ab cb s.1 o wd hBd.p1 hfd hsz.1
        unfold opCells at HC
        rw [ht'] at HC
        refine HC.mono ?_
        clear HC
        intro e w' hq
        obtain ⟨rfl, hT⟩ := hBd.first hq
        go_wp2
        go_roundw
        case rel =>
          have hT' : InTurns w w' w.heap.size b2 a1 v1 v2 a2 (turns (Wr.new m1, Wr.new m2) (ops.take (k + 1))) := by rw [Hn.out]; unfold turn; rw [if_neg ht]; exact hT
          first | exact ⟨k + 1, by go_num, by omega, hT'⟩ | ((repeat apply Exists.intro); refine ⟨?_, rfl⟩; exact ⟨k + 1, by go_num, by omega, hT'⟩)
        case measure => simp [intOf]; omega
    · have hk' : k = n := by omega
      have hT : InTurns w wr w.heap.size b2 a1 v1 v2 a2 (turns (Wr.new m1, Wr.new m2) ops) := by
        have e : ops.take k = ops := List.take_of_length_le (by have := hops.1; omega)
        rw [e] at hB
        exact ⟨_, _, _, _, _, _, _, _, hB⟩
      obtain ⟨hs1, hs2⟩ := hops.total hsum m1 m2
      clear hB hk' hops hsum
      generalize turns (Wr.new m1, Wr.new m2) ops = s at *
      go_wp2
      obtain ⟨wo, rfl⟩ : ∃ wo : World, wo = wr := ⟨_, rfl⟩
      go_loopw [11] (fun i wr => ∃ k : Nat, i = .int .i64 k ∧ k ≤ 2 ∧ InTurns w wr w.heap.size b2 a1 v1 v2 a2 s) (fun i _ => 2 - (intOf i).toNat)
      case atStart => exact ⟨0, rfl, by omega, hT⟩
      case round =>
        obtain ⟨k, rfl, hk, A1, c1, A1', c1', A2, c2, A2', c2', hB⟩ := hrel
        have z1 := hB.x1.cell 0
        have z2 := hB.x1.cell 1
        have z3 := hB.x2.cell 0
        have z4 := hB.x2.cell 1
        simp only [List.getElem?_toArray, List.getElem?_cons_zero, List.getElem?_cons_succ] at z1 z2 z3 z4
        by_cases h0 : k = 0
        · subst h0
          have ho := out_len s.1
          have he : (s.1.err != s.1.err) = false := by simp
          go_wp2_with fail
          refine (wbytes_any _ s.1 A1 c1 _ hB.p1.isW (by omega)).mono ?_
          rintro e w1 ⟨Aa, ca, rfl, hownA, hb1, hfA⟩
          have hB1 := hB.later hb1
          have z5 := hB1.x2.cell 0
          simp only [List.getElem?_toArray, List.getElem?_cons_zero] at z5
          go_wp2_with fail
          refine (vbytes_any _ s.1 A1' c1' _ hB1.p1.isV (by omega)).mono ?_
          rintro e w2 ⟨Ab2, cb2, rfl, hownB, hb2, hfB⟩
          have hownA2 := (Kept.of_below (S := []) hb2).own hownA (by simp)
          have hT2 : InTurns w w2 w.heap.size b2 a1 v1 v2 a2 s := ⟨_, _, _, _, _, _, _, _, hB1.later hb2⟩
          go_wp2_with (go_at_call 12; refine (same_yes _ _ _ _ _ _ _ _ s.1.out _ (Reads.of_own hownA2) (Reads.of_own hownB)).mono ?_; rintro e w' ⟨rfl, rfl⟩)
          go_roundw
          case rel => first | exact ⟨1, by go_num, by omega, hT2⟩ | ((repeat apply Exists.intro); refine ⟨?_, rfl⟩; exact ⟨1, by go_num, by omega, hT2⟩)
          case measure => simp [intOf]
        · by_cases h1 : k = 1
          · subst h1
            have ho := out_len s.2
            have he : (s.2.err != s.2.err) = false := by simp
            go_wp2_with fail
            refine (wbytes_any _ s.2 A2 c2 _ hB.p2.isW (by omega)).mono ?_
            rintro e w1 ⟨Aa, ca, rfl, hownA, hb1, hfA⟩
            have hB1 := hB.later hb1
            have z5 := hB1.x2.cell 1
            simp only [List.getElem?_toArray, List.getElem?_cons_zero, List.getElem?_cons_succ] at z5
            go_wp2_with fail
            refine (vbytes_any _ s.2 A2' c2' _ hB1.p2.isV (by omega)).mono ?_
            rintro e w2 ⟨Ab2, cb2, rfl, hownB, hb2, hfB⟩
            have hownA2 := (Kept.of_below (S := []) hb2).own hownA (by simp)
            have hT2 : InTurns w w2 w.heap.size b2 a1 v1 v2 a2 s := ⟨_, _, _, _, _, _, _, _, hB1.later hb2⟩
            go_wp2_with (go_at_call 12; refine (same_yes _ _ _ _ _ _ _ _ s.2.out _ (Reads.of_own hownA2) (Reads.of_own hownB)).mono ?_; rintro e w' ⟨rfl, rfl⟩)
            go_roundw
            case rel => first | exact ⟨2, by go_num, by omega, hT2⟩ | ((repeat apply Exists.intro); refine ⟨?_, rfl⟩; exact ⟨2, by go_num, by omega, hT2⟩)
            case measure => simp [intOf]
          · obtain rfl : k = 2 := by omega
            have hT2 : InTurns w wr w.heap.size b2 a1 v1 v2 a2 s := ⟨_, _, _, _, _, _, _, _, hB⟩
            have hbel := hB.below
            go_wp2
            go_ret
            exact ⟨rfl, hbel⟩
end Go.Proofs.Ytidiohmpmjhbaaa
