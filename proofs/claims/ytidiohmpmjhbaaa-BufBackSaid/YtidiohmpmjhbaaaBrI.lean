/- BufReads: the law's memory. -/
import Derived.Test.YtidiohmpmjhbaaaBrH
namespace Go.Proofs.Ytidiohmpmjhbaaa
open Go.RowKit

theorem take_any (br bq B c c' : Nat) (A A' Ab : Option Addr) (cb : Nat) (R : Rd) (o : OpD) (w : World) (h : Twin w B br A c bq A' c' R) (hi1 : -9223372036854775808 ≤ o.i) (hi2 : o.i ≤ 9223372036854775807) :
    Calls Try.prog 15 #[.pointer (some ⟨br, 0, none⟩), .pointer (some ⟨bq, 0, none⟩), .agg (opCells o Ab cb)] w (TakeEnds w B br A c bq A' c' (R.take o)) := by
  by_cases k0 : o.kind = 0
  · exact take_0 br bq B c c' A A' Ab cb R o w h hi1 hi2 k0
  by_cases k1 : o.kind = 1
  · exact take_1 br bq B c c' A A' Ab cb R o w h hi1 hi2 k1
  by_cases k2 : o.kind = 2
  · exact take_2 br bq B c c' A A' Ab cb R o w h hi1 hi2 k2
  by_cases k3 : o.kind = 3
  · exact take_3 br bq B c c' A A' Ab cb R o w h hi1 hi2 k3
  by_cases k4 : o.kind = 4
  · exact take_4 br bq B c c' A A' Ab cb R o w h hi1 hi2 k4
  exact take_5 br bq B c c' A A' Ab cb R o w h hi1 hi2 k0 k1 k2 k3 k4

def footR (br : Nat) (A : Option Addr) (bq : Nat) (A' : Option Addr) : List Nat := (br :: ob A) ++ (bq :: ob A')
/-- the law's two pairs of readers and their arrays, wherever they are in their turns -/
structure Duo (w0 w : World) (b1 : Nat) (A1 : Option Addr) (c1 : Nat) (q1 : Nat) (A1' : Option Addr) (c1' : Nat) (b2 : Nat) (A2 : Option Addr) (c2 : Nat) (q2 : Nat) (A2' : Option Addr) (c2' : Nat) (x1 x2 : Nat) (s : Rd × Rd) : Prop where
  p1 : Twin w w0.heap.size b1 A1 c1 q1 A1' c1' s.1
  p2 : Twin w w0.heap.size b2 A2 c2 q2 A2' c2' s.2
  dis : ∀ k ∈ footR b1 A1 q1 A1', k ∉ footR b2 A2 q2 A2'
  y1 : Blk w x1 42 #[.pointer (some ⟨b1, 0, none⟩), .pointer (some ⟨b2, 0, none⟩)]
  y2 : Blk w x2 45 #[.pointer (some ⟨q1, 0, none⟩), .pointer (some ⟨q2, 0, none⟩)]
  below : Below w0.heap.size w0 w
section
variable {w0 w w' : World} {b1 q1 b2 q2 c1 c1' c2 c2' x1 x2 : Nat} {A1 A1' A2 A2' : Option Addr} {s : Rd × Rd} {R : Rd} {e : Ending}
theorem Twin.keptPair {B c c' b q : Nat} {A A' : Option Addr} {w w' : World} {R : Rd} (h : Twin w B b A c q A' c' R) {b' q' : Nat} (hk : Kept [b', q'] w w') (hb : b' ∉ footR b A q A') (hq : q' ∉ footR b A q A') : Twin w' B b A c q A' c' R :=
  h.kept hk (fun k hk hm => by
    simp at hm
    rcases hm with h1 | h1
    · exact hb (List.mem_append_left _ (h1 ▸ hk))
    · exact hq (List.mem_append_left _ (h1 ▸ hk))) (fun k hk hm => by
    simp at hm
    rcases hm with h1 | h1
    · exact hb (List.mem_append_right _ (h1 ▸ hk))
    · exact hq (List.mem_append_right _ (h1 ▸ hk)))
theorem Duo.first (h : Duo w0 w b1 A1 c1 q1 A1' c1' b2 A2 c2 q2 A2' c2' x1 x2 s) (hp : TakeEnds w w0.heap.size b1 A1 c1 q1 A1' c1' R e w') : e = .returned (.bool true) ∧ Duo w0 w' b1 A1 c1 q1 A1' c1' b2 A2 c2 q2 A2' c2' x1 x2 (R, s.2) := by
  obtain ⟨he, hT, hk⟩ := hp
  have n1 : x1 ∉ [b1, q1] := by
    have a1 := h.y1.ne_ h.p1.isR.blk (by decide)
    have a2 := h.y1.ne_ h.p1.isQ.blk (by decide)
    simp [a1, a2]
  have n2 : x2 ∉ [b1, q1] := by
    have a1 := h.y2.ne_ h.p1.isR.blk (by decide)
    have a2 := h.y2.ne_ h.p1.isQ.blk (by decide)
    simp [a1, a2]
  refine ⟨he, hT, h.p2.keptPair hk (h.dis _ (by simp [footR])) (h.dis _ (by simp [footR])), h.dis, hk.blk h.y1 n1, hk.blk h.y2 n2, h.below.trans (hk.below h.below.size ?_)⟩
  intro x hx
  simp at hx
  rcases hx with rfl | rfl
  · exact h.p1.low _ (by simp)
  · exact h.p1.low' _ (by simp)
theorem Duo.second (h : Duo w0 w b1 A1 c1 q1 A1' c1' b2 A2 c2 q2 A2' c2' x1 x2 s) (hp : TakeEnds w w0.heap.size b2 A2 c2 q2 A2' c2' R e w') : e = .returned (.bool true) ∧ Duo w0 w' b1 A1 c1 q1 A1' c1' b2 A2 c2 q2 A2' c2' x1 x2 (s.1, R) := by
  obtain ⟨he, hT, hk⟩ := hp
  have n1 : x1 ∉ [b2, q2] := by
    have a1 := h.y1.ne_ h.p2.isR.blk (by decide)
    have a2 := h.y1.ne_ h.p2.isQ.blk (by decide)
    simp [a1, a2]
  have n2 : x2 ∉ [b2, q2] := by
    have a1 := h.y2.ne_ h.p2.isR.blk (by decide)
    have a2 := h.y2.ne_ h.p2.isQ.blk (by decide)
    simp [a1, a2]
  refine ⟨he, h.p1.keptPair hk (fun hm => h.dis _ hm (by simp [footR])) (fun hm => h.dis _ hm (by simp [footR])), hT, h.dis, hk.blk h.y1 n1, hk.blk h.y2 n2, h.below.trans (hk.below h.below.size ?_)⟩
  intro x hx
  simp at hx
  rcases hx with rfl | rfl
  · exact h.p2.low _ (by simp)
  · exact h.p2.low' _ (by simp)
theorem Duo.later (h : Duo w0 w b1 A1 c1 q1 A1' c1' b2 A2 c2 q2 A2' c2' x1 x2 s) (hb : Below w.heap.size w w') : Duo w0 w' b1 A1 c1 q1 A1' c1' b2 A2 c2 q2 A2' c2' x1 x2 s :=
  ⟨h.p1.below hb, h.p2.below hb, h.dis, h.y1.below hb h.y1.lt, h.y2.below hb h.y2.lt, h.below.trans (hb.mono h.below.size)⟩
theorem Duo.drewN (h : Duo w0 w b1 A1 c1 q1 A1' c1' b2 A2 c2 q2 A2' c2' x1 x2 s) (n : Nat) : Duo w0 (w.drewN n) b1 A1 c1 q1 A1' c1' b2 A2 c2 q2 A2' c2' x1 x2 s :=
  ⟨h.p1.drewN n, h.p2.drewN n, h.dis, h.y1, h.y2, ⟨h.below.os, h.below.tape, h.below.output, h.below.size, h.below.block⟩⟩
end
def rturn (s : Rd × Rd) (o : OpD) : Rd × Rd := if o.two then (s.1, s.2.take o) else (s.1.take o, s.2)
def rturns (s : Rd × Rd) (l : List OpD) : Rd × Rd := l.foldl rturn s
theorem rturns_snoc (s : Rd × Rd) (l : List OpD) (o : OpD) : rturns s (l ++ [o]) = rturn (rturns s l) o := by simp [rturns]

/-- behind the program's two readers and their array -/
structure Mid (w3 w6 : World) (r1 : Nat) (A1 : Option Addr) (c1 r2 : Nat) (A2 : Option Addr) (c2 x : Nat) (xs ys : List UInt8) : Prop where
  iR1 : IsR w6 r1 ⟨xs, 0, 0⟩ A1 c1
  iR2 : IsR w6 r2 ⟨ys, 0, 0⟩ A2 c2
  iX : Blk w6 x 42 #[.pointer (some ⟨r1, 0, none⟩), .pointer (some ⟨r2, 0, none⟩)]
  dis : ∀ k ∈ r1 :: ob A1, k ∉ r2 :: ob A2
  lo1 : ∀ k ∈ r1 :: ob A1, w3.heap.size ≤ k
  lo2 : ∀ k ∈ r2 :: ob A2, w3.heap.size ≤ k
  below : Below w3.heap.size w3 w6
section
variable {w3 w4 w5 : World} {r1 r2 c1 c2 x : Nat} {A1 A2 : Option Addr} {xs ys : List UInt8}
theorem mid_last (h1 : IsR w4 r1 ⟨xs, 0, 0⟩ A1 c1) (h2 : IsR w5 r2 ⟨ys, 0, 0⟩ A2 c2) (l1 : ∀ k ∈ r1 :: ob A1, w3.heap.size ≤ k) (l2 : ∀ k ∈ r2 :: ob A2, w4.heap.size ≤ k) (b4 : Below w3.heap.size w3 w4) (b5 : Below w4.heap.size w4 w5) :
    Mid w3 (w5.alloc (.cells #[.pointer (some ⟨r1, 0, none⟩), .pointer (some ⟨r2, 0, none⟩)] 42)) r1 A1 c1 r2 A2 c2 w5.heap.size xs ys := by
  have hs := b4.size
  have hs5 := b5.size
  refine ⟨(h1.below b5).below (below_alloc _ _), h2.below (below_alloc _ _), Blk.new _ _ _, fun k hk hm => ?_, l1, fun k hk => Nat.le_trans hs (l2 k hk), ?_⟩
  · have := h1.lt k hk
    have := l2 k hm
    omega
  · exact (b4.trans (b5.mono hs)).alloc (by omega) _
theorem mid_set (h1 : IsR w4 r1 ⟨xs, 0, 0⟩ A1 c1) (h2 : IsR w5 r2 ⟨ys, 0, 0⟩ A2 c2) (l1 : ∀ k ∈ r1 :: ob A1, w3.heap.size ≤ k) (l2 : ∀ k ∈ r2 :: ob A2, w4.heap.size ≤ k) (b4 : Below w3.heap.size w3 w4) (b5 : Below w4.heap.size w4 w5)
    (u : Blk w5 x 42 #[.pointer none, .pointer none]) (hx : w3.heap.size ≤ x) :
    Mid w3 ((w5.setCell ⟨x, 0, none⟩ (.pointer (some ⟨r1, 0, none⟩))).setCell ⟨x, 1, none⟩ (.pointer (some ⟨r2, 0, none⟩))) r1 A1 c1 r2 A2 c2 x xs ys := by
  have hs := b4.size
  have hs5 := b5.size
  have h1' := h1.below b5
  have hk : Kept [x] w5 ((w5.setCell ⟨x, 0, none⟩ (.pointer (some ⟨r1, 0, none⟩))).setCell ⟨x, 1, none⟩ (.pointer (some ⟨r2, 0, none⟩))) := ((Kept.refl _ _).setCell _ (.inl (by simp))).setCell _ (.inl (by simp))
  refine ⟨h1'.kept hk ?_, h2.kept hk ?_, ?_, fun k hk hm => ?_, l1, fun k hk => Nat.le_trans hs (l2 k hk), ?_⟩
  · intro k hk hm
    simp at hm
    rw [hm] at hk
    rcases List.mem_cons.1 hk with hk | hk
    · exact u.ne_ h1'.blk (by decide) hk
    · exact own_ne h1'.row u (by decide) hk
  · intro k hk hm
    simp at hm
    rw [hm] at hk
    rcases List.mem_cons.1 hk with hk | hk
    · exact u.ne_ h2.blk (by decide) hk
    · exact own_ne h2.row u (by decide) hk
  · have := (u.set_ 0 (.pointer (some ⟨r1, 0, none⟩))).set_ 1 (.pointer (some ⟨r2, 0, none⟩))
    simpa using this
  · have := h1.lt k hk
    have := l2 k hm
    omega
  · exact (b4.trans (b5.mono hs)).trans (hk.below (by omega) (by simp; omega))
end

theorem duo_start {w w3 w6 w7 w8 : World} {r1 r2 c1 c2 x q1 q2 c1' c2' : Nat} {A1 A2 A1' A2' : Option Addr} {xs ys : List UInt8} (M : Mid w3 w6 r1 A1 c1 r2 A2 c2 x xs ys) (hb3 : Below w.heap.size w w3)
    (hQ1 : IsQ w7 q1 ⟨xs, 0, 0⟩ A1' c1') (hb7 : Below w6.heap.size w6 w7) (hq1 : ∀ k ∈ q1 :: ob A1', w6.heap.size ≤ k) (hQ2 : IsQ w8 q2 ⟨ys, 0, 0⟩ A2' c2') (hb8 : Below w7.heap.size w7 w8) (hq2 : ∀ k ∈ q2 :: ob A2', w7.heap.size ≤ k) :
    Duo w (w8.alloc (.cells #[.pointer (some ⟨q1, 0, none⟩), .pointer (some ⟨q2, 0, none⟩)] 45)) r1 A1 c1 q1 A1' c1' r2 A2 c2 q2 A2' c2' x w8.heap.size (⟨xs, 0, 0⟩, ⟨ys, 0, 0⟩) ∧
    Below w3.heap.size w3 (w8.alloc (.cells #[.pointer (some ⟨q1, 0, none⟩), .pointer (some ⟨q2, 0, none⟩)] 45)) := by
  have s3 := hb3.size
  have s6 := M.below.size
  have s7 := hb7.size
  have s8 := hb8.size
  have e68 : Below w6.heap.size w6 (w8.alloc (.cells #[.pointer (some ⟨q1, 0, none⟩), .pointer (some ⟨q2, 0, none⟩)] 45)) := (hb7.trans (hb8.mono s7)).alloc (by omega) _
  have e78 : Below w7.heap.size w7 (w8.alloc (.cells #[.pointer (some ⟨q1, 0, none⟩), .pointer (some ⟨q2, 0, none⟩)] 45)) := hb8.alloc s8 _
  have e3 := M.below.trans (e68.mono s6)
  refine ⟨⟨⟨M.iR1.below e68, hQ1.below e78, fun k hk hm => ?_, fun k hk => ?_, fun k hk => ?_⟩, ⟨M.iR2.below e68, hQ2.below (below_alloc _ _), fun k hk hm => ?_, fun k hk => ?_, fun k hk => ?_⟩, fun k hk hm => ?_, M.iX.below e68 M.iX.lt, Blk.new _ _ _, hb3.trans (e3.mono s3)⟩, e3⟩
  · have := M.iR1.lt k hk
    have := hq1 k hm
    omega
  · have := M.lo1 k hk
    omega
  · have := hq1 k hk
    omega
  · have := M.iR2.lt k hk
    have := hq2 k hm
    omega
  · have := M.lo2 k hk
    omega
  · have := hq2 k hk
    omega
  · rcases List.mem_append.1 hk with hk | hk <;> rcases List.mem_append.1 hm with hm | hm
    · exact M.dis k hk hm
    · have := M.iR1.lt k hk
      have := hq2 k hm
      omega
    · have := hq1 k hk
      have := M.iR2.lt k hm
      omega
    · have := hQ1.lt k hk
      have := hq2 k hm
      omega
/-- the law's two copies, whatever has been written into them since -/
structure Scr (w9 wr : World) (K1 : Option Addr) (n1 k1 : Nat) (K2 : Option Addr) (n2 k2 : Nat) : Prop where
  kept : Kept (ob K1 ++ ob K2) w9 wr
  o1 : ∃ zs, wr.ownsRow 0 5 1 (.slice K1 n1 k1) n1 zs
  o2 : ∃ zs, wr.ownsRow 0 5 1 (.slice K2 n2 k2) n2 zs
  dis : ∀ k ∈ ob K1, k ∉ ob K2
theorem Scr.at1 {w9 wr : World} {K1 K2 : Option Addr} {n1 k1 n2 k2 j : Nat} (h : Scr w9 wr K1 n1 k1 K2 n2 k2) (hj : j < n1) :
    ∃ g u, K1 = some ⟨g, 0, none⟩ ∧ wr.cell? ⟨g, j, none⟩ = some u ∧ wr.frozen? ⟨g, j, none⟩ = false ∧ ∀ v, Scr w9 (wr.setCell ⟨g, j, none⟩ v) K1 n1 k1 K2 n2 k2 := by
  obtain ⟨hk, ⟨zs, o1⟩, ⟨ys, o2⟩, hd⟩ := h
  obtain ⟨g, cap, hv, _, hg⟩ := o1.form (by omega)
  injection hv with hA _ hc
  subst hA hc
  have hz : j < zs.length := by have := o1.1; omega
  refine ⟨g, _, rfl, (o1.cellAt j (by omega)).trans (List.getElem?_eq_getElem hz), o1.frozenAt j, fun v => ⟨hk.setCell _ (.inl (by simp [ob])), ⟨_, (o1.stored j v).1⟩, ⟨_, own_far o2 (fun g' hg' he => ?_) _⟩, hd⟩⟩
  subst he
  exact hd _ (by simp [ob]) (ownBlock_mem.1 hg')
theorem Scr.at2 {w9 wr : World} {K1 K2 : Option Addr} {n1 k1 n2 k2 j : Nat} (h : Scr w9 wr K1 n1 k1 K2 n2 k2) (hj : j < n2) :
    ∃ g u, K2 = some ⟨g, 0, none⟩ ∧ wr.cell? ⟨g, j, none⟩ = some u ∧ wr.frozen? ⟨g, j, none⟩ = false ∧ ∀ v, Scr w9 (wr.setCell ⟨g, j, none⟩ v) K1 n1 k1 K2 n2 k2 := by
  obtain ⟨hk, ⟨zs, o1⟩, ⟨ys, o2⟩, hd⟩ := h
  obtain ⟨g, cap, hv, _, hg⟩ := o2.form (by omega)
  injection hv with hA _ hc
  subst hA hc
  have hz : j < ys.length := by have := o2.1; omega
  refine ⟨g, _, rfl, (o2.cellAt j (by omega)).trans (List.getElem?_eq_getElem hz), o2.frozenAt j, fun v => ⟨hk.setCell _ (.inl (by simp [ob])), ⟨_, own_far o1 (fun g' hg' he => ?_) _⟩, ⟨_, (o2.stored j v).1⟩, hd⟩⟩
  subst he
  exact hd _ (ownBlock_mem.1 hg') (by simp [ob])
theorem Duo.scr {w0 w9 wr : World} {b1 q1 b2 q2 c1 c1' c2 c2' x1 x2 n1 k1 n2 k2 : Nat} {A1 A1' A2 A2' K1 K2 : Option Addr} {s : Rd × Rd} (h : Duo w0 w9 b1 A1 c1 q1 A1' c1' b2 A2 c2 q2 A2' c2' x1 x2 s) (hs0 : Scr w9 w9 K1 n1 k1 K2 n2 k2) (hs : Scr w9 wr K1 n1 k1 K2 n2 k2)
    (hf1 : ∀ k ∈ footR b1 A1 q1 A1', k ∉ ob K1 ++ ob K2) (hf2 : ∀ k ∈ footR b2 A2 q2 A2', k ∉ ob K1 ++ ob K2) (hK : ∀ k ∈ ob K1 ++ ob K2, w0.heap.size ≤ k) : Duo w0 wr b1 A1 c1 q1 A1' c1' b2 A2 c2 q2 A2' c2' x1 x2 s := by
  obtain ⟨_, o1⟩ := hs0.o1
  obtain ⟨_, o2⟩ := hs0.o2
  have nx : ∀ {g t cs}, Blk w9 g t cs → (5 : TypeId) ≠ t → g ∉ ob K1 ++ ob K2 := fun hb ht hm => (List.mem_append.1 hm).elim (own_ne o1 hb ht) (own_ne o2 hb ht)
  exact ⟨h.p1.kept hs.kept (fun k hk => hf1 k (List.mem_append_left _ hk)) (fun k hk => hf1 k (List.mem_append_right _ hk)), h.p2.kept hs.kept (fun k hk => hf2 k (List.mem_append_left _ hk)) (fun k hk => hf2 k (List.mem_append_right _ hk)), h.dis,
    hs.kept.blk h.y1 (nx h.y1 (by decide)), hs.kept.blk h.y2 (nx h.y2 (by decide)), h.below.trans (hs.kept.below h.below.size hK)⟩
theorem Scr.blk {w9 wr : World} {n1 k1 n2 k2 g : Nat} {K1 K2 : Option Addr} {t : TypeId} {cs : Array Value} (hs0 : Scr w9 w9 K1 n1 k1 K2 n2 k2) (hs : Scr w9 wr K1 n1 k1 K2 n2 k2) (hb : Blk w9 g t cs) (ht : (5 : TypeId) ≠ t) : Blk wr g t cs := by
  obtain ⟨_, o1⟩ := hs0.o1
  obtain ⟨_, o2⟩ := hs0.o2
  exact hs.kept.blk hb (fun hm => (List.mem_append.1 hm).elim (own_ne o1 hb ht) (own_ne o2 hb ht))
theorem Twin.foot {w : World} {B b c q c' : Nat} {A A' : Option Addr} {R : Rd} (h : Twin w B b A c q A' c' R) : ∀ k ∈ footR b A q A', B ≤ k := fun k hk => (List.mem_append.1 hk).elim (h.low k) (h.low' k)
end Go.Proofs.Ytidiohmpmjhbaaa
