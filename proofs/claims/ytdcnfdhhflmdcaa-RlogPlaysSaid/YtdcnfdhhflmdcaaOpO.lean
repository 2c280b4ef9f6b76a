/- The law's acts, in memory and opened out of what comes in. -/
import Derived.Test.YtdcnfdhhflmdcaaOpE
import Derived.Test.YtdcnfdhhflmdcaaEntO
namespace Go.Proofs.Ytdcnfdhhflmdcaa
open Go.RowKit Go.ChangeShapes Go.WideShapes Go.Deep
set_option linter.unusedSimpArgs false
set_option linter.unusedVariables false

/-- an act as it lies -/
structure MOp where
  kind : Int
  i : Int
  term : Int
  A : Option Addr
  c : Nat
  ms : List MEnt
def mop0 : MOp := ⟨0, 0, 0, none, 0, []⟩
def ocell (o : MOp) : List Value := [.int .i64 o.kind, .int .i64 o.i, .int .i64 o.term, .slice o.A o.ms.length o.c]
def oc (l : List MOp) : List Value := l.flatMap ocell
def gmo (l : List MOp) (i : Nat) : MOp := l.getD i mop0
theorem gmo_at {l : List MOp} {i : Nat} (h : i < l.length) : gmo l i = l[i] := by
  unfold gmo
  rw [List.getD_eq_getElem?_getD, List.getElem?_eq_getElem h]
  rfl
theorem gmo_mem {l : List MOp} {i : Nat} (h : i < l.length) : gmo l i ∈ l := by rw [gmo_at h]; exact List.getElem_mem h
theorem oc_len (l : List MOp) : (oc l).length = l.length * 4 := by
  induction l with
  | nil => rfl
  | cons x r ih => show (ocell x ++ oc r).length = _; rw [List.length_append, ih]; simp [ocell]; omega
theorem oc_cons (x : MOp) (r : List MOp) : oc (x :: r) = ocell x ++ oc r := rfl
theorem oc_drop (l : List MOp) : ∀ k, (oc l).drop (k * 4) = oc (l.drop k) := by
  induction l with
  | nil => intro k; simp [oc]
  | cons x r ih =>
    intro k
    rcases k with _ | k
    · simp
    · rw [oc_cons, show (k + 1) * 4 = (ocell x).length + k * 4 by simp [ocell]; omega, ← List.drop_drop, List.drop_left, ih k]
      rfl
theorem oc_at {l : List MOp} {i : Nat} (h : i < l.length) (j : Nat) (hj : j < 4) : (oc l)[i * 4 + j]? = (ocell (gmo l i))[j]? := by
  rw [← List.getElem?_drop, oc_drop, List.drop_eq_getElem_cons h, oc_cons, gmo_at h, List.getElem?_append_left (by simpa [ocell] using hj)]
/-- an act's entries -/
structure OpFine (w : World) (B : Nat) (o : MOp) : Prop where
  ents : Ents w B o.A o.ms.length o.ms
  cap : o.ms.length ≤ o.c
  small : SmallL o.ms
structure OpsR (w : World) (B : Nat) (A : Option Addr) (l : List MOp) : Prop where
  row : Reads w B 4 A l.length (oc l)
  fine : ∀ o ∈ l, OpFine w B o
theorem OpFine.below {w w' : World} {B : Nat} {o : MOp} (h : OpFine w B o) (hb : Below B w w') : OpFine w' B o := ⟨h.ents.below hb, h.cap, h.small⟩
theorem OpFine.more {w : World} {B B' : Nat} {o : MOp} (h : OpFine w B o) (hB : B ≤ B') : OpFine w B' o := ⟨h.ents.more hB, h.cap, h.small⟩
theorem OpsR.below {w w' : World} {B : Nat} {A : Option Addr} {l : List MOp} (h : OpsR w B A l) (hb : Below B w w') : OpsR w' B A l := ⟨h.row.below hb, fun o ho => (h.fine o ho).below hb⟩
/-- the cells of one act -/
theorem OpsR.at_ {w : World} {B : Nat} {A : Option Addr} {l : List MOp} (h : OpsR w B A l) {k : Nat} (hk : k < l.length) :
    ∃ b off, A = some ⟨b, off, none⟩ ∧ b < B ∧ ∀ j u, (ocell (gmo l k))[j]? = some u → w.cell? ⟨b, off + k * 4 + j, none⟩ = some u := by
  obtain ⟨ad, hA, hb, hc⟩ := h.row.2 (by omega)
  have h0 := hc (0 * 4 + 0) _ ((oc_at (l := l) (i := 0) (by omega) 0 (by omega)).trans rfl)
  obtain ⟨b, off, sp⟩ := ad
  have hsp : sp = none := by
    have := spot_none h0
    simpa [Addr.add] using this
  subst hsp
  refine ⟨b, off, hA, hb, fun j u hu => ?_⟩
  have hj : j < 4 := (List.getElem?_eq_some_iff.1 hu).1
  have := hc (k * 4 + j) u ((oc_at hk j hj).trans hu)
  rw [Addr.add_lit, ← Nat.add_assoc] at this
  exact this
section
variable {H : Type} {enc : TypeId × Value → H} {W : World}
theorem open_ops {a : Option Addr} {len cap : Nat} {d : DataW H} {p : List MemPlace} (h : DataW.Trod enc Try.prog W 0 (fun _ => true) true 48 (.slice a len cap) d p) (hs : Sz Try.prog 48 d) :
    ∃ l : List MOp, len = l.length ∧ OpsR W W.heap.size a l ∧ l.length * 48 ≤ 140737488355328 := by
  obtain ⟨fuel, hf⟩ := h
  rcases open_slice_fields Try.underlying48 Try.underlying50 (by kernel_rfl) (by kernel_rfl) hf with ⟨hcs, _⟩ | ⟨a', len', cap', m, D, Pl, hcs, _, hl, hm, hmm, hx, hi⟩
  · simp [Value.cells] at hcs
    obtain ⟨rfl, rfl, rfl⟩ := hcs
    exact ⟨[], rfl, ⟨Reads.none_, by simp⟩, by simp⟩
  · simp [Value.cells] at hcs
    obtain ⟨rfl, rfl, rfl⟩ := hcs
    simp only [if_true] at hmm
    subst hmm
    simp only [Prod.mk.injEq] at hx
    obtain ⟨rfl, rfl⟩ := hx
    obtain ⟨hsz, hse⟩ := hs.slice Try.underlying48
    have hb : decide (48 ≤ Try.prog.bytesOf 50) = true := by kernel_rfl
    have hb := of_decide_eq_true hb
    have hrb : reachBytes = 140737488351232 := by decide
    simp only [List.length_map, List.length_range] at hsz
    have h3 := Nat.mul_le_mul_left (len + (m - len)) hb
    have hall : ∀ i, i < len → ∃ o : MOp, OpFine W W.heap.size o ∧ ∀ j v, (ocell o)[j]? = some v → W.cell? (a'.add (i * 4 + j)) = some v := by
      intro i hlt
      obtain ⟨ys, n, hD, _, hyl, hfs⟩ := hi i (by omega)
      obtain ⟨y0, y1, y2, y3, rfl⟩ : ∃ a b c d, ys = [a, b, c, d] := by
        match ys, (show ys.length = 4 from hyl) with
        | [a, b, c, d], _ => exact ⟨a, b, c, d, rfl⟩
      obtain ⟨v0, z0, c0, e0, t0⟩ := hfs 0 _ rfl
      obtain ⟨v1, z1, c1, e1, t1⟩ := hfs 1 _ rfl
      obtain ⟨v2, z2, c2, e2, t2⟩ := hfs 2 _ rfl
      obtain ⟨v3, z3, c3, e3, t3⟩ := hfs 3 _ rfl
      simp at e0 e1 e2 e3
      subst e0 e1 e2 e3
      obtain ⟨kd, rfl, _⟩ := one_int Try.underlying3 t0
      obtain ⟨ii, rfl, _⟩ := one_int Try.underlying3 t1
      obtain ⟨tt, rfl, _⟩ := one_int Try.underlying3 t2
      have hsd := hse (D i) (List.mem_map.2 ⟨i, List.mem_range.2 hlt, rfl⟩)
      rw [hD] at hsd
      obtain ⟨Ae, ce, ms, rfl, hcap, hE, hS⟩ := one_entries t3 (hsd.agg Try.underlying50 (i := 3) rfl rfl)
      refine ⟨⟨kd, ii, tt, Ae, ce, ms⟩, ⟨hE, hcap, hS⟩, fun j v hj => ?_⟩
      have hj4 : j < 4 := (List.getElem?_eq_some_iff.1 hj).1
      rcases (show j = 0 ∨ j = 1 ∨ j = 2 ∨ j = 3 by omega) with rfl | rfl | rfl | rfl
      · cases hj; exact c0
      · cases hj; exact c1
      · cases hj; exact c2
      · cases hj; exact c3
    obtain ⟨l, hlen, hP⟩ := list_of_lt len hall
    refine ⟨l, hlen.symm, ⟨⟨oc_len l, fun h0 => ?_⟩, fun o ho => ?_⟩, by rw [hlen]; omega⟩
    · obtain ⟨o, _, hc⟩ := hall 0 (by omega)
      have hc0 := hc 0 _ rfl
      refine ⟨a', rfl, ?_, fun j u hu => ?_⟩
      · have := World.block_lt_of_cell? W _ hc0
        rwa [block_of_add] at this
      · have hj := (List.getElem?_eq_some_iff.1 hu).1
        rw [oc_len] at hj
        have hk : j / 4 < l.length := by omega
        have hg : l[j / 4]? = some (gmo l (j / 4)) := by rw [List.getElem?_eq_getElem hk, gmo_at hk]
        have hcl := (hP _ _ hg).2 (j % 4) u (by rw [← oc_at hk _ (by omega), show j / 4 * 4 + j % 4 = j by omega]; exact hu)
        rw [show j / 4 * 4 + j % 4 = j by omega] at hcl
        exact hcl
    · obtain ⟨i, hi', hxe⟩ := List.mem_iff_getElem.1 ho
      exact (hP i o (by rw [List.getElem?_eq_getElem hi', hxe])).1
end
end Go.Proofs.Ytdcnfdhhflmdcaa
