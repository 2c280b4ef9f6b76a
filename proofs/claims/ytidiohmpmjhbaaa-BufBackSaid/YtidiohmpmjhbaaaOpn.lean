/- The law's calls, opened out of what comes in. -/
import Derived.Test.YtidiohmpmjhbaaaRows
import Derived.Test.YtidiohmpmjhbaaaBwE
import Derived.Deep.Slices
import Derived.Deep.Fields
import Derived.ChangeSame
import Derived.ChangeSlices
namespace Go.Proofs.Ytidiohmpmjhbaaa
open Go.RowKit Go.ChangeShapes Go.WideShapes Go.Deep
section
variable {H : Type} {enc : TypeId × Value → H} {P : Program} {w : World} {base : Nat} {spare : Nat → Bool} {held : Bool}
theorem open_slice_fields {t e : TypeId} {fs : Array Field} {fuel : Nat} {cs : List Value} {x : DataW H × List MemPlace} (ht : P.underlying t = some (.slice e)) (he : P.underlying e = some (.struct fs))
    (hone : oneCellFields P fs = true) (hC : P.cellsOf e = fs.size) (h : DataW.trod enc P w base spare held fuel t cs = some x) :
    (cs = [.slice none 0 0] ∧ x = (.nil, [])) ∨
    ∃ (a : Addr) (len cap m : Nat) (D : Nat → DataW H) (Pl : Nat → List MemPlace), cs = [.slice (some a) len cap] ∧ base ≤ a.block ∧ len ≤ cap ∧ cap ≤ maxLen ∧ m = (if spare a.block then cap else len) ∧
      x = (.slice ((List.range len).map D) ((List.range (m - len)).map fun j => D (len + j)), MemPlace.row a (m * fs.size) ++ (List.range m).flatMap Pl) ∧
      ∀ i, i < m → ∃ (ys : List (DataW H × List MemPlace)) (n : Nat), D i = .agg (ys.map (·.1)) ∧ Pl i = ys.flatMap (·.2) ∧ ys.length = fs.size ∧
        ∀ (j : Nat) (f : Field), fs[j]? = some f → ∃ (v : Value) (y : DataW H × List MemPlace), w.cell? (a.add (i * fs.size + j)) = some v ∧ ys[j]? = some y ∧ DataW.trod enc P w base spare held n f.type [v] = some y := by
  rcases open_slice ht h with h0 | ⟨a, len, cap, m, n, D, Pl, hcs, hb, hl, hm, hmm, hx, hi⟩
  · exact .inl h0
  · refine .inr ⟨a, len, cap, m, D, Pl, hcs, hb, hl, hm, hmm, by rw [hC] at hx; exact hx, fun i him => ?_⟩
    obtain ⟨cs', hc, ht'⟩ := hi i him
    rw [hC] at hc
    obtain ⟨ys, n', hn', hy, hlen, hyl, hf⟩ := DataW.trod_struct he ht'
    obtain ⟨_, hcl, hat⟩ := World.cells?_some hc
    simp only [Prod.mk.injEq] at hy
    refine ⟨ys, n', hy.1, hy.2, hyl, fun j f hj => ?_⟩
    obtain ⟨ho, hk⟩ := hone_of hone j f hj
    have hjl : j < fs.size := (Array.getElem?_eq_some_iff.1 hj).1
    have hcell := hat j hjl
    have hv : cs'[j]? = some (cs'[j]'(by omega)) := List.getElem?_eq_getElem (by omega)
    have h1 := hf j f hj
    rw [ho, hk] at h1
    have hone' : (cs'.drop j).take 1 = [cs'[j]'(by omega)] := by
      rw [List.drop_eq_getElem_cons (by omega)]
      rfl
    rw [hone'] at h1
    have hys : ys[j]? = some (ys[j]'(by omega)) := List.getElem?_eq_getElem (by omega)
    refine ⟨_, _, ?_, hys, h1.trans hys⟩
    rw [← Go.Deep.add_add, hcell, hv]
end

theorem list_of_lt {α : Type} {P : Nat → α → Prop} (n : Nat) (h : ∀ i, i < n → ∃ x, P i x) : ∃ l : List α, l.length = n ∧ ∀ i x, l[i]? = some x → P i x := by
  induction n with
  | zero => exact ⟨[], rfl, fun i x hx => by simp at hx⟩
  | succ n ih =>
    obtain ⟨l, hl, hP⟩ := ih (fun i hi => h i (by omega))
    obtain ⟨x, hx⟩ := h n (by omega)
    refine ⟨l ++ [x], by simp [hl], fun i y hy => ?_⟩
    rcases Nat.lt_or_ge i l.length with h1 | h1
    · rw [List.getElem?_append_left h1] at hy
      exact hP i y hy
    · rw [List.getElem?_append_right h1] at hy
      have h2 := (List.getElem?_eq_some_iff.1 hy).1
      simp at h2
      have h3 : i = n := by omega
      subst h3
      rw [show i - l.length = 0 by omega] at hy
      simp at hy
      subst hy
      exact hx

theorem spot_none {w : World} {a : Addr} {v : Value} (h : w.cell? a = some v) : a.spot = none := by
  unfold World.cell? at h
  cases hs : a.spot with
  | none => rfl
  | some s =>
    simp [hs] at h
    split at h <;> simp at h

theorem bulkAll_mem {H : Type} {l : List (DataW H)} {d : DataW H} (h : d ∈ l) : Rows.uptoBulk d ≤ Rows.uptoBulkAll l := by
  induction l with
  | nil => cases h
  | cons x r ih =>
    simp only [Rows.uptoBulkAll]
    rcases List.mem_cons.1 h with rfl | h
    · omega
    · have := ih h
      omega
theorem bulk_pos {H : Type} (d : DataW H) : 1 ≤ Rows.uptoBulk d := by
  cases d with
  | lit l => cases l <;> simp [Rows.uptoBulk]
  | nil => simp [Rows.uptoBulk]
  | ptr d => simp [Rows.uptoBulk]
  | slice elems spare => simp [Rows.uptoBulk]
  | agg parts => simp [Rows.uptoBulk]
  | iface t d => simp [Rows.uptoBulk]
  | map entries => simp [Rows.uptoBulk]
  | held h => simp [Rows.uptoBulk]
theorem bulkAll_length {H : Type} (l : List (DataW H)) : l.length ≤ Rows.uptoBulkAll l := by
  induction l with
  | nil => simp [Rows.uptoBulkAll]
  | cons x r ih => have := bulk_pos x; simp only [Rows.uptoBulkAll, List.length_cons]; omega
theorem bulk_slice {H : Type} (elems spare : List (DataW H)) : elems.length + 1 ≤ Rows.uptoBulk (.slice elems spare) ∧ Rows.uptoBulkAll elems + 1 ≤ Rows.uptoBulk (.slice elems spare) := by
  have := bulkAll_length elems
  simp only [Rows.uptoBulk]
  omega

section
variable {H : Type} {enc : TypeId × Value → H} {W : World}
theorem one_int {k : IntKind} {t fuel : Nat} {v : Value} {y : DataW H × List MemPlace} (ht : Try.prog.underlying t = some (.int k)) (h : DataW.trod enc Try.prog W 0 (fun _ => true) true fuel t [v] = some y) :
    ∃ n, v = .int k n ∧ (Lit.int k n).wf = true := by
  obtain ⟨n, hc, _, hw⟩ := DataW.trod_int ht h
  simp at hc
  exact ⟨n, hc, hw⟩

/-- a slice of bytes, in a cell -/
theorem one_bytes {fuel : Nat} {v : Value} {y : DataW H × List MemPlace} (h : DataW.trod enc Try.prog W 0 (fun _ => true) true fuel 30 [v] = some y) :
    ∃ A c, ∃ xs : List UInt8, v = .slice A xs.length c ∧ Reads W W.heap.size 1 A xs.length (bc xs) ∧ xs.length + 1 ≤ Rows.uptoBulk y.1 := by
  rcases open_ints Try.underlying30 Try.underlying5 (by kernel_rfl) h with ⟨hcs, rfl⟩ | ⟨a, len, cap, zs, hcs, _, hl, hm, hz, hx, hcell, hwz⟩
  · simp at hcs
    subst hcs
    exact ⟨none, 0, [], rfl, Reads.none_, by simp [Rows.uptoBulk]⟩
  · simp at hcs
    subst hcs
    simp only [if_true] at hz
    refine ⟨some a, cap, (zs.take len).map fun z => UInt8.ofNat z.toNat, ?_, ⟨?_, ?_⟩, ?_⟩
    · rw [List.length_map, List.length_take, Nat.min_eq_left (by omega)]
    · rw [bc_len]; omega
    · intro h0
      rw [List.length_map, List.length_take, Nat.min_eq_left (by omega)] at h0
      have h00 := hcell 0 (by omega)
      refine ⟨a, rfl, ?_, ?_⟩
      · have := World.block_lt_of_cell? W _ h00
        rw [block_of_add] at this
        exact this
      · intro j u hu
        have hj := (List.getElem?_eq_some_iff.1 hu).1
        rw [bc_len, List.length_map, List.length_take] at hj
        rw [hcell j (by omega), ← hu]
        simp only [bc, List.getElem?_map, List.getElem?_take, if_pos (show j < len by omega), Option.map_some, List.getD_eq_getElem?_getD, List.getElem?_eq_getElem (show j < zs.length by omega), Option.getD_some]
        have hw := hwz zs[j] (List.getElem_mem _)
        simp [Lit.wf, IntKind.min, IntKind.max, IntKind.bits, IntKind.signed] at hw
        congr 2
        simp
        omega
    · rw [hx]
      have := (bulk_slice (lits .u8 (zs.take len) : List (DataW H)) (lits .u8 (zs.drop len))).1
      simp [lits] at this ⊢
      omega

theorem list6 {α : Type} {l : List α} (h : l.length = 6) : ∃ a b c d e f, l = [a, b, c, d, e, f] := by
  match l, h with
  | [a, b, c, d, e, f], _ => exact ⟨a, b, c, d, e, f, rfl⟩
theorem sum_le_of {α : Type} (f : α → Nat) (g : Nat → Nat) (c : Nat) (l : List α) : ∀ k, (∀ i x, l[i]? = some x → f x ≤ g (k + i) + c) → (l.map f).sum ≤ ((List.range l.length).map fun i => g (k + i)).sum + c * l.length := by
  induction l with
  | nil => intro k _; simp
  | cons x r ih =>
    intro k h
    have h0 := h 0 x rfl
    have h1 := ih (k + 1) (fun i y hy => by have := h (i + 1) y (by simpa using hy); rwa [show k + (i + 1) = k + 1 + i by omega] at this)
    rw [List.map_cons, List.sum_cons, List.length_cons, List.range_succ_eq_map, List.map_cons, List.sum_cons, List.map_map]
    have e : (List.range r.length).map ((fun i => g (k + i)) ∘ Nat.succ) = (List.range r.length).map fun i => g (k + 1 + i) := by
      apply List.map_congr_left
      intro i _
      simp only [Function.comp]
      rw [show k + Nat.succ i = k + 1 + i by omega]
    rw [e, Nat.mul_add]
    omega
theorem bulkAll_range (D : Nat → DataW H) (n : Nat) : Rows.uptoBulkAll ((List.range n).map D) = ((List.range n).map fun i => Rows.uptoBulk (D i)).sum := by
  have key : ∀ l : List Nat, Rows.uptoBulkAll (l.map D) = (l.map fun i => Rows.uptoBulk (D i)).sum := by
    intro l
    induction l with
    | nil => simp [Rows.uptoBulkAll]
    | cons x r ih => simp only [List.map_cons, Rows.uptoBulkAll, List.sum_cons, ih]
  exact key _
theorem open_ops {a : Option Addr} {len cap : Nat} {d : DataW H} {p : List MemPlace} (h : DataW.Trod enc Try.prog W 0 (fun _ => true) true 22 (.slice a len cap) d p) (hk : Rows.uptoBulk d ≤ 1048576) :
    ∃ ops, OpsAt W W.heap.size a len ops ∧ (ops.map OpD.size).sum ≤ 1099511627776 ∧ len ≤ 1048576 := by
  obtain ⟨fuel, hf⟩ := h
  rcases open_slice_fields Try.underlying22 Try.underlying32 (by kernel_rfl) (by kernel_rfl) hf with ⟨hcs, _⟩ | ⟨a', len', cap', m, D, Pl, hcs, _, hl, hm, hmm, hx, hi⟩
  · simp [Value.cells] at hcs
    obtain ⟨rfl, rfl, rfl⟩ := hcs
    exact ⟨[], ⟨rfl, fun h => by omega⟩, by simp, by omega⟩
  · simp [Value.cells] at hcs
    obtain ⟨rfl, rfl, rfl⟩ := hcs
    simp only [if_true] at hmm
    subst hmm
    simp only [Prod.mk.injEq] at hx
    have hd := hx.1
    subst hd
    obtain ⟨hb1, hb2⟩ := bulk_slice ((List.range len).map D) ((List.range (m - len)).map fun j => D (len + j))
    rw [List.length_map, List.length_range] at hb1
    have hall : ∀ i, i < len → ∃ o : OpD, (∃ Ab cb, o.Fine W W.heap.size Ab ∧ ∀ j v, (opCells o Ab cb)[j]? = some v → W.cell? (a'.add (i * 6 + j)) = some v) ∧ o.size ≤ Rows.uptoBulk (D i) + 20 := by
      intro i hlt
      obtain ⟨ys, n, hD, _, hyl, hfs⟩ := hi i (by omega)
      obtain ⟨y0, y1, y2, y3, y4, y5, rfl⟩ := list6 (show ys.length = 6 from hyl)
      obtain ⟨v0, z0, c0, e0, t0⟩ := hfs 0 _ rfl
      obtain ⟨v1, z1, c1, e1, t1⟩ := hfs 1 _ rfl
      obtain ⟨v2, z2, c2, e2, t2⟩ := hfs 2 _ rfl
      obtain ⟨v3, z3, c3, e3, t3⟩ := hfs 3 _ rfl
      obtain ⟨v4, z4, c4, e4, t4⟩ := hfs 4 _ rfl
      obtain ⟨v5, z5, c5, e5, t5⟩ := hfs 5 _ rfl
      simp at e0 e1 e2 e3 e4 e5
      subst e0 e1 e2 e3 e4 e5
      obtain ⟨kd, rfl, _⟩ := one_int Try.underlying3 t0
      obtain ⟨nn, rfl, w1⟩ := one_int Try.underlying29 t1
      obtain ⟨ii, rfl, w2⟩ := one_int Try.underlying3 t2
      obtain ⟨s, hs, hsd, _⟩ := DataW.trod_string Try.underlying9 t3
      obtain ⟨Ab, cb, xs, rfl, hr, hxb⟩ := one_bytes t4
      obtain ⟨tw, htw, _⟩ := DataW.trod_bool Try.underlying4 t5
      simp at hs htw
      subst hs htw
      simp [Lit.wf, IntKind.min, IntKind.max, IntKind.bits, IntKind.signed] at w1 w2
      obtain ⟨nn, rfl⟩ := Int.eq_ofNat_of_zero_le w1.1
      refine ⟨⟨kd, nn, ii, s, xs, tw⟩, ⟨Ab, cb, ⟨by simp only; omega, by simp only; omega, by simp only; omega, hr⟩, ?_⟩, ?_⟩
      · intro j v hj
        have hj6 : j < 6 := (Array.getElem?_eq_some_iff.1 hj).1
        rcases (show j = 0 ∨ j = 1 ∨ j = 2 ∨ j = 3 ∨ j = 4 ∨ j = 5 by omega) with rfl | rfl | rfl | rfl | rfl | rfl
        · cases hj; exact c0
        · cases hj; exact c1
        · cases hj; exact c2
        · cases hj; exact c3
        · cases hj; exact c4
        · cases hj; exact c5
      · have hs3 : Rows.uptoBulk y3.1 = s.size + 1 := by
          rw [hsd]
          simp [Rows.uptoBulk]
        rw [hD]
        simp only [List.map_cons, List.map_nil, Rows.uptoBulk, Rows.uptoBulkAll]
        rw [hs3]
        unfold OpD.size
        simp only
        omega
    obtain ⟨ops, hlen, hP⟩ := list_of_lt (P := fun i (o : OpD) => (∃ Ab cb, o.Fine W W.heap.size Ab ∧ ∀ j v, (opCells o Ab cb)[j]? = some v → W.cell? (a'.add (i * 6 + j)) = some v) ∧ o.size ≤ Rows.uptoBulk (D i) + 20) len hall
    refine ⟨ops, ⟨hlen, fun h0 => ?_⟩, ?_, by omega⟩
    · obtain ⟨o, ⟨Ab, cb, _, hc⟩, _⟩ := hall 0 h0
      have hc0 := hc 0 _ rfl
      have hsp : a'.spot = none := by
        have := spot_none hc0
        simpa [Addr.add] using this
      obtain ⟨b, off, sp⟩ := a'
      simp only at hsp
      subst hsp
      refine ⟨b, off, rfl, ?_, fun i o ho => ?_⟩
      · have := World.block_lt_of_cell? W _ hc0
        rwa [block_of_add] at this
      · obtain ⟨⟨Ab, cb, hfn, hcell⟩, _⟩ := hP i o ho
        refine ⟨Ab, cb, hfn, fun j v hv => ?_⟩
        have := hcell j v hv
        rwa [Addr.add_lit, ← Nat.add_assoc] at this
    · have h1 := sum_le_of OpD.size (fun i => Rows.uptoBulk (D i)) 20 ops 0 (fun i o ho => by have := (hP i o ho).2; rw [Nat.zero_add]; exact this)
      simp only [Nat.zero_add] at h1
      rw [hlen, ← bulkAll_range] at h1
      omega
end
theorem wf64 {n : Int} (h : (Lit.int .i64 n).wf = true) : n ≤ 9223372036854775807 := by
  simp [Lit.wf, IntKind.min, IntKind.max, IntKind.bits, IntKind.signed] at h
  omega
end Go.Proofs.Ytidiohmpmjhbaaa
