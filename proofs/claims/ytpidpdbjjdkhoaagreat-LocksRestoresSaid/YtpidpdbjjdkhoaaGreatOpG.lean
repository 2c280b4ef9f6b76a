/- Rows opened out of what comes in: any element that is a row of cells. -/
import Derived.Test.YtpidpdbjjdkhoaaGreatRows
import Derived.Test.YtpidpdbjjdkhoaaGreatRowG
import Derived.Test.YtpidpdbjjdkhoaaGreatAid
import Derived.Deep.Slices
import Derived.Deep.Fields
import Derived.ChangeSame
import Derived.ChangeSlices
import Derived.SizedLaws
namespace Go.Proofs.YtpidpdbjjdkhoaaGreat
open Go.RowKit Go.ChangeShapes Go.WideShapes Go.Deep
set_option linter.unusedSimpArgs false
set_option linter.unusedVariables false
theorem list_of_lt' {α : Type} {P : Nat → α → Prop} (n : Nat) (h : ∀ i, i < n → ∃ x, P i x) : ∃ l : List α, l.length = n ∧ ∀ i x, l[i]? = some x → P i x := by
  induction n with
  | zero => exact ⟨[], rfl, fun i x hx => by simp at hx⟩
  | succ n ih =>
    obtain ⟨l, hl, hP⟩ := ih (fun i hi => h i (by omega))
    obtain ⟨x, hx⟩ := h n (by omega)
    refine ⟨l ++ [x], by simp [hl], fun i y hy => ?_⟩
    rcases Nat.lt_or_ge i l.length with h1 | h1
    · rw [List.getElem?_append_left h1] at hy
      exact hP i y hy
    · rw [List.getElem?_append_right h1] at hy
      have h2 := (List.getElem?_eq_some_iff.1 hy).1
      simp at h2
      have h3 : i = n := by omega
      subst h3
      rw [show i - l.length = 0 by omega] at hy
      simp at hy
      subst hy
      exact hx
/-! ### what is read weighs no more than what is reached -/
section
variable {H : Type} {P : Program}
def Szd (P : Program) (t : TypeId) (d : DataW H) : Prop := ∀ n ∈ d.weights P t, n ≤ reachBytes
theorem Szd.of_each {ts : List TypeId} {ds : List (DataW H)} (h : (DataW.weightsEach P ts ds).all (· ≤ reachBytes) = true) {j : Nat} {t : TypeId} {d : DataW H} (ht : ts[j]? = some t) (hd : ds[j]? = some d) : Szd P t d := fun n hn => by
  have := List.all_eq_true.1 h _ (DataW.weights_mem_each ht hd n hn)
  simpa using this
theorem all_mem' {e : TypeId} : ∀ {l : List (DataW H)} {d : DataW H}, d ∈ l → ∀ n ∈ d.weights P e, n ∈ DataW.weightsAll P e l
  | x :: r, d, hd, n, hn => by
    simp only [DataW.weightsAll, List.mem_append]
    rcases List.mem_cons.1 hd with rfl | h
    · exact .inl hn
    · exact .inr (all_mem' h n hn)
theorem Szd.slice {t e : TypeId} {es sp : List (DataW H)} (h : Szd P t (.slice es sp)) (hu : P.underlying t = some (.slice e)) : (es.length + sp.length) * P.bytesOf e ≤ reachBytes ∧ ∀ d ∈ es, Szd P e d := by
  refine ⟨h _ (by simp [DataW.weights, hu]), fun d hd n hn => h n ?_⟩
  simp only [DataW.weights, hu, List.mem_cons, List.mem_append]
  exact .inr (.inl (all_mem' hd n hn))
theorem Szd.agg {t : TypeId} {fs : Array Field} {ps : List (DataW H)} (h : Szd P t (.agg ps)) (hu : P.underlying t = some (.struct fs)) {i : Nat} {f : Field} {d : DataW H} (hf : fs[i]? = some f) (hd : ps[i]? = some d) : Szd P f.type d := fun n hn => by
  refine h n ?_
  simp only [DataW.weights, hu]
  exact DataW.weights_mem_each (j := i) (by simp [hf]) hd n hn
end
section
variable {H : Type} {enc : TypeId × Value → H} {W : World}
abbrev Reads1 (enc : TypeId × Value → H) (W : World) (fuel : Nat) (t : TypeId) (cs : List Value) (y : DataW H × List MemPlace) : Prop := DataW.trod enc Tryz.prog W 0 (fun _ => true) true fuel t cs = some y
/-- a struct's fields -/
theorem fields_read {e : TypeId} {fs : Array Field} {fuel : Nat} {cs : List Value} {y : DataW H × List MemPlace} (he : Tryz.prog.underlying e = some (.struct fs)) (h : Reads1 enc W fuel e cs y) :
    cs.length = Tryz.prog.cellsOf e ∧ ∃ (ys : List (DataW H × List MemPlace)) (n : Nat), y.1 = .agg (ys.map (·.1)) ∧ ∀ (i : Nat) (f : Field), fs[i]? = some f → ∃ z, ys[i]? = some z ∧ Reads1 enc W n f.type ((cs.drop f.offset).take (Tryz.prog.cellsOf f.type)) z := by
  obtain ⟨ys, n, _, hy, hl, hyl, hf⟩ := DataW.trod_struct he h
  refine ⟨hl, ys, n, by rw [hy], fun i f hi => ?_⟩
  have hil : i < ys.length := by rw [hyl]; exact (Array.getElem?_eq_some_iff.1 hi).1
  exact ⟨ys[i], List.getElem?_eq_getElem hil, (hf i f hi).trans (List.getElem?_eq_getElem hil)⟩
theorem fields_cut {e : TypeId} {fs : Array Field} {fuel : Nat} {cs : List Value} {y : DataW H × List MemPlace} (he : Tryz.prog.underlying e = some (.struct fs)) (h : Reads1 enc W fuel e cs y) :
    cs.length = Tryz.prog.cellsOf e ∧ ∃ (ys : List (DataW H × List MemPlace)) (n : Nat), y.1 = .agg (ys.map (·.1)) ∧ ∀ (i : Nat) (t o c : Nat), (fs[i]?.map fun f => (f.type, f.offset, Tryz.prog.cellsOf f.type)) = some (t, o, c) → ∃ z, ys[i]? = some z ∧ Reads1 enc W n t ((cs.drop o).take c) z := by
  obtain ⟨hl, ys, n, hy, hf⟩ := fields_read he h
  refine ⟨hl, ys, n, hy, fun i t o c hi => ?_⟩
  cases hfi : fs[i]? with
  | none => rw [hfi] at hi; cases hi
  | some f =>
    rw [hfi] at hi
    simp only [Option.map_some, Option.some.injEq, Prod.mk.injEq] at hi
    obtain ⟨h1, h2, h3⟩ := hi
    obtain ⟨z, hz, ht⟩ := hf i f hfi
    rw [h3, h2, h1] at ht
    exact ⟨z, hz, ht⟩
theorem int_cell {k : IntKind} {t fuel : Nat} {cs : List Value} {y : DataW H × List MemPlace} (ht : Tryz.prog.underlying t = some (.int k)) (h : Reads1 enc W fuel t cs y) : ∃ n, cs = [.int k n] ∧ (Lit.int k n).wf = true := by
  obtain ⟨n, hc, _, hw⟩ := DataW.trod_int ht h
  exact ⟨n, hc, hw⟩
theorem str_cell {t fuel : Nat} {cs : List Value} {y : DataW H × List MemPlace} (ht : Tryz.prog.underlying t = some .string) (h : Reads1 enc W fuel t cs y) : ∃ s, cs = [.string s] := by
  obtain ⟨s, hc, _⟩ := DataW.trod_string ht h
  exact ⟨s, hc⟩
theorem bool_cell {t fuel : Nat} {cs : List Value} {y : DataW H × List MemPlace} (ht : Tryz.prog.underlying t = some .bool) (h : Reads1 enc W fuel t cs y) : ∃ b, cs = [.bool b] := by
  obtain ⟨b, hc, _⟩ := DataW.trod_bool ht h
  exact ⟨b, hc⟩
/-- a slice in a cell -/
theorem rows_cell {α : Type} (R : RowT α) (Q : α → Prop) {t e : TypeId} (ht : Tryz.prog.underlying t = some (.slice e)) (hC : Tryz.prog.cellsOf e = R.sz)
    (hop : ∀ fuel cs (y : DataW H × List MemPlace), Reads1 enc W fuel e cs y → Szd Tryz.prog e y.1 → ∃ o : α, cs = R.cells o ∧ Q o)
    {fuel : Nat} {cs : List Value} {y : DataW H × List MemPlace} (h : Reads1 enc W fuel t cs y) (hs : Szd Tryz.prog t y.1) :
    ∃ A c, ∃ l : List α, cs = [.slice A l.length c] ∧ l.length ≤ c ∧ Reads W W.heap.size R.sz A l.length (rc R l) ∧ (∀ o ∈ l, Q o) ∧ l.length * Tryz.prog.bytesOf e ≤ reachBytes := by
  rcases open_slice ht h with ⟨hcs, hx⟩ | ⟨a', len, cap, m, n, D, Pl, hcs, _, hl, hm, hmm, hx, hi⟩
  · subst hcs
    exact ⟨none, 0, [], rfl, Nat.le_refl _, Reads.none_, by simp, by simp⟩
  · subst hcs
    simp only [if_true] at hmm
    subst hmm
    subst hx
    obtain ⟨hsz, hse⟩ := hs.slice ht
    simp only [List.length_map, List.length_range] at hsz
    have h3 := Nat.mul_le_mul_right (Tryz.prog.bytesOf e) (show len ≤ len + (m - len) by omega)
    have hall : ∀ i, i < len → ∃ o : α, Q o ∧ ∀ j v, (R.cells o)[j]? = some v → W.cell? (a'.add (i * R.sz + j)) = some v := by
      intro i hlt
      obtain ⟨cs', hc, ht'⟩ := hi i (by omega)
      rw [hC] at hc
      obtain ⟨o, ho, hq⟩ := hop n cs' _ ht' (hse _ (List.mem_map.2 ⟨i, List.mem_range.2 hlt, rfl⟩))
      obtain ⟨_, hcl, hat⟩ := World.cells?_some hc
      refine ⟨o, hq, fun j v hj => ?_⟩
      have hjl : j < R.sz := by rw [← R.len o]; exact (List.getElem?_eq_some_iff.1 hj).1
      rw [← Go.Deep.add_add, hat j hjl, ho, hj]
    obtain ⟨l, hlen, hP⟩ := list_of_lt' len hall
    refine ⟨some a', m, l, by rw [hlen], by omega, ⟨rc_len l, fun h0 => ?_⟩, fun o ho => ?_, by rw [hlen]; omega⟩
    · obtain ⟨o, _, hc⟩ := hall 0 (by omega)
      have hpos := R.pos
      have h00 : (R.cells o)[0]? = some ((R.cells o)[0]'(by rw [R.len]; exact hpos)) := List.getElem?_eq_getElem _
      have hc0 := hc 0 _ h00
      refine ⟨a', rfl, ?_, fun j u hu => ?_⟩
      · have := World.block_lt_of_cell? W _ hc0
        rwa [block_of_add] at this
      · have hj := (List.getElem?_eq_some_iff.1 hu).1
        rw [rc_len] at hj
        have hk : j / R.sz < l.length := Nat.div_lt_of_lt_mul (by rw [Nat.mul_comm]; exact hj)
        have hmod : j % R.sz < R.sz := Nat.mod_lt _ hpos
        have hdm : j / R.sz * R.sz + j % R.sz = j := by rw [Nat.mul_comm]; exact Nat.div_add_mod j R.sz
        have hcl := (hP _ _ (gr_get (R := R) hk)).2 (j % R.sz) u (by rw [← rc_at hk _ hmod, hdm]; exact hu)
        rw [hdm] at hcl
        exact hcl
    · obtain ⟨i, hi', hxe⟩ := List.mem_iff_getElem.1 ho
      exact (hP i o (by rw [List.getElem?_eq_getElem hi', hxe])).1
/-- an argument that is a slice -/
theorem open_rows {α : Type} (R : RowT α) (Q : α → Prop) {t e : TypeId} (ht : Tryz.prog.underlying t = some (.slice e)) (hC : Tryz.prog.cellsOf e = R.sz)
    (hop : ∀ fuel cs (y : DataW H × List MemPlace), Reads1 enc W fuel e cs y → Szd Tryz.prog e y.1 → ∃ o : α, cs = R.cells o ∧ Q o)
    {a : Option Addr} {len cap : Nat} {d : DataW H} {p : List MemPlace} (h : DataW.Trod enc Tryz.prog W 0 (fun _ => true) true t (.slice a len cap) d p) (hs : Szd Tryz.prog t d) :
    ∃ l : List α, len = l.length ∧ len ≤ cap ∧ Reads W W.heap.size R.sz a len (rc R l) ∧ (∀ o ∈ l, Q o) ∧ len * Tryz.prog.bytesOf e ≤ reachBytes := by
  obtain ⟨fuel, hf⟩ := h
  obtain ⟨A, c, l, hcs, h1, h2, h3, h4⟩ := rows_cell R Q ht hC hop (fuel := fuel) (cs := [.slice a len cap]) (y := (d, p)) (by simpa [Value.cells] using hf) hs
  simp only [List.cons.injEq, Value.slice.injEq, and_true] at hcs
  obtain ⟨rfl, rfl, rfl⟩ := hcs
  exact ⟨l, rfl, h1, h2, h3, h4⟩
end
end Go.Proofs.YtpidpdbjjdkhoaaGreat
