/- Entries opened out of what comes in: whatever lies in a cell of the type. -/
import Derived.Test.YtdcnfdhhflmdcaaOpn
import Derived.Test.YtdcnfdhhflmdcaaEntD
import Derived.SizedLaws
namespace Go.Proofs.Ytdcnfdhhflmdcaa
open Go.RowKit Go.ChangeShapes Go.WideShapes Go.Deep
set_option linter.unusedSimpArgs false
set_option linter.unusedVariables false
section
variable {H : Type} {enc : TypeId × Value → H} {P : Program} {w : World} {base : Nat} {spare : Nat → Bool} {held : Bool}
theorem open_slice_fields {t e : TypeId} {fs : Array Field} {fuel : Nat} {cs : List Value} {x : DataW H × List MemPlace} (ht : P.underlying t = some (.slice e)) (he : P.underlying e = some (.struct fs))
    (hone : oneCellFields P fs = true) (hC : P.cellsOf e = fs.size) (h : DataW.trod enc P w base spare held fuel t cs = some x) :
    (cs = [.slice none 0 0] ∧ x = (.nil, [])) ∨
    ∃ (a : Addr) (len cap m : Nat) (D : Nat → DataW H) (Pl : Nat → List MemPlace), cs = [.slice (some a) len cap] ∧ base ≤ a.block ∧ len ≤ cap ∧ cap ≤ maxLen ∧ m = (if spare a.block then cap else len) ∧
      x = (.slice ((List.range len).map D) ((List.range (m - len)).map fun j => D (len + j)), MemPlace.row a (m * fs.size) ++ (List.range m).flatMap Pl) ∧
      ∀ i, i < m → ∃ (ys : List (DataW H × List MemPlace)) (n : Nat), D i = .agg (ys.map (·.1)) ∧ Pl i = ys.flatMap (·.2) ∧ ys.length = fs.size ∧
        ∀ (j : Nat) (f : Field), fs[j]? = some f → ∃ (v : Value) (y : DataW H × List MemPlace), w.cell? (a.add (i * fs.size + j)) = some v ∧ ys[j]? = some y ∧ DataW.trod enc P w base spare held n f.type [v] = some y := by
  rcases open_slice ht h with h0 | ⟨a, len, cap, m, n, D, Pl, hcs, hb, hl, hm, hmm, hx, hi⟩
  · exact .inl h0
  · refine .inr ⟨a, len, cap, m, D, Pl, hcs, hb, hl, hm, hmm, by rw [hC] at hx; exact hx, fun i him => ?_⟩
    obtain ⟨cs', hc, ht'⟩ := hi i him
    rw [hC] at hc
    obtain ⟨ys, n', hn', hy, hlen, hyl, hf⟩ := DataW.trod_struct he ht'
    obtain ⟨_, hcl, hat⟩ := World.cells?_some hc
    simp only [Prod.mk.injEq] at hy
    refine ⟨ys, n', hy.1, hy.2, hyl, fun j f hj => ?_⟩
    obtain ⟨ho, hk⟩ := hone_of hone j f hj
    have hjl : j < fs.size := (Array.getElem?_eq_some_iff.1 hj).1
    have hcell := hat j hjl
    have hv : cs'[j]? = some (cs'[j]'(by omega)) := List.getElem?_eq_getElem (by omega)
    have h1 := hf j f hj
    rw [ho, hk] at h1
    have hone' : (cs'.drop j).take 1 = [cs'[j]'(by omega)] := by
      rw [List.drop_eq_getElem_cons (by omega)]
      rfl
    rw [hone'] at h1
    have hys : ys[j]? = some (ys[j]'(by omega)) := List.getElem?_eq_getElem (by omega)
    refine ⟨_, _, ?_, hys, h1.trans hys⟩
    rw [← Go.Deep.add_add, hcell, hv]
end

theorem list_of_lt {α : Type} {P : Nat → α → Prop} (n : Nat) (h : ∀ i, i < n → ∃ x, P i x) : ∃ l : List α, l.length = n ∧ ∀ i x, l[i]? = some x → P i x := by
  induction n with
  | zero => exact ⟨[], rfl, fun i x hx => by simp at hx⟩
  | succ n ih =>
    obtain ⟨l, hl, hP⟩ := ih (fun i hi => h i (by omega))
    obtain ⟨x, hx⟩ := h n (by omega)
    refine ⟨l ++ [x], by simp [hl], fun i y hy => ?_⟩
    rcases Nat.lt_or_ge i l.length with h1 | h1
    · rw [List.getElem?_append_left h1] at hy
      exact hP i y hy
    · rw [List.getElem?_append_right h1] at hy
      have h2 := (List.getElem?_eq_some_iff.1 hy).1
      simp at h2
      have h3 : i = n := by omega
      subst h3
      rw [show i - l.length = 0 by omega] at hy
      simp at hy
      subst hy
      exact hx
theorem list3 {α : Type} {l : List α} (h : l.length = 3) : ∃ a b c, l = [a, b, c] := by
  match l, h with
  | [a, b, c], _ => exact ⟨a, b, c, rfl⟩
/-! ### what is read weighs no more than what is reached -/
section
variable {H : Type} {P : Program}
def Sz (P : Program) (t : TypeId) (d : DataW H) : Prop := ∀ n ∈ d.weights P t, n ≤ reachBytes
theorem Sz.of_each {ts : List TypeId} {ds : List (DataW H)} (h : (DataW.weightsEach P ts ds).all (· ≤ reachBytes) = true) {j : Nat} {t : TypeId} {d : DataW H} (ht : ts[j]? = some t) (hd : ds[j]? = some d) : Sz P t d := fun n hn => by
  have := List.all_eq_true.1 h _ (DataW.weights_mem_each ht hd n hn)
  simpa using this
theorem all_mem {e : TypeId} : ∀ {l : List (DataW H)} {d : DataW H}, d ∈ l → ∀ n ∈ d.weights P e, n ∈ DataW.weightsAll P e l
  | x :: r, d, hd, n, hn => by
    simp only [DataW.weightsAll, List.mem_append]
    rcases List.mem_cons.1 hd with rfl | h
    · exact .inl hn
    · exact .inr (all_mem h n hn)
theorem Sz.slice {t e : TypeId} {es sp : List (DataW H)} (h : Sz P t (.slice es sp)) (hu : P.underlying t = some (.slice e)) : (es.length + sp.length) * P.bytesOf e ≤ reachBytes ∧ ∀ d ∈ es, Sz P e d := by
  refine ⟨h _ (by simp [DataW.weights, hu]), fun d hd n hn => h n ?_⟩
  simp only [DataW.weights, hu, List.mem_cons, List.mem_append]
  exact .inr (.inl (all_mem hd n hn))
theorem Sz.agg {t : TypeId} {fs : Array Field} {ps : List (DataW H)} (h : Sz P t (.agg ps)) (hu : P.underlying t = some (.struct fs)) {i : Nat} {f : Field} {d : DataW H} (hf : fs[i]? = some f) (hd : ps[i]? = some d) : Sz P f.type d := fun n hn => by
  refine h n ?_
  simp only [DataW.weights, hu]
  exact DataW.weights_mem_each (j := i) (by simp [hf]) hd n hn
end
section
variable {H : Type} {enc : TypeId × Value → H} {W : World}
theorem one_int {k : IntKind} {t fuel : Nat} {v : Value} {y : DataW H × List MemPlace} (ht : Try.prog.underlying t = some (.int k)) (h : DataW.trod enc Try.prog W 0 (fun _ => true) true fuel t [v] = some y) :
    ∃ n, v = .int k n ∧ (Lit.int k n).wf = true := by
  obtain ⟨n, hc, _, hw⟩ := DataW.trod_int ht h
  simp at hc
  exact ⟨n, hc, hw⟩
/-- a slice of writes, in a cell -/
theorem one_writes {fuel : Nat} {v : Value} {y : DataW H × List MemPlace} (h : DataW.trod enc Try.prog W 0 (fun _ => true) true fuel 33 [v] = some y) (hs : Sz Try.prog 33 y.1) :
    ∃ A c, ∃ l : List Wrt, v = .slice A l.length c ∧ Reads W W.heap.size 3 A l.length (wc l) ∧ l.length * 40 ≤ 140737488355328 := by
  rcases open_slice_fields Try.underlying33 Try.underlying76 (by kernel_rfl) (by kernel_rfl) h with ⟨hcs, _⟩ | ⟨a', len, cap, m, D, Pl, hcs, _, hl, hm, hmm, hx, hi⟩
  · simp at hcs
    subst hcs
    exact ⟨none, 0, [], rfl, Reads.none_, by simp⟩
  · simp at hcs
    subst hcs
    simp only [if_true] at hmm
    subst hmm
    subst hx
    have hsz := (hs.slice Try.underlying33).1
    have hb : decide (40 ≤ Try.prog.bytesOf 76) = true := by kernel_rfl
    have hb := of_decide_eq_true hb
    have hrb : reachBytes = 140737488351232 := by decide
    simp only [List.length_map, List.length_range] at hsz
    have h3 := Nat.mul_le_mul_left (len + (m - len)) hb
    have hall : ∀ i, i < len → ∃ o : Wrt, ∀ j v, (wcell o)[j]? = some v → W.cell? (a'.add (i * 3 + j)) = some v := by
      intro i hlt
      obtain ⟨ys, n, hD, _, hyl, hfs⟩ := hi i (by omega)
      obtain ⟨y0, y1, y2, rfl⟩ := list3 (show ys.length = 3 from hyl)
      obtain ⟨v0, z0, c0, e0, t0⟩ := hfs 0 _ rfl
      obtain ⟨v1, z1, c1, e1, t1⟩ := hfs 1 _ rfl
      obtain ⟨v2, z2, c2, e2, t2⟩ := hfs 2 _ rfl
      obtain ⟨s0, hs0, _, _⟩ := DataW.trod_string Try.underlying9 t0
      obtain ⟨s1, hs1, _, _⟩ := DataW.trod_string Try.underlying9 t1
      obtain ⟨tw, htw, _⟩ := DataW.trod_bool Try.underlying4 t2
      simp at hs0 hs1 htw
      subst hs0 hs1 htw
      refine ⟨⟨s0, s1, tw⟩, fun j v hj => ?_⟩
      have hj3 : j < 3 := (List.getElem?_eq_some_iff.1 hj).1
      rcases (show j = 0 ∨ j = 1 ∨ j = 2 by omega) with rfl | rfl | rfl
      · cases hj; exact c0
      · cases hj; exact c1
      · cases hj; exact c2
    obtain ⟨l, hlen, hP⟩ := list_of_lt len hall
    refine ⟨some a', m, l, by rw [hlen], ⟨by rw [wc_len], fun h0 => ?_⟩, by rw [hlen]; omega⟩
    obtain ⟨o, hc⟩ := hall 0 (by omega)
    have hc0 := hc 0 _ rfl
    refine ⟨a', rfl, ?_, fun j u hu => ?_⟩
    · have := World.block_lt_of_cell? W _ hc0
      rwa [block_of_add] at this
    · have hj := (List.getElem?_eq_some_iff.1 hu).1
      rw [wc_len] at hj
      have hk : j / 3 < l.length := by omega
      have hg : l[j / 3]? = some (gw l (j / 3)) := by rw [List.getElem?_eq_getElem hk, gw_at hk]
      have hcl := hP _ _ hg (j % 3) u ?_
      · rw [show j / 3 * 3 + j % 3 = j by omega] at hcl
        exact hcl
      · obtain ⟨q0, q1, q2⟩ := wc_at hk
        rcases (show j % 3 = 0 ∨ j % 3 = 1 ∨ j % 3 = 2 by omega) with h | h | h
        · rw [show j / 3 * 3 = j by omega] at q0
          rw [h, ← hu, q0]; rfl
        · rw [show j / 3 * 3 + 1 = j by omega] at q1
          rw [h, ← hu, q1]; rfl
        · rw [show j / 3 * 3 + 2 = j by omega] at q2
          rw [h, ← hu, q2]; rfl
/-- a slice of numbers, in a cell -/
theorem one_ints {fuel : Nat} {v : Value} {y : DataW H × List MemPlace} (h : DataW.trod enc Try.prog W 0 (fun _ => true) true fuel 22 [v] = some y) (hs : Sz Try.prog 22 y.1) :
    ∃ A c, ∃ l : List Int, v = .slice A l.length c ∧ Reads W W.heap.size 1 A l.length (ic l) ∧ l.length * 8 ≤ 140737488355328 := by
  rcases open_ints Try.underlying22 Try.underlying3 (by kernel_rfl) h with ⟨hcs, rfl⟩ | ⟨a, len, cap, zs, hcs, _, hl, hm, hz, hx, hcell, hwz⟩
  · simp at hcs
    subst hcs
    exact ⟨none, 0, [], rfl, Reads.none_, by simp⟩
  · simp at hcs
    subst hcs
    simp only [if_true] at hz
    subst hx
    have hsz := (hs.slice Try.underlying22).1
    have hb : decide (8 ≤ Try.prog.bytesOf 3) = true := by kernel_rfl
    have hb := of_decide_eq_true hb
    have hrb : reachBytes = 140737488351232 := by decide
    have h3 := Nat.mul_le_mul_left ((lits .i64 (zs.take len) : List (DataW H)).length + (lits .i64 (zs.drop len) : List (DataW H)).length) hb
    have hll : (lits .i64 (zs.take len) : List (DataW H)).length = len := by simp [lits]; omega
    have htl : (zs.take len).length = len := by rw [List.length_take]; omega
    refine ⟨some a, cap, zs.take len, by rw [htl], ⟨by rw [ic_len]; omega, fun h0 => ?_⟩, by rw [htl]; omega⟩
    rw [htl] at h0
    have h00 := hcell 0 (by omega)
    refine ⟨a, rfl, ?_, ?_⟩
    · have := World.block_lt_of_cell? W _ h00
      rw [block_of_add] at this
      exact this
    · intro j u hu
      have hj := (List.getElem?_eq_some_iff.1 hu).1
      rw [ic_len, htl] at hj
      rw [hcell j (by omega), ← hu]
      simp only [ic, List.getElem?_map, List.getElem?_take, if_pos (show j < len by omega), List.getD_eq_getElem?_getD, List.getElem?_eq_getElem (show j < zs.length by omega), Option.getD_some, Option.map_some]
theorem list13 {α : Type} {l : List α} (h : l.length = 13) : ∃ a b c d e f g h i j k m n, l = [a, b, c, d, e, f, g, h, i, j, k, m, n] := by
  match l, h with
  | [a, b, c, d, e, f, g, h, i, j, k, m, n], _ => exact ⟨a, b, c, d, e, f, g, h, i, j, k, m, n, rfl⟩
/-- thirteen cells that hold an entry -/
theorem one_entry {fuel : Nat} {cs : List Value} {y : DataW H × List MemPlace} (h : DataW.trod enc Try.prog W 0 (fun _ => true) true fuel 37 cs = some y) (hs : Sz Try.prog 37 y.1) (hcs : cs.length = 13) :
    ∃ m : MEnt, cs = mcell m ∧ Fine W W.heap.size m ∧ SmallE m := by
  obtain ⟨v0, v1, v2, v3, v4, v5, v6, v7, v8, v9, v10, v11, v12, rfl⟩ := list13 hcs
  obtain ⟨xs, n, rfl, rfl, _, hxl, hf⟩ := DataW.trod_struct Try.underlying37 h
  obtain ⟨x0, x1, rfl⟩ : ∃ a b, xs = [a, b] := by
    match xs, hxl with
    | [a, b], _ => exact ⟨a, b, rfl⟩
  have f0 := hf 0 _ rfl
  have f1 := hf 1 _ rfl
  have hs1 : Sz Try.prog 35 x1.1 := hs.agg Try.underlying37 (i := 1) rfl rfl
  obtain ⟨t0, rfl, _⟩ := one_int Try.underlying3 f0
  obtain ⟨ys, n2, _, rfl, _, hyl, hg⟩ := DataW.trod_struct Try.underlying35 f1
  obtain ⟨y0, y1, y2, y3, y4, y5, y6, y7, y8, y9, y10, rfl⟩ : ∃ a b c d e f g h i j k, ys = [a, b, c, d, e, f, g, h, i, j, k] := by
    match ys, hyl with
    | [a, b, c, d, e, f, g, h, i, j, k], _ => exact ⟨a, b, c, d, e, f, g, h, i, j, k, rfl⟩
  have g0 := hg 0 _ rfl
  have g1 := hg 1 _ rfl
  have g2 := hg 2 _ rfl
  have g3 := hg 3 _ rfl
  have g4 := hg 4 _ rfl
  have g5 := hg 5 _ rfl
  have g6 := hg 6 _ rfl
  have g7 := hg 7 _ rfl
  have g8 := hg 8 _ rfl
  have g9 := hg 9 _ rfl
  have g10 := hg 10 _ rfl
  obtain ⟨u0, rfl, _⟩ := one_int Try.underlying3 g0
  obtain ⟨zs, n3, _, rfl, _, hzl, hh⟩ := DataW.trod_struct Try.underlying32 g1
  obtain ⟨z0, z1, rfl⟩ : ∃ a b, zs = [a, b] := by
    match zs, hzl with
    | [a, b], _ => exact ⟨a, b, rfl⟩
  have k0 := hh 0 _ rfl
  have k1 := hh 1 _ rfl
  obtain ⟨u1, rfl, _⟩ := one_int Try.underlying3 k0
  obtain ⟨u2, rfl, _⟩ := one_int Try.underlying3 k1
  obtain ⟨u3, rfl, _⟩ := one_int Try.underlying3 g2
  obtain ⟨s, hsv, _, _⟩ := DataW.trod_string (cs := [v5]) Try.underlying9 g3
  simp at hsv
  subst hsv
  obtain ⟨u5, rfl, _⟩ := one_int Try.underlying3 g4
  obtain ⟨A1, c1, ws, rfl, hr1, hl1⟩ := one_writes g5 (hs1.agg Try.underlying35 (i := 5) rfl rfl)
  obtain ⟨A2, c2, gs, rfl, hr2, hl2⟩ := one_ints g6 (hs1.agg Try.underlying35 (i := 6) rfl rfl)
  obtain ⟨u8, rfl, _⟩ := one_int Try.underlying3 g7
  obtain ⟨u9, rfl, _⟩ := one_int Try.underlying3 g8
  obtain ⟨u10, rfl, _⟩ := one_int Try.underlying28 g9
  obtain ⟨u11, rfl, _⟩ := one_int Try.underlying3 g10
  exact ⟨⟨⟨t0, u0, u1, u2, u3, s, u5, ws, gs, u8, u9, u10, u11⟩, A1, c1, A2, c2⟩, rfl, ⟨hr1, hr2⟩, ⟨hl1, hl2⟩⟩
/-- a slice of entries, in a cell -/
theorem one_entries {fuel : Nat} {v : Value} {y : DataW H × List MemPlace} (h : DataW.trod enc Try.prog W 0 (fun _ => true) true fuel 41 [v] = some y) (hs : Sz Try.prog 41 y.1) :
    ∃ A c, ∃ ms : List MEnt, v = .slice A ms.length c ∧ ms.length ≤ c ∧ Ents W W.heap.size A ms.length ms ∧ SmallL ms := by
  have hC : Try.prog.cellsOf 37 = 13 := by kernel_rfl
  rcases open_slice Try.underlying41 h with ⟨hcs, _⟩ | ⟨a, len, cap, m, n, D, Pl, hcs, _, hl, hm, hmm, rfl, hi⟩
  · simp at hcs
    subst hcs
    exact ⟨none, 0, [], rfl, Nat.le_refl _, ⟨Reads.none_, by simp⟩, ⟨by simp, by simp⟩⟩
  · simp at hcs
    subst hcs
    simp only [if_true] at hmm
    subst hmm
    obtain ⟨hsz, hse⟩ := hs.slice Try.underlying41
    have hb : decide (144 ≤ Try.prog.bytesOf 37) = true := by kernel_rfl
    have hb := of_decide_eq_true hb
    have hrb : reachBytes = 140737488351232 := by decide
    simp only [List.length_map, List.length_range] at hsz
    have h3 := Nat.mul_le_mul_left (len + (m - len)) hb
    have hall : ∀ i, i < len → ∃ x : MEnt, (∀ j v, (mcell x)[j]? = some v → W.cell? (a.add (i * 13 + j)) = some v) ∧ Fine W W.heap.size x ∧ SmallE x := by
      intro i hlt
      obtain ⟨cs', hc, ht⟩ := hi i (by omega)
      rw [hC] at hc
      obtain ⟨_, hcl, hat⟩ := World.cells?_some hc
      obtain ⟨x, rfl, hfx, hsx⟩ := one_entry ht (hse _ (List.mem_map.2 ⟨i, List.mem_range.2 hlt, rfl⟩)) hcl
      refine ⟨x, fun j v hj => ?_, hfx, hsx⟩
      have hj13 : j < 13 := (List.getElem?_eq_some_iff.1 hj).1
      have := hat j hj13
      rw [Go.Deep.add_add] at this
      rw [this, ← hj, List.getElem?_eq_getElem (by rw [mcell_len]; exact hj13)]
    obtain ⟨ms, hlen, hP⟩ := list_of_lt len hall
    refine ⟨some a, m, ms, by rw [hlen], by omega, ⟨⟨mc_len ms, fun h0 => ?_⟩, fun x hx => ?_⟩, ⟨by rw [hlen]; omega, fun x hx => ?_⟩⟩
    · obtain ⟨x, hx, _⟩ := hall 0 (by omega)
      have hc0 := hx 0 _ rfl
      refine ⟨a, rfl, ?_, fun j u hu => ?_⟩
      · have := World.block_lt_of_cell? W _ hc0
        rwa [block_of_add] at this
      · have hj := (List.getElem?_eq_some_iff.1 hu).1
        rw [mc_len] at hj
        have hk : j / 13 < ms.length := by omega
        have hg : ms[j / 13]? = some (gme ms (j / 13)) := by rw [List.getElem?_eq_getElem hk, gme_at hk]
        have hcl := (hP _ _ hg).1 (j % 13) u (by rw [← mc_at hk _ (by omega), show j / 13 * 13 + j % 13 = j by omega]; exact hu)
        rw [show j / 13 * 13 + j % 13 = j by omega] at hcl
        exact hcl
    · obtain ⟨i, hi', hxe⟩ := List.mem_iff_getElem.1 hx
      exact (hP i x (by rw [List.getElem?_eq_getElem hi', hxe])).2.1
    · obtain ⟨i, hi', hxe⟩ := List.mem_iff_getElem.1 hx
      exact (hP i x (by rw [List.getElem?_eq_getElem hi', hxe])).2.2
end
end Go.Proofs.Ytdcnfdhhflmdcaa
