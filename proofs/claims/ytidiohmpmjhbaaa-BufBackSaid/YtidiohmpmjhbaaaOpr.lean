/- What comes in, opened without a bound on its bulk. -/
import Derived.Test.YtidiohmpmjhbaaaOpn
namespace Go.Proofs.Ytidiohmpmjhbaaa
open Go.RowKit Go.ChangeShapes Go.WideShapes Go.Deep
section
variable {H : Type} {enc : TypeId × Value → H} {W : World}
theorem slice_len {t e : TypeId} {a : Option Addr} {len cap : Nat} {d : DataW H} {p : List MemPlace} (ht : Try.prog.underlying t = some (.slice e)) (h : DataW.Trod enc Try.prog W 0 (fun _ => true) true t (.slice a len cap) d p) :
    len = 0 ∨ ∃ es sp, d = .slice es sp ∧ es.length = len := by
  obtain ⟨fuel, hf⟩ := h
  rcases open_slice ht hf with ⟨hcs, _⟩ | ⟨a', len', cap', m, n, D, Pl, hcs, hb, hl, hm, hmm, hx, hi⟩
  · simp [Value.cells] at hcs
    exact .inl hcs.2.1
  · simp [Value.cells] at hcs
    obtain ⟨rfl, rfl, rfl⟩ := hcs
    simp only [Prod.mk.injEq] at hx
    exact .inr ⟨_, _, hx.1, by simp⟩
theorem open_bytes {a : Option Addr} {len cap : Nat} {d : DataW H} {p : List MemPlace} (h : DataW.Trod enc Try.prog W 0 (fun _ => true) true 30 (.slice a len cap) d p) :
    ∃ xs : List UInt8, len = xs.length ∧ Reads W W.heap.size 1 a len (bc xs) := by
  obtain ⟨fuel, hf⟩ := h
  obtain ⟨A, c, xs, hv, hr, _⟩ := one_bytes hf
  injection hv with h1 h2 h3
  subst h1 h2 h3
  exact ⟨xs, rfl, hr⟩
theorem open_ops' {a : Option Addr} {len cap : Nat} {d : DataW H} {p : List MemPlace} (h : DataW.Trod enc Try.prog W 0 (fun _ => true) true 22 (.slice a len cap) d p) :
    ∃ ops, OpsAt W W.heap.size a len ops := by
  obtain ⟨fuel, hf⟩ := h
  rcases open_slice_fields Try.underlying22 Try.underlying32 (by kernel_rfl) (by kernel_rfl) hf with ⟨hcs, _⟩ | ⟨a', len', cap', m, D, Pl, hcs, _, hl, hm, hmm, hx, hi⟩
  · simp [Value.cells] at hcs
    obtain ⟨rfl, rfl, rfl⟩ := hcs
    exact ⟨[], rfl, fun h => by omega⟩
  · simp [Value.cells] at hcs
    obtain ⟨rfl, rfl, rfl⟩ := hcs
    simp only [if_true] at hmm
    subst hmm
    have hall : ∀ i, i < len → ∃ o : OpD, ∃ Ab cb, o.Fine W W.heap.size Ab ∧ ∀ j v, (opCells o Ab cb)[j]? = some v → W.cell? (a'.add (i * 6 + j)) = some v := by
      intro i hlt
      obtain ⟨ys, n, hD, _, hyl, hfs⟩ := hi i (by omega)
      obtain ⟨y0, y1, y2, y3, y4, y5, rfl⟩ := list6 (show ys.length = 6 from hyl)
      obtain ⟨v0, z0, c0, e0, t0⟩ := hfs 0 _ rfl
      obtain ⟨v1, z1, c1, e1, t1⟩ := hfs 1 _ rfl
      obtain ⟨v2, z2, c2, e2, t2⟩ := hfs 2 _ rfl
      obtain ⟨v3, z3, c3, e3, t3⟩ := hfs 3 _ rfl
      obtain ⟨v4, z4, c4, e4, t4⟩ := hfs 4 _ rfl
      obtain ⟨v5, z5, c5, e5, t5⟩ := hfs 5 _ rfl
      simp at e0 e1 e2 e3 e4 e5
      subst e0 e1 e2 e3 e4 e5
      obtain ⟨kd, rfl, _⟩ := one_int Try.underlying3 t0
      obtain ⟨nn, rfl, w1⟩ := one_int Try.underlying29 t1
      obtain ⟨ii, rfl, w2⟩ := one_int Try.underlying3 t2
      obtain ⟨s, hs, _, _⟩ := DataW.trod_string Try.underlying9 t3
      obtain ⟨Ab, cb, xs, rfl, hr, _⟩ := one_bytes t4
      obtain ⟨tw, htw, _⟩ := DataW.trod_bool Try.underlying4 t5
      simp at hs htw
      subst hs htw
      simp [Lit.wf, IntKind.min, IntKind.max, IntKind.bits, IntKind.signed] at w1 w2
      obtain ⟨nn, rfl⟩ := Int.eq_ofNat_of_zero_le w1.1
      refine ⟨⟨kd, nn, ii, s, xs, tw⟩, Ab, cb, ⟨by simp only; omega, by simp only; omega, by simp only; omega, hr⟩, ?_⟩
      intro j v hj
      have hj6 : j < 6 := (Array.getElem?_eq_some_iff.1 hj).1
      rcases (show j = 0 ∨ j = 1 ∨ j = 2 ∨ j = 3 ∨ j = 4 ∨ j = 5 by omega) with rfl | rfl | rfl | rfl | rfl | rfl
      · cases hj; exact c0
      · cases hj; exact c1
      · cases hj; exact c2
      · cases hj; exact c3
      · cases hj; exact c4
      · cases hj; exact c5
    obtain ⟨ops, hlen, hP⟩ := list_of_lt (P := fun i (o : OpD) => ∃ Ab cb, o.Fine W W.heap.size Ab ∧ ∀ j v, (opCells o Ab cb)[j]? = some v → W.cell? (a'.add (i * 6 + j)) = some v) len hall
    refine ⟨ops, hlen, fun h0 => ?_⟩
    obtain ⟨o, Ab, cb, _, hc⟩ := hall 0 h0
    have hc0 := hc 0 _ rfl
    have hsp : a'.spot = none := by
      have := spot_none hc0
      simpa [Addr.add] using this
    obtain ⟨b, off, sp⟩ := a'
    simp only at hsp
    subst hsp
    refine ⟨b, off, rfl, ?_, fun i o ho => ?_⟩
    · have := World.block_lt_of_cell? W _ hc0
      rwa [block_of_add] at this
    · obtain ⟨Ab, cb, hfn, hcell⟩ := hP i o ho
      refine ⟨Ab, cb, hfn, fun j v hv => ?_⟩
      have := hcell j v hv
      rwa [Addr.add_lit, ← Nat.add_assoc] at this
end
end Go.Proofs.Ytidiohmpmjhbaaa
