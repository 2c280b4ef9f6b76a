/- Locks: identities, locks, acts, numbers opened out of what comes in. -/
import Derived.Test.YtpidpdbjjdkhoaaGreatOpG
import Derived.Test.YtpidpdbjjdkhoaaGreatGzL
namespace Go.Proofs.YtpidpdbjjdkhoaaGreat
open Go.RowKit Go.ChangeShapes Go.WideShapes Go.Deep
set_option linter.unusedSimpArgs false
set_option linter.unusedVariables false
def inR : RowT Int := ⟨fun n => [.int .i64 n], 1, 0, by decide, fun _ => rfl, fun x u hu => by
  simp only [List.mem_cons, List.mem_nil_iff, or_false] at hu
  rw [hu]; rfl⟩
theorem in_map (l : List Int) : rc inR l = l.map (Value.int .i64) := by
  induction l with
  | nil => rfl
  | cons x r ih => rw [rc_cons, ih]; rfl
section
variable {H : Type} {enc : TypeId × Value → H} {W : World}
theorem num_cells (fuel : Nat) (cs : List Value) (y : DataW H × List MemPlace) (h : Reads1 enc W fuel 3 cs y) : ∃ o : Int, cs = inR.cells o ∧ (Lit.int .i64 o).wf = true := int_cell Tryz.underlying3 h
theorem idn_cells (fuel : Nat) (cs : List Value) (y : DataW H × List MemPlace) (h : Reads1 enc W fuel 29 cs y) : ∃ o : Idn, cs = idR.cells o := by
  obtain ⟨hl, ys, n, hy, hf⟩ := fields_cut Tryz.underlying29 h
  obtain ⟨z0, _, t0⟩ := hf 0 3 0 1 (by kernel_rfl)
  obtain ⟨a, ha, _⟩ := int_cell Tryz.underlying3 t0
  obtain ⟨z1, _, t1⟩ := hf 1 3 1 1 (by kernel_rfl)
  obtain ⟨b, hb, _⟩ := int_cell Tryz.underlying3 t1
  have hc : Tryz.prog.cellsOf 29 = 2 := by kernel_rfl
  rw [hc] at hl
  match cs, hl with
  | [u0, u1], _ =>
    simp at ha hb
    exact ⟨⟨a, b⟩, by rw [ha, hb]; rfl⟩
theorem lck_cells (fuel : Nat) (cs : List Value) (y : DataW H × List MemPlace) (h : Reads1 enc W fuel 62 cs y) : ∃ o : Lk, cs = lkR.cells o := by
  obtain ⟨hl, ys, n, hy, hf⟩ := fields_cut Tryz.underlying62 h
  obtain ⟨z0, _, t0⟩ := hf 0 9 0 1 (by kernel_rfl)
  obtain ⟨s, hs⟩ := str_cell Tryz.underlying9 t0
  obtain ⟨z1, _, t1⟩ := hf 1 29 1 2 (by kernel_rfl)
  obtain ⟨i, hi⟩ := idn_cells _ _ _ t1
  obtain ⟨z2, _, t2⟩ := hf 2 3 3 1 (by kernel_rfl)
  obtain ⟨b, hb, _⟩ := int_cell Tryz.underlying3 t2
  have hc : Tryz.prog.cellsOf 62 = 4 := by kernel_rfl
  rw [hc] at hl
  match cs, hl with
  | [u0, u1, u2, u3], _ =>
    simp at hs hi hb
    simp only [idR, List.cons.injEq, and_true] at hi
    exact ⟨⟨s, i, b⟩, by rw [hs, hi.1, hi.2, hb]; rfl⟩
theorem act_cells (fuel : Nat) (cs : List Value) (y : DataW H × List MemPlace) (h : Reads1 enc W fuel 31 cs y) : ∃ o : LOp, cs = opR.cells o := by
  obtain ⟨hl, ys, n, hy, hf⟩ := fields_cut Tryz.underlying31 h
  obtain ⟨z0, _, t0⟩ := hf 0 3 0 1 (by kernel_rfl)
  obtain ⟨k, hk, _⟩ := int_cell Tryz.underlying3 t0
  obtain ⟨z1, _, t1⟩ := hf 1 29 1 2 (by kernel_rfl)
  obtain ⟨i, hi⟩ := idn_cells _ _ _ t1
  obtain ⟨z2, _, t2⟩ := hf 2 9 3 1 (by kernel_rfl)
  obtain ⟨s, hs⟩ := str_cell Tryz.underlying9 t2
  obtain ⟨z3, _, t3⟩ := hf 3 3 4 1 (by kernel_rfl)
  obtain ⟨b, hb, _⟩ := int_cell Tryz.underlying3 t3
  have hc : Tryz.prog.cellsOf 31 = 5 := by kernel_rfl
  rw [hc] at hl
  match cs, hl with
  | [u0, u1, u2, u3, u4], _ =>
    simp at hk hi hs hb
    simp only [idR, List.cons.injEq, and_true] at hi
    exact ⟨⟨k, i, s, b⟩, by rw [hk, hi.1, hi.2, hs, hb]; rfl⟩
theorem open_lops {a : Option Addr} {len cap : Nat} {d : DataW H} {p : List MemPlace} (h : DataW.Trod enc Tryz.prog W 0 (fun _ => true) true 22 (.slice a len cap) d p) (hs : Szd Tryz.prog 22 d) :
    ∃ l : List LOp, len = l.length ∧ Reads W W.heap.size 5 a len (rc opR l) := by
  obtain ⟨l, h1, _, h3, _, _⟩ := open_rows opR (fun _ => True) Tryz.underlying22 (by kernel_rfl) (fun f cs y h _ => (act_cells f cs y h).imp fun _ e => ⟨e, trivial⟩) h hs
  exact ⟨l, h1, h3⟩
theorem open_nums {a : Option Addr} {len cap : Nat} {d : DataW H} {p : List MemPlace} (h : DataW.Trod enc Tryz.prog W 0 (fun _ => true) true 124 (.slice a len cap) d p) (hs : Szd Tryz.prog 124 d) :
    ∃ l : List Int, len = l.length ∧ Reads W W.heap.size 1 a len (l.map (Value.int .i64)) := by
  obtain ⟨l, h1, _, h3, _, _⟩ := open_rows inR (fun _ => True) Tryz.underlying124 (by kernel_rfl) (fun f cs y h _ => (num_cells f cs y h).imp fun _ e => ⟨e.1, trivial⟩) h hs
  rw [in_map] at h3
  exact ⟨l, h1, h3⟩
end
end Go.Proofs.YtpidpdbjjdkhoaaGreat
