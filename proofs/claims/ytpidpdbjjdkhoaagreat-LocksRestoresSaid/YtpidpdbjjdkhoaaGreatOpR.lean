/- Locks, Restore: locks and rows of identities opened out of what comes in. -/
import Derived.Test.YtpidpdbjjdkhoaaGreatOpL
import Derived.Test.YtpidpdbjjdkhoaaGreatGyH
namespace Go.Proofs.YtpidpdbjjdkhoaaGreat
open Go.RowKit Go.ChangeShapes Go.WideShapes Go.Deep
set_option linter.unusedSimpArgs false
set_option linter.unusedVariables false
section
variable {H : Type} {enc : TypeId × Value → H} {W : World}
theorem open_lks {a : Option Addr} {len cap : Nat} {d : DataW H} {p : List MemPlace} (h : DataW.Trod enc Tryz.prog W 0 (fun _ => true) true 34 (.slice a len cap) d p) (hs : Szd Tryz.prog 34 d) :
    ∃ l : List Lk, len = l.length ∧ Reads W W.heap.size 4 a len (rc lkR l) := by
  obtain ⟨l, h1, _, h3, _, _⟩ := open_rows lkR (fun _ => True) Tryz.underlying34 (by kernel_rfl) (fun f cs y h _ => (lck_cells f cs y h).imp fun _ e => ⟨e, trivial⟩) h hs
  exact ⟨l, h1, h3⟩
theorem mark_cells (fuel : Nat) (cs : List Value) (y : DataW H × List MemPlace) (h : Reads1 enc W fuel 36 cs y) (hs : Szd Tryz.prog 36 y.1) : ∃ o : MRow, cs = mkR.cells o ∧ IsMark W o := by
  obtain ⟨A, c, l, h1, _, h3, _, h5⟩ := rows_cell idR (fun _ => True) Tryz.underlying36 (by kernel_rfl) (fun f cs y h _ => (idn_cells f cs y h).imp fun _ e => ⟨e, trivial⟩) h hs
  have hb : Tryz.prog.bytesOf 29 = 16 := by kernel_rfl
  rw [hb] at h5
  exact ⟨⟨A, c, l⟩, h1, h3, by simp only [reachBytes] at h5; show l.length ≤ 8796093022208; omega⟩
theorem open_marks {a : Option Addr} {len cap : Nat} {d : DataW H} {p : List MemPlace} (h : DataW.Trod enc Tryz.prog W 0 (fun _ => true) true 35 (.slice a len cap) d p) (hs : Szd Tryz.prog 35 d) :
    ∃ ms : List MRow, len = ms.length ∧ Reads W W.heap.size 1 a len (rc mkR ms) ∧ ∀ x ∈ ms, IsMark W x := by
  obtain ⟨l, h1, _, h3, h4, _⟩ := open_rows mkR (IsMark W) Tryz.underlying35 (by kernel_rfl) mark_cells h hs
  exact ⟨l, h1, h3, h4⟩
end
end Go.Proofs.YtpidpdbjjdkhoaaGreat
