/-
  No cell of these rows narrows 'for every input' (looked for: loops, veiled, ifaces, maps, wideKeys, modest, calm, conditions, laid).
  DERIVED. THE GIVEN ROWS OF THIS SEAT. 4 by the template 'for every input the law returns true; each argument reads behind the call as it read before'; 0 by the template 'total and deterministic' (their statements: YtdcnfdhhflmdcaaTotals.lean).
  GIVEN WITH THE SEED: the statements are not yours to turn. If you find one false, say at which input.
  Laid BY PROGRAM, IN A SANDBOX (cutbox-rows.mjs): the forced cells as the released guide's own fill.sh prints them over the translation f2ac383ca45f036a… (all of the seat's roots in one cut). By AI agents, Wed Nov 11 2026. No macro, syntax, notation, axiom, sorry.
-/
import Derived.Test.YtdcnfdhhflmdcaaChecked
import GoSem.Claim
import GoSem.ClaimJoined
import GoSem.ClaimMapViews
import Derived.JoinedTies
import Derived.KernelRfl
namespace Go.Proofs.Ytdcnfdhhflmdcaa
/- THE CELL 'sum', in the pinned program and in every row, IS THE sha256 OF THE DUMP (.gsa) THAT YtdcnfdhhflmdcaaProg.lean LOADS. Nothing in Lean hashes anything: it is a label: what it is worth is what the hold of that sum in a sandbox is worth. -/
noncomputable def Try.pinned : Pinned := { name := "ytdcnfdhhflmdcaa", sum := "f2ac383ca45f036ae5507988b0ac0d0426d890871429687f1d97e4f7a6b6dd36", checked := Try.checked }
namespace Rows
def none {H : Type} : Left H := { results := [], args := [] }

/-- 'bursarlaw11.RlogMatch': WHATEVER THE INPUT: true; the input reads as it did. -/
def rlogMatchSpec : ChangeSpec := { name := "rlogMatch", fn := fun _ => fun
  | [d] => { results := [.lit (.bool true)], args := [d] }
  | _ => none }
def rlogMatchRow : OpenClaim := { program := "ytdcnfdhhflmdcaa", sum := "f2ac383ca45f036ae5507988b0ac0d0426d890871429687f1d97e4f7a6b6dd36", func := "bursar/bursarlaw11.RlogMatch", spec := "rlogMatch", apart := false }
def RlogMatchSaid : Prop := rlogMatchRow.holds Try.pinned (OpenSpec.ofChange rlogMatchSpec)

/-- ITS FALSE NEIGHBOUR: 'it returns false'. Refute it at one input. -/
def rlogMatchWrong : ChangeSpec := { name := "rlogMatch", fn := fun _ => fun
  | [d] => { results := [.lit (.bool false)], args := [d] }
  | _ => none }
def RlogMatchWrongFalsely : Prop := rlogMatchRow.holds Try.pinned (OpenSpec.ofChange rlogMatchWrong)

/-- 'bursarlaw11.RlogRises': WHATEVER THE INPUT: true; the input reads as it did. -/
def rlogRisesSpec : ChangeSpec := { name := "rlogRises", fn := fun _ => fun
  | [d] => { results := [.lit (.bool true)], args := [d] }
  | _ => none }
def rlogRisesRow : OpenClaim := { program := "ytdcnfdhhflmdcaa", sum := "f2ac383ca45f036ae5507988b0ac0d0426d890871429687f1d97e4f7a6b6dd36", func := "bursar/bursarlaw11.RlogRises", spec := "rlogRises", apart := false }
def RlogRisesSaid : Prop := rlogRisesRow.holds Try.pinned (OpenSpec.ofChange rlogRisesSpec)

/-- ITS FALSE NEIGHBOUR: 'it returns false'. Refute it at one input. -/
def rlogRisesWrong : ChangeSpec := { name := "rlogRises", fn := fun _ => fun
  | [d] => { results := [.lit (.bool false)], args := [d] }
  | _ => none }
def RlogRisesWrongFalsely : Prop := rlogRisesRow.holds Try.pinned (OpenSpec.ofChange rlogRisesWrong)

/-- 'bursarlaw11.RlogBase': WHATEVER THE INPUT: true; the input reads as it did. -/
def rlogBaseSpec : ChangeSpec := { name := "rlogBase", fn := fun _ => fun
  | [d1, d2, d3, d4] => { results := [.lit (.bool true)], args := [d1, d2, d3, d4] }
  | _ => none }
def rlogBaseRow : OpenClaim := { program := "ytdcnfdhhflmdcaa", sum := "f2ac383ca45f036ae5507988b0ac0d0426d890871429687f1d97e4f7a6b6dd36", func := "bursar/bursarlaw11.RlogBase", spec := "rlogBase", apart := false }
def RlogBaseSaid : Prop := rlogBaseRow.holds Try.pinned (OpenSpec.ofChange rlogBaseSpec)

/-- ITS FALSE NEIGHBOUR: 'it returns false'. Refute it at one input. -/
def rlogBaseWrong : ChangeSpec := { name := "rlogBase", fn := fun _ => fun
  | [d1, d2, d3, d4] => { results := [.lit (.bool false)], args := [d1, d2, d3, d4] }
  | _ => none }
def RlogBaseWrongFalsely : Prop := rlogBaseRow.holds Try.pinned (OpenSpec.ofChange rlogBaseWrong)

/-- 'bursarlaw11.RlogPlays': WHATEVER THE INPUT: true; the input reads as it did. -/
def rlogPlaysSpec : ChangeSpec := { name := "rlogPlays", fn := fun _ => fun
  | [d1, d2, d3, d4] => { results := [.lit (.bool true)], args := [d1, d2, d3, d4] }
  | _ => none }
def rlogPlaysRow : OpenClaim := { program := "ytdcnfdhhflmdcaa", sum := "f2ac383ca45f036ae5507988b0ac0d0426d890871429687f1d97e4f7a6b6dd36", func := "bursar/bursarlaw11.RlogPlays", spec := "rlogPlays", apart := false }
def RlogPlaysSaid : Prop := rlogPlaysRow.holds Try.pinned (OpenSpec.ofChange rlogPlaysSpec)

/-- ITS FALSE NEIGHBOUR: 'it returns false'. Refute it at one input. -/
def rlogPlaysWrong : ChangeSpec := { name := "rlogPlays", fn := fun _ => fun
  | [d1, d2, d3, d4] => { results := [.lit (.bool false)], args := [d1, d2, d3, d4] }
  | _ => none }
def RlogPlaysWrongFalsely : Prop := rlogPlaysRow.holds Try.pinned (OpenSpec.ofChange rlogPlaysWrong)

/- THE SECOND FORM. 'bulk': how many values and letters a reading holds, each counted each time it is reached (what is shared counts as often as it is met; a slice's spare places count too). A statement '..UptoSaid' is the law's where the arguments, and the package variables that the reading takes, are together of bulk at most 1048576: NARROWER than '..Said'. Prove '..Said' where nothing that the law and all that it calls make is longer than what came in: it says more and counts as full. Else prove '..UptoSaid'. A law counts once. -/
mutual
def uptoBulk {H : Type} : DataW H → Nat
  | .lit (.string bytes) => bytes.length + 1
  | .lit _ => 1
  | .nil => 1
  | .ptr d => uptoBulk d + 1
  | .slice elems spare => uptoBulkAll elems + uptoBulkAll spare + 1
  | .agg parts => uptoBulkAll parts + 1
  | .iface _ d => uptoBulk d + 1
  | .map entries => uptoBulkEntries entries + 1
  | .held _ => 1
def uptoBulkAll {H : Type} : List (DataW H) → Nat
  | [] => 0
  | d :: r => uptoBulk d + uptoBulkAll r
def uptoBulkEntries {H : Type} : List (Lit × DataW H) → Nat
  | [] => 0
  | x :: r => uptoBulkEntry x + uptoBulkEntries r
def uptoBulkEntry {H : Type} : Lit × DataW H → Nat
  | (.string bytes, d) => bytes.length + uptoBulk d + 1
  | (_, d) => uptoBulk d + 1
 end
def uptoSmall : (H : Type) → List (DataW H) → Bool := fun _ ds => decide (uptoBulkAll ds ≤ 1048576)
def OpenSpec.upto (s : _root_.Go.ChangeSpec) : _root_.Go.OpenSpec := { _root_.Go.OpenSpec.ofChange s with cond := some uptoSmall }

/-- 'bursarlaw11.RlogMatch', WHERE WHAT IT READS IS OF BULK AT MOST 1048576: true; the input reads as it did. -/
def rlogMatchUptoRow : OpenClaim := { program := "ytdcnfdhhflmdcaa", sum := "f2ac383ca45f036ae5507988b0ac0d0426d890871429687f1d97e4f7a6b6dd36", func := "bursar/bursarlaw11.RlogMatch", spec := "rlogMatch", apart := false, narrowed := true }
def RlogMatchUptoSaid : Prop := rlogMatchUptoRow.holds Try.pinned (OpenSpec.upto rlogMatchSpec)

/-- 'bursarlaw11.RlogRises', WHERE WHAT IT READS IS OF BULK AT MOST 1048576: true; the input reads as it did. -/
def rlogRisesUptoRow : OpenClaim := { program := "ytdcnfdhhflmdcaa", sum := "f2ac383ca45f036ae5507988b0ac0d0426d890871429687f1d97e4f7a6b6dd36", func := "bursar/bursarlaw11.RlogRises", spec := "rlogRises", apart := false, narrowed := true }
def RlogRisesUptoSaid : Prop := rlogRisesUptoRow.holds Try.pinned (OpenSpec.upto rlogRisesSpec)

/-- 'bursarlaw11.RlogBase', WHERE WHAT IT READS IS OF BULK AT MOST 1048576: true; the input reads as it did. -/
def rlogBaseUptoRow : OpenClaim := { program := "ytdcnfdhhflmdcaa", sum := "f2ac383ca45f036ae5507988b0ac0d0426d890871429687f1d97e4f7a6b6dd36", func := "bursar/bursarlaw11.RlogBase", spec := "rlogBase", apart := false, narrowed := true }
def RlogBaseUptoSaid : Prop := rlogBaseUptoRow.holds Try.pinned (OpenSpec.upto rlogBaseSpec)

/-- 'bursarlaw11.RlogPlays', WHERE WHAT IT READS IS OF BULK AT MOST 1048576: true; the input reads as it did. -/
def rlogPlaysUptoRow : OpenClaim := { program := "ytdcnfdhhflmdcaa", sum := "f2ac383ca45f036ae5507988b0ac0d0426d890871429687f1d97e4f7a6b6dd36", func := "bursar/bursarlaw11.RlogPlays", spec := "rlogPlays", apart := false, narrowed := true }
def RlogPlaysUptoSaid : Prop := rlogPlaysUptoRow.holds Try.pinned (OpenSpec.upto rlogPlaysSpec)

end Rows
end Go.Proofs.Ytdcnfdhhflmdcaa
