/-
  No cell of these rows narrows 'for every input' (looked for: loops, veiled, ifaces, maps, wideKeys, modest, calm, conditions, laid).
  DERIVED. THE GIVEN ROWS OF THIS SEAT. 4 by the template 'for every input the law returns true; each argument reads behind the call as it read before'; 0 by the template 'total and deterministic' (their statements: YtidiohmpmjhbaaaTotals.lean).
  GIVEN WITH THE SEED: the statements are not yours to turn. If you find one false, say at which input.
  Laid BY PROGRAM, IN A SANDBOX (cutbox-rows.mjs): the forced cells as the released guide's own fill.sh prints them over the translation ebfaf88b1cb6393d… (all of the seat's roots in one cut). By AI agents, Wed Nov 11 2026. No macro, syntax, notation, axiom, sorry.
-/
import Derived.Test.YtidiohmpmjhbaaaChecked
import GoSem.Claim
import GoSem.ClaimJoined
import GoSem.ClaimMapViews
import Derived.JoinedTies
import Derived.KernelRfl
namespace Go.Proofs.Ytidiohmpmjhbaaa
/- THE CELL 'sum', in the pinned program and in every row, IS THE sha256 OF THE DUMP (.gsa) THAT YtidiohmpmjhbaaaProg.lean LOADS. Nothing in Lean hashes anything: it is a label: what it is worth is what the hold of that sum in a sandbox is worth. -/
noncomputable def Try.pinned : Pinned := { name := "ytidiohmpmjhbaaa", sum := "ebfaf88b1cb6393def2b44735542eec89c686d9b87ca92c1831addb3eec84852", checked := Try.checked }
namespace Rows
def none {H : Type} : Left H := { results := [], args := [] }

/-- 'bursarlaw01.BufWrites': WHATEVER THE INPUT: true; the input reads as it did. -/
def bufWritesSpec : ChangeSpec := { name := "bufWrites", fn := fun _ => fun
  | [d1, d2, d3] => { results := [.lit (.bool true)], args := [d1, d2, d3] }
  | _ => none }
def bufWritesRow : OpenClaim := { program := "ytidiohmpmjhbaaa", sum := "ebfaf88b1cb6393def2b44735542eec89c686d9b87ca92c1831addb3eec84852", func := "bursar/bursarlaw01.BufWrites", spec := "bufWrites", apart := false }
def BufWritesSaid : Prop := bufWritesRow.holds Try.pinned (OpenSpec.ofChange bufWritesSpec)

/-- ITS FALSE NEIGHBOUR: 'it returns false'. Refute it at one input. -/
def bufWritesWrong : ChangeSpec := { name := "bufWrites", fn := fun _ => fun
  | [d1, d2, d3] => { results := [.lit (.bool false)], args := [d1, d2, d3] }
  | _ => none }
def BufWritesWrongFalsely : Prop := bufWritesRow.holds Try.pinned (OpenSpec.ofChange bufWritesWrong)

/-- 'bursarlaw01.BufReads': WHATEVER THE INPUT: true; the input reads as it did. -/
def bufReadsSpec : ChangeSpec := { name := "bufReads", fn := fun _ => fun
  | [d1, d2, d3] => { results := [.lit (.bool true)], args := [d1, d2, d3] }
  | _ => none }
def bufReadsRow : OpenClaim := { program := "ytidiohmpmjhbaaa", sum := "ebfaf88b1cb6393def2b44735542eec89c686d9b87ca92c1831addb3eec84852", func := "bursar/bursarlaw01.BufReads", spec := "bufReads", unfollowed := true, recurses := true, apart := false }
def BufReadsSaid : Prop := bufReadsRow.holds Try.pinned (OpenSpec.ofChange bufReadsSpec)

/-- ITS FALSE NEIGHBOUR: 'it returns false'. Refute it at one input. -/
def bufReadsWrong : ChangeSpec := { name := "bufReads", fn := fun _ => fun
  | [d1, d2, d3] => { results := [.lit (.bool false)], args := [d1, d2, d3] }
  | _ => none }
def BufReadsWrongFalsely : Prop := bufReadsRow.holds Try.pinned (OpenSpec.ofChange bufReadsWrong)

/-- 'bursarlaw01.BufOne': WHATEVER THE INPUT: true; the input reads as it did. -/
def bufOneSpec : ChangeSpec := { name := "bufOne", fn := fun _ => fun
  | [d1, d2] => { results := [.lit (.bool true)], args := [d1, d2] }
  | _ => none }
def bufOneRow : OpenClaim := { program := "ytidiohmpmjhbaaa", sum := "ebfaf88b1cb6393def2b44735542eec89c686d9b87ca92c1831addb3eec84852", func := "bursar/bursarlaw01.BufOne", spec := "bufOne", unfollowed := true, recurses := true, apart := false }
def BufOneSaid : Prop := bufOneRow.holds Try.pinned (OpenSpec.ofChange bufOneSpec)

/-- ITS FALSE NEIGHBOUR: 'it returns false'. Refute it at one input. -/
def bufOneWrong : ChangeSpec := { name := "bufOne", fn := fun _ => fun
  | [d1, d2] => { results := [.lit (.bool false)], args := [d1, d2] }
  | _ => none }
def BufOneWrongFalsely : Prop := bufOneRow.holds Try.pinned (OpenSpec.ofChange bufOneWrong)

/-- 'bursarlaw01.BufBack': WHATEVER THE INPUT: true; the input reads as it did. -/
def bufBackSpec : ChangeSpec := { name := "bufBack", fn := fun _ => fun
  | [d] => { results := [.lit (.bool true)], args := [d] }
  | _ => none }
def bufBackRow : OpenClaim := { program := "ytidiohmpmjhbaaa", sum := "ebfaf88b1cb6393def2b44735542eec89c686d9b87ca92c1831addb3eec84852", func := "bursar/bursarlaw01.BufBack", spec := "bufBack", unfollowed := true, recurses := true, apart := false }
def BufBackSaid : Prop := bufBackRow.holds Try.pinned (OpenSpec.ofChange bufBackSpec)

/-- ITS FALSE NEIGHBOUR: 'it returns false'. Refute it at one input. -/
def bufBackWrong : ChangeSpec := { name := "bufBack", fn := fun _ => fun
  | [d] => { results := [.lit (.bool false)], args := [d] }
  | _ => none }
def BufBackWrongFalsely : Prop := bufBackRow.holds Try.pinned (OpenSpec.ofChange bufBackWrong)

/- THE SECOND FORM. 'bulk': how many values and letters a reading holds, each counted each time it is reached (what is shared counts as often as it is met; a slice's spare places count too). A statement '..UptoSaid' is the law's where the arguments, and the package variables that the reading takes, are together of bulk at most 1048576: NARROWER than '..Said'. Prove '..Said' where nothing that the law and all that it calls make is longer than what came in: it says more and counts as full. Else prove '..UptoSaid'. A law counts once. -/
mutual
def uptoBulk {H : Type} : DataW H → Nat
  | .lit (.string bytes) => bytes.length + 1
  | .lit _ => 1
  | .nil => 1
  | .ptr d => uptoBulk d + 1
  | .slice elems spare => uptoBulkAll elems + uptoBulkAll spare + 1
  | .agg parts => uptoBulkAll parts + 1
  | .iface _ d => uptoBulk d + 1
  | .map entries => uptoBulkEntries entries + 1
  | .held _ => 1
def uptoBulkAll {H : Type} : List (DataW H) → Nat
  | [] => 0
  | d :: r => uptoBulk d + uptoBulkAll r
def uptoBulkEntries {H : Type} : List (Lit × DataW H) → Nat
  | [] => 0
  | x :: r => uptoBulkEntry x + uptoBulkEntries r
def uptoBulkEntry {H : Type} : Lit × DataW H → Nat
  | (.string bytes, d) => bytes.length + uptoBulk d + 1
  | (_, d) => uptoBulk d + 1
 end
def uptoSmall : (H : Type) → List (DataW H) → Bool := fun _ ds => decide (uptoBulkAll ds ≤ 1048576)
def OpenSpec.upto (s : _root_.Go.ChangeSpec) : _root_.Go.OpenSpec := { _root_.Go.OpenSpec.ofChange s with cond := some uptoSmall }

/-- 'bursarlaw01.BufWrites', WHERE WHAT IT READS IS OF BULK AT MOST 1048576: true; the input reads as it did. -/
def bufWritesUptoRow : OpenClaim := { program := "ytidiohmpmjhbaaa", sum := "ebfaf88b1cb6393def2b44735542eec89c686d9b87ca92c1831addb3eec84852", func := "bursar/bursarlaw01.BufWrites", spec := "bufWrites", apart := false, narrowed := true }
def BufWritesUptoSaid : Prop := bufWritesUptoRow.holds Try.pinned (OpenSpec.upto bufWritesSpec)

/-- 'bursarlaw01.BufReads', WHERE WHAT IT READS IS OF BULK AT MOST 1048576: true; the input reads as it did. -/
def bufReadsUptoRow : OpenClaim := { program := "ytidiohmpmjhbaaa", sum := "ebfaf88b1cb6393def2b44735542eec89c686d9b87ca92c1831addb3eec84852", func := "bursar/bursarlaw01.BufReads", spec := "bufReads", unfollowed := true, recurses := true, apart := false, narrowed := true }
def BufReadsUptoSaid : Prop := bufReadsUptoRow.holds Try.pinned (OpenSpec.upto bufReadsSpec)

/-- 'bursarlaw01.BufOne', WHERE WHAT IT READS IS OF BULK AT MOST 1048576: true; the input reads as it did. -/
def bufOneUptoRow : OpenClaim := { program := "ytidiohmpmjhbaaa", sum := "ebfaf88b1cb6393def2b44735542eec89c686d9b87ca92c1831addb3eec84852", func := "bursar/bursarlaw01.BufOne", spec := "bufOne", unfollowed := true, recurses := true, apart := false, narrowed := true }
def BufOneUptoSaid : Prop := bufOneUptoRow.holds Try.pinned (OpenSpec.upto bufOneSpec)

/-- 'bursarlaw01.BufBack', WHERE WHAT IT READS IS OF BULK AT MOST 1048576: true; the input reads as it did. -/
def bufBackUptoRow : OpenClaim := { program := "ytidiohmpmjhbaaa", sum := "ebfaf88b1cb6393def2b44735542eec89c686d9b87ca92c1831addb3eec84852", func := "bursar/bursarlaw01.BufBack", spec := "bufBack", unfollowed := true, recurses := true, apart := false, narrowed := true }
def BufBackUptoSaid : Prop := bufBackUptoRow.holds Try.pinned (OpenSpec.upto bufBackSpec)

end Rows
end Go.Proofs.Ytidiohmpmjhbaaa
