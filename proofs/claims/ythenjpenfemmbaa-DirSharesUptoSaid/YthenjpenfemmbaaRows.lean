/-
  No cell of these rows narrows 'for every input' (looked for: loops, veiled, ifaces, maps, wideKeys, modest, calm, conditions, laid).
  DERIVED. THE GIVEN ROWS OF THIS SEAT. 4 by the template 'for every input the law returns true; each argument reads behind the call as it read before'; 0 by the template 'total and deterministic' (their statements: YthenjpenfemmbaaTotals.lean).
  GIVEN WITH THE SEED: the statements are not yours to turn. If you find one false, say at which input.
  Laid BY PROGRAM, IN A SANDBOX (cutbox-rows.mjs): the forced cells as the released guide's own fill.sh prints them over the translation 5420ae2eb2c5e033… (all of the seat's roots in one cut). By AI agents, Wed Nov 11 2026. No macro, syntax, notation, axiom, sorry.
-/
import Derived.Test.YthenjpenfemmbaaChecked
import GoSem.Claim
import GoSem.ClaimJoined
import GoSem.ClaimMapViews
import Derived.JoinedTies
import Derived.KernelRfl
namespace Go.Proofs.Ythenjpenfemmbaa
/- THE CELL 'sum', in the pinned program and in every row, IS THE sha256 OF THE DUMP (.gsa) THAT YthenjpenfemmbaaProg.lean LOADS. Nothing in Lean hashes anything: it is a label: what it is worth is what the hold of that sum in a sandbox is worth. -/
noncomputable def Try.pinned : Pinned := { name := "ythenjpenfemmbaa", sum := "5420ae2eb2c5e0334791226271130ab463732a12668dfa66bd72958cac4e7b9b", checked := Try.checked }
namespace Rows
def none {H : Type} : Left H := { results := [], args := [] }

/-- 'bursarlaw12.DirNews': WHATEVER THE INPUT: true; the input reads as it did. -/
def dirNewsSpec : ChangeSpec := { name := "dirNews", fn := fun _ => fun
  | [d1, d2] => { results := [.lit (.bool true)], args := [d1, d2] }
  | _ => none }
def dirNewsRow : OpenClaim := { program := "ythenjpenfemmbaa", sum := "5420ae2eb2c5e0334791226271130ab463732a12668dfa66bd72958cac4e7b9b", func := "bursar/bursarlaw12.DirNews", spec := "dirNews", apart := false }
def DirNewsSaid : Prop := dirNewsRow.holds Try.pinned (OpenSpec.ofChange dirNewsSpec)

/-- ITS FALSE NEIGHBOUR: 'it returns false'. Refute it at one input. -/
def dirNewsWrong : ChangeSpec := { name := "dirNews", fn := fun _ => fun
  | [d1, d2] => { results := [.lit (.bool false)], args := [d1, d2] }
  | _ => none }
def DirNewsWrongFalsely : Prop := dirNewsRow.holds Try.pinned (OpenSpec.ofChange dirNewsWrong)

/-- 'bursarlaw12.DirCovers': WHATEVER THE INPUT: true; the input reads as it did. -/
def dirCoversSpec : ChangeSpec := { name := "dirCovers", fn := fun _ => fun
  | [d1, d2, d3] => { results := [.lit (.bool true)], args := [d1, d2, d3] }
  | _ => none }
def dirCoversRow : OpenClaim := { program := "ythenjpenfemmbaa", sum := "5420ae2eb2c5e0334791226271130ab463732a12668dfa66bd72958cac4e7b9b", func := "bursar/bursarlaw12.DirCovers", spec := "dirCovers", apart := false }
def DirCoversSaid : Prop := dirCoversRow.holds Try.pinned (OpenSpec.ofChange dirCoversSpec)

/-- ITS FALSE NEIGHBOUR: 'it returns false'. Refute it at one input. -/
def dirCoversWrong : ChangeSpec := { name := "dirCovers", fn := fun _ => fun
  | [d1, d2, d3] => { results := [.lit (.bool false)], args := [d1, d2, d3] }
  | _ => none }
def DirCoversWrongFalsely : Prop := dirCoversRow.holds Try.pinned (OpenSpec.ofChange dirCoversWrong)

/-- 'bursarlaw12.DirAsks': WHATEVER THE INPUT: true; the input reads as it did. -/
def dirAsksSpec : ChangeSpec := { name := "dirAsks", fn := fun _ => fun
  | [d1, d2, d3, d4] => { results := [.lit (.bool true)], args := [d1, d2, d3, d4] }
  | _ => none }
def dirAsksRow : OpenClaim := { program := "ythenjpenfemmbaa", sum := "5420ae2eb2c5e0334791226271130ab463732a12668dfa66bd72958cac4e7b9b", func := "bursar/bursarlaw12.DirAsks", spec := "dirAsks", unfollowed := true, recurses := true, apart := false }
def DirAsksSaid : Prop := dirAsksRow.holds Try.pinned (OpenSpec.ofChange dirAsksSpec)

/-- ITS FALSE NEIGHBOUR: 'it returns false'. Refute it at one input. -/
def dirAsksWrong : ChangeSpec := { name := "dirAsks", fn := fun _ => fun
  | [d1, d2, d3, d4] => { results := [.lit (.bool false)], args := [d1, d2, d3, d4] }
  | _ => none }
def DirAsksWrongFalsely : Prop := dirAsksRow.holds Try.pinned (OpenSpec.ofChange dirAsksWrong)

/-- 'bursarlaw12.DirShares': WHATEVER THE INPUT: true; the input reads as it did. -/
def dirSharesSpec : ChangeSpec := { name := "dirShares", fn := fun _ => fun
  | [d1, d2] => { results := [.lit (.bool true)], args := [d1, d2] }
  | _ => none }
def dirSharesRow : OpenClaim := { program := "ythenjpenfemmbaa", sum := "5420ae2eb2c5e0334791226271130ab463732a12668dfa66bd72958cac4e7b9b", func := "bursar/bursarlaw12.DirShares", spec := "dirShares", unfollowed := true, recurses := true, apart := false }
def DirSharesSaid : Prop := dirSharesRow.holds Try.pinned (OpenSpec.ofChange dirSharesSpec)

/-- ITS FALSE NEIGHBOUR: 'it returns false'. Refute it at one input. -/
def dirSharesWrong : ChangeSpec := { name := "dirShares", fn := fun _ => fun
  | [d1, d2] => { results := [.lit (.bool false)], args := [d1, d2] }
  | _ => none }
def DirSharesWrongFalsely : Prop := dirSharesRow.holds Try.pinned (OpenSpec.ofChange dirSharesWrong)

/- THE SECOND FORM. 'bulk': how many values and letters a reading holds, each counted each time it is reached (what is shared counts as often as it is met; a slice's spare places count too). A statement '..UptoSaid' is the law's where the arguments, and the package variables that the reading takes, are together of bulk at most 1048576: NARROWER than '..Said'. Prove '..Said' where nothing that the law and all that it calls make is longer than what came in: it says more and counts as full. Else prove '..UptoSaid'. A law counts once. -/
mutual
def uptoBulk {H : Type} : DataW H → Nat
  | .lit (.string bytes) => bytes.length + 1
  | .lit _ => 1
  | .nil => 1
  | .ptr d => uptoBulk d + 1
  | .slice elems spare => uptoBulkAll elems + uptoBulkAll spare + 1
  | .agg parts => uptoBulkAll parts + 1
  | .iface _ d => uptoBulk d + 1
  | .map entries => uptoBulkEntries entries + 1
  | .held _ => 1
def uptoBulkAll {H : Type} : List (DataW H) → Nat
  | [] => 0
  | d :: r => uptoBulk d + uptoBulkAll r
def uptoBulkEntries {H : Type} : List (Lit × DataW H) → Nat
  | [] => 0
  | x :: r => uptoBulkEntry x + uptoBulkEntries r
def uptoBulkEntry {H : Type} : Lit × DataW H → Nat
  | (.string bytes, d) => bytes.length + uptoBulk d + 1
  | (_, d) => uptoBulk d + 1
 end
def uptoSmall : (H : Type) → List (DataW H) → Bool := fun _ ds => decide (uptoBulkAll ds ≤ 1048576)
def OpenSpec.upto (s : _root_.Go.ChangeSpec) : _root_.Go.OpenSpec := { _root_.Go.OpenSpec.ofChange s with cond := some uptoSmall }

/-- 'bursarlaw12.DirNews', WHERE WHAT IT READS IS OF BULK AT MOST 1048576: true; the input reads as it did. -/
def dirNewsUptoRow : OpenClaim := { program := "ythenjpenfemmbaa", sum := "5420ae2eb2c5e0334791226271130ab463732a12668dfa66bd72958cac4e7b9b", func := "bursar/bursarlaw12.DirNews", spec := "dirNews", apart := false, narrowed := true }
def DirNewsUptoSaid : Prop := dirNewsUptoRow.holds Try.pinned (OpenSpec.upto dirNewsSpec)

/-- 'bursarlaw12.DirCovers', WHERE WHAT IT READS IS OF BULK AT MOST 1048576: true; the input reads as it did. -/
def dirCoversUptoRow : OpenClaim := { program := "ythenjpenfemmbaa", sum := "5420ae2eb2c5e0334791226271130ab463732a12668dfa66bd72958cac4e7b9b", func := "bursar/bursarlaw12.DirCovers", spec := "dirCovers", apart := false, narrowed := true }
def DirCoversUptoSaid : Prop := dirCoversUptoRow.holds Try.pinned (OpenSpec.upto dirCoversSpec)

/-- 'bursarlaw12.DirAsks', WHERE WHAT IT READS IS OF BULK AT MOST 1048576: true; the input reads as it did. -/
def dirAsksUptoRow : OpenClaim := { program := "ythenjpenfemmbaa", sum := "5420ae2eb2c5e0334791226271130ab463732a12668dfa66bd72958cac4e7b9b", func := "bursar/bursarlaw12.DirAsks", spec := "dirAsks", unfollowed := true, recurses := true, apart := false, narrowed := true }
def DirAsksUptoSaid : Prop := dirAsksUptoRow.holds Try.pinned (OpenSpec.upto dirAsksSpec)

/-- 'bursarlaw12.DirShares', WHERE WHAT IT READS IS OF BULK AT MOST 1048576: true; the input reads as it did. -/
def dirSharesUptoRow : OpenClaim := { program := "ythenjpenfemmbaa", sum := "5420ae2eb2c5e0334791226271130ab463732a12668dfa66bd72958cac4e7b9b", func := "bursar/bursarlaw12.DirShares", spec := "dirShares", unfollowed := true, recurses := true, apart := false, narrowed := true }
def DirSharesUptoSaid : Prop := dirSharesUptoRow.holds Try.pinned (OpenSpec.upto dirSharesSpec)

end Rows
end Go.Proofs.Ythenjpenfemmbaa
