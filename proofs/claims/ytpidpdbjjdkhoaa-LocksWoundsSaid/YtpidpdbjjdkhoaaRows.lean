/-
  No cell of these rows narrows 'for every input' (looked for: loops, veiled, ifaces, maps, wideKeys, modest, calm, conditions, laid).
  DERIVED. THE GIVEN ROWS OF THIS SEAT. 3 by the template 'for every input the law returns true; each argument reads behind the call as it read before'; 0 by the template 'total and deterministic' (their statements: YtpidpdbjjdkhoaaTotals.lean).
  GIVEN WITH THE SEED: the statements are not yours to turn. If you find one false, say at which input.
  Laid BY PROGRAM, IN A SANDBOX (cutbox-rows.mjs): the forced cells as the released guide's own fill.sh prints them over the translation ab6361e33348b692… (all of the seat's roots in one cut). By AI agents, Wed Nov 11 2026. No macro, syntax, notation, axiom, sorry.
-/
import Derived.Test.YtpidpdbjjdkhoaaChecked
import GoSem.Claim
import GoSem.ClaimJoined
import GoSem.ClaimMapViews
import Derived.JoinedTies
import Derived.KernelRfl
namespace Go.Proofs.Ytpidpdbjjdkhoaa
/- THE CELL 'sum', in the pinned program and in every row, IS THE sha256 OF THE DUMP (.gsa) THAT YtpidpdbjjdkhoaaProg.lean LOADS. Nothing in Lean hashes anything: it is a label: what it is worth is what the hold of that sum in a sandbox is worth. -/
noncomputable def Try.pinned : Pinned := { name := "ytpidpdbjjdkhoaa", sum := "ab6361e33348b6928c3c76991674dd02633ac30737388f3befc078ccc673965e", checked := Try.checked }
namespace Rows
def none {H : Type} : Left H := { results := [], args := [] }

/-- 'bursarlaw15.LocksWounds': WHATEVER THE INPUT: true; the input reads as it did. -/
def locksWoundsSpec : ChangeSpec := { name := "locksWounds", fn := fun _ => fun
  | [d1, d2] => { results := [.lit (.bool true)], args := [d1, d2] }
  | _ => none }
def locksWoundsRow : OpenClaim := { program := "ytpidpdbjjdkhoaa", sum := "ab6361e33348b6928c3c76991674dd02633ac30737388f3befc078ccc673965e", func := "bursar/bursarlaw15.LocksWounds", spec := "locksWounds", inPlace := ["slices.overlaps[bursar/api.Id]", "slices.overlaps[bursar/api.Lock]"], unfollowed := true, recurses := true, apart := false }
def LocksWoundsSaid : Prop := locksWoundsRow.holds Try.pinned (OpenSpec.ofChange locksWoundsSpec)

/-- ITS FALSE NEIGHBOUR: 'it returns false'. Refute it at one input. -/
def locksWoundsWrong : ChangeSpec := { name := "locksWounds", fn := fun _ => fun
  | [d1, d2] => { results := [.lit (.bool false)], args := [d1, d2] }
  | _ => none }
def LocksWoundsWrongFalsely : Prop := locksWoundsRow.holds Try.pinned (OpenSpec.ofChange locksWoundsWrong)

/-- 'bursarlaw15.LocksEdges': WHATEVER THE INPUT: true; the input reads as it did. -/
def locksEdgesSpec : ChangeSpec := { name := "locksEdges", fn := fun _ => fun
  | [d1, d2] => { results := [.lit (.bool true)], args := [d1, d2] }
  | _ => none }
def locksEdgesRow : OpenClaim := { program := "ytpidpdbjjdkhoaa", sum := "ab6361e33348b6928c3c76991674dd02633ac30737388f3befc078ccc673965e", func := "bursar/bursarlaw15.LocksEdges", spec := "locksEdges", inPlace := ["slices.overlaps[bursar/api.Id]", "slices.overlaps[bursar/api.Lock]"], unfollowed := true, recurses := true, apart := false }
def LocksEdgesSaid : Prop := locksEdgesRow.holds Try.pinned (OpenSpec.ofChange locksEdgesSpec)

/-- ITS FALSE NEIGHBOUR: 'it returns false'. Refute it at one input. -/
def locksEdgesWrong : ChangeSpec := { name := "locksEdges", fn := fun _ => fun
  | [d1, d2] => { results := [.lit (.bool false)], args := [d1, d2] }
  | _ => none }
def LocksEdgesWrongFalsely : Prop := locksEdgesRow.holds Try.pinned (OpenSpec.ofChange locksEdgesWrong)

/-- 'bursarlaw15.LocksNone': WHATEVER THE INPUT: true; the input reads as it did. -/
def locksNoneSpec : ChangeSpec := { name := "locksNone", fn := fun _ => fun
  | [d1, d2] => { results := [.lit (.bool true)], args := [d1, d2] }
  | _ => none }
def locksNoneRow : OpenClaim := { program := "ytpidpdbjjdkhoaa", sum := "ab6361e33348b6928c3c76991674dd02633ac30737388f3befc078ccc673965e", func := "bursar/bursarlaw15.LocksNone", spec := "locksNone", inPlace := ["slices.overlaps[bursar/api.Id]", "slices.overlaps[bursar/api.Lock]"], unfollowed := true, recurses := true, apart := false }
def LocksNoneSaid : Prop := locksNoneRow.holds Try.pinned (OpenSpec.ofChange locksNoneSpec)

/-- ITS FALSE NEIGHBOUR: 'it returns false'. Refute it at one input. -/
def locksNoneWrong : ChangeSpec := { name := "locksNone", fn := fun _ => fun
  | [d1, d2] => { results := [.lit (.bool false)], args := [d1, d2] }
  | _ => none }
def LocksNoneWrongFalsely : Prop := locksNoneRow.holds Try.pinned (OpenSpec.ofChange locksNoneWrong)

/- THE SECOND FORM. 'bulk': how many values and letters a reading holds, each counted each time it is reached (what is shared counts as often as it is met; a slice's spare places count too). A statement '..UptoSaid' is the law's where the arguments, and the package variables that the reading takes, are together of bulk at most 1048576: NARROWER than '..Said'. Prove '..Said' where nothing that the law and all that it calls make is longer than what came in: it says more and counts as full. Else prove '..UptoSaid'. A law counts once. -/
mutual
def uptoBulk {H : Type} : DataW H → Nat
  | .lit (.string bytes) => bytes.length + 1
  | .lit _ => 1
  | .nil => 1
  | .ptr d => uptoBulk d + 1
  | .slice elems spare => uptoBulkAll elems + uptoBulkAll spare + 1
  | .agg parts => uptoBulkAll parts + 1
  | .iface _ d => uptoBulk d + 1
  | .map entries => uptoBulkEntries entries + 1
  | .held _ => 1
def uptoBulkAll {H : Type} : List (DataW H) → Nat
  | [] => 0
  | d :: r => uptoBulk d + uptoBulkAll r
def uptoBulkEntries {H : Type} : List (Lit × DataW H) → Nat
  | [] => 0
  | x :: r => uptoBulkEntry x + uptoBulkEntries r
def uptoBulkEntry {H : Type} : Lit × DataW H → Nat
  | (.string bytes, d) => bytes.length + uptoBulk d + 1
  | (_, d) => uptoBulk d + 1
 end
def uptoSmall : (H : Type) → List (DataW H) → Bool := fun _ ds => decide (uptoBulkAll ds ≤ 1048576)
def OpenSpec.upto (s : _root_.Go.ChangeSpec) : _root_.Go.OpenSpec := { _root_.Go.OpenSpec.ofChange s with cond := some uptoSmall }

/-- 'bursarlaw15.LocksWounds', WHERE WHAT IT READS IS OF BULK AT MOST 1048576: true; the input reads as it did. -/
def locksWoundsUptoRow : OpenClaim := { program := "ytpidpdbjjdkhoaa", sum := "ab6361e33348b6928c3c76991674dd02633ac30737388f3befc078ccc673965e", func := "bursar/bursarlaw15.LocksWounds", spec := "locksWounds", inPlace := ["slices.overlaps[bursar/api.Id]", "slices.overlaps[bursar/api.Lock]"], unfollowed := true, recurses := true, apart := false, narrowed := true }
def LocksWoundsUptoSaid : Prop := locksWoundsUptoRow.holds Try.pinned (OpenSpec.upto locksWoundsSpec)

/-- 'bursarlaw15.LocksEdges', WHERE WHAT IT READS IS OF BULK AT MOST 1048576: true; the input reads as it did. -/
def locksEdgesUptoRow : OpenClaim := { program := "ytpidpdbjjdkhoaa", sum := "ab6361e33348b6928c3c76991674dd02633ac30737388f3befc078ccc673965e", func := "bursar/bursarlaw15.LocksEdges", spec := "locksEdges", inPlace := ["slices.overlaps[bursar/api.Id]", "slices.overlaps[bursar/api.Lock]"], unfollowed := true, recurses := true, apart := false, narrowed := true }
def LocksEdgesUptoSaid : Prop := locksEdgesUptoRow.holds Try.pinned (OpenSpec.upto locksEdgesSpec)

/-- 'bursarlaw15.LocksNone', WHERE WHAT IT READS IS OF BULK AT MOST 1048576: true; the input reads as it did. -/
def locksNoneUptoRow : OpenClaim := { program := "ytpidpdbjjdkhoaa", sum := "ab6361e33348b6928c3c76991674dd02633ac30737388f3befc078ccc673965e", func := "bursar/bursarlaw15.LocksNone", spec := "locksNone", inPlace := ["slices.overlaps[bursar/api.Id]", "slices.overlaps[bursar/api.Lock]"], unfollowed := true, recurses := true, apart := false, narrowed := true }
def LocksNoneUptoSaid : Prop := locksNoneUptoRow.holds Try.pinned (OpenSpec.upto locksNoneSpec)

end Rows
end Go.Proofs.Ytpidpdbjjdkhoaa
