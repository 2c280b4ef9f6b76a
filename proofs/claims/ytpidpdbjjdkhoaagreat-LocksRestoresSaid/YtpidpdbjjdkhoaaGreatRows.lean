/-
  No cell of these rows narrows 'for every input' (looked for: loops, veiled, ifaces, maps, wideKeys, modest, calm, conditions, laid).
  DERIVED. THE GIVEN ROWS OF THIS SEAT. 2 by the template 'for every input the law returns true; each argument reads behind the call as it read before'; 0 by the template 'total and deterministic' (their statements: YtpidpdbjjdkhoaaGreatTotals.lean).
  GIVEN WITH THE SEED: the statements are not yours to turn. If you find one false, say at which input.
  Laid BY PROGRAM, IN A SANDBOX (cutbox-rows.mjs): the forced cells as the released guide's own fill.sh prints them over the translation 5cc55051cc55bd3f… (all of the seat's roots in one cut). By AI agents, Wed Nov 11 2026. No macro, syntax, notation, axiom, sorry.
-/
import Derived.Test.YtpidpdbjjdkhoaaGreatChecked
import GoSem.Claim
import GoSem.ClaimJoined
import GoSem.ClaimMapViews
import Derived.JoinedTies
import Derived.KernelRfl
namespace Go.Proofs.YtpidpdbjjdkhoaaGreat
/- THE CELL 'sum', in the pinned program and in every row, IS THE sha256 OF THE DUMP (.gsa) THAT YtpidpdbjjdkhoaaGreatProg.lean LOADS. Nothing in Lean hashes anything: it is a label: what it is worth is what the hold of that sum in a sandbox is worth. -/
noncomputable def Tryz.pinned : Pinned := { name := "ytpidpdbjjdkhoaagreat", sum := "5cc55051cc55bd3f0cdf7a846e8a1e89fb155413be7faa0ebd1051089eb7b047", checked := Tryz.checked }
namespace Rows
def none {H : Type} : Left H := { results := [], args := [] }

/-- 'bursarlaw15.LocksPlays': WHATEVER THE INPUT: true; the input reads as it did. -/
def locksPlaysSpec : ChangeSpec := { name := "locksPlays", fn := fun _ => fun
  | [d1, d2] => { results := [.lit (.bool true)], args := [d1, d2] }
  | _ => none }
def locksPlaysRow : OpenClaim := { program := "ytpidpdbjjdkhoaagreat", sum := "5cc55051cc55bd3f0cdf7a846e8a1e89fb155413be7faa0ebd1051089eb7b047", func := "bursar/bursarlaw15.LocksPlays", spec := "locksPlays", inPlace := ["slices.overlaps[bursar/api.Id]", "slices.overlaps[bursar/api.Lock]"], unfollowed := true, recurses := true, plainKeys := false, apart := false }
def LocksPlaysSaid : Prop := locksPlaysRow.holds Tryz.pinned (OpenSpec.ofChange locksPlaysSpec)

/-- ITS FALSE NEIGHBOUR: 'it returns false'. Refute it at one input. -/
def locksPlaysWrong : ChangeSpec := { name := "locksPlays", fn := fun _ => fun
  | [d1, d2] => { results := [.lit (.bool false)], args := [d1, d2] }
  | _ => none }
def LocksPlaysWrongFalsely : Prop := locksPlaysRow.holds Tryz.pinned (OpenSpec.ofChange locksPlaysWrong)

/-- 'bursarlaw15.LocksRestores': WHATEVER THE INPUT: true; the input reads as it did. -/
def locksRestoresSpec : ChangeSpec := { name := "locksRestores", fn := fun _ => fun
  | [d1, d2, d3, d4, d5] => { results := [.lit (.bool true)], args := [d1, d2, d3, d4, d5] }
  | _ => none }
def locksRestoresRow : OpenClaim := { program := "ytpidpdbjjdkhoaagreat", sum := "5cc55051cc55bd3f0cdf7a846e8a1e89fb155413be7faa0ebd1051089eb7b047", func := "bursar/bursarlaw15.LocksRestores", spec := "locksRestores", inPlace := ["slices.overlaps[bursar/api.Id]", "slices.overlaps[bursar/api.Lock]"], unfollowed := true, recurses := true, plainKeys := false, apart := false }
def LocksRestoresSaid : Prop := locksRestoresRow.holds Tryz.pinned (OpenSpec.ofChange locksRestoresSpec)

/-- ITS FALSE NEIGHBOUR: 'it returns false'. Refute it at one input. -/
def locksRestoresWrong : ChangeSpec := { name := "locksRestores", fn := fun _ => fun
  | [d1, d2, d3, d4, d5] => { results := [.lit (.bool false)], args := [d1, d2, d3, d4, d5] }
  | _ => none }
def LocksRestoresWrongFalsely : Prop := locksRestoresRow.holds Tryz.pinned (OpenSpec.ofChange locksRestoresWrong)

/- THE SECOND FORM. 'bulk': how many values and letters a reading holds, each counted each time it is reached (what is shared counts as often as it is met; a slice's spare places count too). A statement '..UptoSaid' is the law's where the arguments, and the package variables that the reading takes, are together of bulk at most 1048576: NARROWER than '..Said'. Prove '..Said' where nothing that the law and all that it calls make is longer than what came in: it says more and counts as full. Else prove '..UptoSaid'. A law counts once. -/
mutual
def uptoBulk {H : Type} : DataW H → Nat
  | .lit (.string bytes) => bytes.length + 1
  | .lit _ => 1
  | .nil => 1
  | .ptr d => uptoBulk d + 1
  | .slice elems spare => uptoBulkAll elems + uptoBulkAll spare + 1
  | .agg parts => uptoBulkAll parts + 1
  | .iface _ d => uptoBulk d + 1
  | .map entries => uptoBulkEntries entries + 1
  | .held _ => 1
def uptoBulkAll {H : Type} : List (DataW H) → Nat
  | [] => 0
  | d :: r => uptoBulk d + uptoBulkAll r
def uptoBulkEntries {H : Type} : List (Lit × DataW H) → Nat
  | [] => 0
  | x :: r => uptoBulkEntry x + uptoBulkEntries r
def uptoBulkEntry {H : Type} : Lit × DataW H → Nat
  | (.string bytes, d) => bytes.length + uptoBulk d + 1
  | (_, d) => uptoBulk d + 1
 end
def uptoSmall : (H : Type) → List (DataW H) → Bool := fun _ ds => decide (uptoBulkAll ds ≤ 1048576)
def OpenSpec.upto (s : _root_.Go.ChangeSpec) : _root_.Go.OpenSpec := { _root_.Go.OpenSpec.ofChange s with cond := some uptoSmall }

/-- 'bursarlaw15.LocksPlays', WHERE WHAT IT READS IS OF BULK AT MOST 1048576: true; the input reads as it did. -/
def locksPlaysUptoRow : OpenClaim := { program := "ytpidpdbjjdkhoaagreat", sum := "5cc55051cc55bd3f0cdf7a846e8a1e89fb155413be7faa0ebd1051089eb7b047", func := "bursar/bursarlaw15.LocksPlays", spec := "locksPlays", inPlace := ["slices.overlaps[bursar/api.Id]", "slices.overlaps[bursar/api.Lock]"], unfollowed := true, recurses := true, plainKeys := false, apart := false, narrowed := true }
def LocksPlaysUptoSaid : Prop := locksPlaysUptoRow.holds Tryz.pinned (OpenSpec.upto locksPlaysSpec)

/-- 'bursarlaw15.LocksRestores', WHERE WHAT IT READS IS OF BULK AT MOST 1048576: true; the input reads as it did. -/
def locksRestoresUptoRow : OpenClaim := { program := "ytpidpdbjjdkhoaagreat", sum := "5cc55051cc55bd3f0cdf7a846e8a1e89fb155413be7faa0ebd1051089eb7b047", func := "bursar/bursarlaw15.LocksRestores", spec := "locksRestores", inPlace := ["slices.overlaps[bursar/api.Id]", "slices.overlaps[bursar/api.Lock]"], unfollowed := true, recurses := true, plainKeys := false, apart := false, narrowed := true }
def LocksRestoresUptoSaid : Prop := locksRestoresUptoRow.holds Tryz.pinned (OpenSpec.upto locksRestoresSpec)

end Rows
end Go.Proofs.YtpidpdbjjdkhoaaGreat
