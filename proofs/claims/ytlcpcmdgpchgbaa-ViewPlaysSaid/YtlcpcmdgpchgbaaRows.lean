/-
  No cell of these rows narrows 'for every input' (looked for: loops, veiled, ifaces, maps, wideKeys, modest, calm, conditions, laid).
  DERIVED. THE GIVEN ROWS OF THIS SEAT. 5 by the template 'for every input the law returns true; each argument reads behind the call as it read before'; 0 by the template 'total and deterministic' (their statements: YtlcpcmdgpchgbaaTotals.lean).
  GIVEN WITH THE SEED: the statements are not yours to turn. If you find one false, say at which input.
  Laid BY PROGRAM, IN A SANDBOX (cutbox-rows.mjs): the forced cells as the released guide's own fill.sh prints them over the translation c5a074f65222e321… (all of the seat's roots in one cut). By AI agents, Wed Nov 11 2026. No macro, syntax, notation, axiom, sorry.
-/
import Derived.Test.YtlcpcmdgpchgbaaChecked
import GoSem.Claim
import GoSem.ClaimJoined
import GoSem.ClaimMapViews
import Derived.JoinedTies
import Derived.KernelRfl
namespace Go.Proofs.Ytlcpcmdgpchgbaa
/- THE CELL 'sum', in the pinned program and in every row, IS THE sha256 OF THE DUMP (.gsa) THAT YtlcpcmdgpchgbaaProg.lean LOADS. Nothing in Lean hashes anything: it is a label: what it is worth is what the hold of that sum in a sandbox is worth. -/
noncomputable def Try.pinned : Pinned := { name := "ytlcpcmdgpchgbaa", sum := "c5a074f65222e3212435372ba5b69298d6208897b3d36850440d7d6a8b1a1977", checked := Try.checked }
namespace Rows
def none {H : Type} : Left H := { results := [], args := [] }

/-- 'locklesslaw05.ViewReaches': WHATEVER THE INPUT: true; the input reads as it did. -/
def viewReachesSpec : ChangeSpec := { name := "viewReaches", fn := fun _ => fun
  | [d1, d2] => { results := [.lit (.bool true)], args := [d1, d2] }
  | _ => none }
def viewReachesRow : OpenClaim := { program := "ytlcpcmdgpchgbaa", sum := "c5a074f65222e3212435372ba5b69298d6208897b3d36850440d7d6a8b1a1977", func := "lockless/locklesslaw05.ViewReaches", spec := "viewReaches", inPlace := ["slices.overlaps[int]"], unfollowed := true, recurses := true, apart := false }
def ViewReachesSaid : Prop := viewReachesRow.holds Try.pinned (OpenSpec.ofChange viewReachesSpec)

/-- ITS FALSE NEIGHBOUR: 'it returns false'. Refute it at one input. -/
def viewReachesWrong : ChangeSpec := { name := "viewReaches", fn := fun _ => fun
  | [d1, d2] => { results := [.lit (.bool false)], args := [d1, d2] }
  | _ => none }
def ViewReachesWrongFalsely : Prop := viewReachesRow.holds Try.pinned (OpenSpec.ofChange viewReachesWrong)

/-- 'locklesslaw05.ViewPlays': WHATEVER THE INPUT: true; the input reads as it did. -/
def viewPlaysSpec : ChangeSpec := { name := "viewPlays", fn := fun _ => fun
  | [d1, d2] => { results := [.lit (.bool true)], args := [d1, d2] }
  | _ => none }
def viewPlaysRow : OpenClaim := { program := "ytlcpcmdgpchgbaa", sum := "c5a074f65222e3212435372ba5b69298d6208897b3d36850440d7d6a8b1a1977", func := "lockless/locklesslaw05.ViewPlays", spec := "viewPlays", inPlace := ["slices.overlaps[int]"], unfollowed := true, recurses := true, apart := false }
def ViewPlaysSaid : Prop := viewPlaysRow.holds Try.pinned (OpenSpec.ofChange viewPlaysSpec)

/-- ITS FALSE NEIGHBOUR: 'it returns false'. Refute it at one input. -/
def viewPlaysWrong : ChangeSpec := { name := "viewPlays", fn := fun _ => fun
  | [d1, d2] => { results := [.lit (.bool false)], args := [d1, d2] }
  | _ => none }
def ViewPlaysWrongFalsely : Prop := viewPlaysRow.holds Try.pinned (OpenSpec.ofChange viewPlaysWrong)

/-- 'locklesslaw05.ViewSteps': WHATEVER THE INPUT: true; the input reads as it did. -/
def viewStepsSpec : ChangeSpec := { name := "viewSteps", fn := fun _ => fun
  | [d1, d2] => { results := [.lit (.bool true)], args := [d1, d2] }
  | _ => none }
def viewStepsRow : OpenClaim := { program := "ytlcpcmdgpchgbaa", sum := "c5a074f65222e3212435372ba5b69298d6208897b3d36850440d7d6a8b1a1977", func := "lockless/locklesslaw05.ViewSteps", spec := "viewSteps", inPlace := ["slices.overlaps[int]"], unfollowed := true, recurses := true, apart := false }
def ViewStepsSaid : Prop := viewStepsRow.holds Try.pinned (OpenSpec.ofChange viewStepsSpec)

/-- ITS FALSE NEIGHBOUR: 'it returns false'. Refute it at one input. -/
def viewStepsWrong : ChangeSpec := { name := "viewSteps", fn := fun _ => fun
  | [d1, d2] => { results := [.lit (.bool false)], args := [d1, d2] }
  | _ => none }
def ViewStepsWrongFalsely : Prop := viewStepsRow.holds Try.pinned (OpenSpec.ofChange viewStepsWrong)

/-- 'locklesslaw05.ViewCopies': WHATEVER THE INPUT: true; the input reads as it did. -/
def viewCopiesSpec : ChangeSpec := { name := "viewCopies", fn := fun _ => fun
  | [d1, d2, d3] => { results := [.lit (.bool true)], args := [d1, d2, d3] }
  | _ => none }
def viewCopiesRow : OpenClaim := { program := "ytlcpcmdgpchgbaa", sum := "c5a074f65222e3212435372ba5b69298d6208897b3d36850440d7d6a8b1a1977", func := "lockless/locklesslaw05.ViewCopies", spec := "viewCopies", inPlace := ["slices.overlaps[int]"], unfollowed := true, recurses := true, apart := false }
def ViewCopiesSaid : Prop := viewCopiesRow.holds Try.pinned (OpenSpec.ofChange viewCopiesSpec)

/-- ITS FALSE NEIGHBOUR: 'it returns false'. Refute it at one input. -/
def viewCopiesWrong : ChangeSpec := { name := "viewCopies", fn := fun _ => fun
  | [d1, d2, d3] => { results := [.lit (.bool false)], args := [d1, d2, d3] }
  | _ => none }
def ViewCopiesWrongFalsely : Prop := viewCopiesRow.holds Try.pinned (OpenSpec.ofChange viewCopiesWrong)

/-- 'locklesslaw05.ViewNothing': WHATEVER THE INPUT: true; the input reads as it did. -/
def viewNothingSpec : ChangeSpec := { name := "viewNothing", fn := fun _ => fun
  | [d1, d2, d3] => { results := [.lit (.bool true)], args := [d1, d2, d3] }
  | _ => none }
def viewNothingRow : OpenClaim := { program := "ytlcpcmdgpchgbaa", sum := "c5a074f65222e3212435372ba5b69298d6208897b3d36850440d7d6a8b1a1977", func := "lockless/locklesslaw05.ViewNothing", spec := "viewNothing", inPlace := ["slices.overlaps[int]"], unfollowed := true, recurses := true, apart := false }
def ViewNothingSaid : Prop := viewNothingRow.holds Try.pinned (OpenSpec.ofChange viewNothingSpec)

/-- ITS FALSE NEIGHBOUR: 'it returns false'. Refute it at one input. -/
def viewNothingWrong : ChangeSpec := { name := "viewNothing", fn := fun _ => fun
  | [d1, d2, d3] => { results := [.lit (.bool false)], args := [d1, d2, d3] }
  | _ => none }
def ViewNothingWrongFalsely : Prop := viewNothingRow.holds Try.pinned (OpenSpec.ofChange viewNothingWrong)

/- THE SECOND FORM. 'bulk': how many values and letters a reading holds, each counted each time it is reached (what is shared counts as often as it is met; a slice's spare places count too). A statement '..UptoSaid' is the law's where the arguments, and the package variables that the reading takes, are together of bulk at most 1048576: NARROWER than '..Said'. Prove '..Said' where nothing that the law and all that it calls make is longer than what came in: it says more and counts as full. Else prove '..UptoSaid'. A law counts once. -/
mutual
def uptoBulk {H : Type} : DataW H → Nat
  | .lit (.string bytes) => bytes.length + 1
  | .lit _ => 1
  | .nil => 1
  | .ptr d => uptoBulk d + 1
  | .slice elems spare => uptoBulkAll elems + uptoBulkAll spare + 1
  | .agg parts => uptoBulkAll parts + 1
  | .iface _ d => uptoBulk d + 1
  | .map entries => uptoBulkEntries entries + 1
  | .held _ => 1
def uptoBulkAll {H : Type} : List (DataW H) → Nat
  | [] => 0
  | d :: r => uptoBulk d + uptoBulkAll r
def uptoBulkEntries {H : Type} : List (Lit × DataW H) → Nat
  | [] => 0
  | x :: r => uptoBulkEntry x + uptoBulkEntries r
def uptoBulkEntry {H : Type} : Lit × DataW H → Nat
  | (.string bytes, d) => bytes.length + uptoBulk d + 1
  | (_, d) => uptoBulk d + 1
 end
def uptoSmall : (H : Type) → List (DataW H) → Bool := fun _ ds => decide (uptoBulkAll ds ≤ 1048576)
def OpenSpec.upto (s : _root_.Go.ChangeSpec) : _root_.Go.OpenSpec := { _root_.Go.OpenSpec.ofChange s with cond := some uptoSmall }

/-- 'locklesslaw05.ViewReaches', WHERE WHAT IT READS IS OF BULK AT MOST 1048576: true; the input reads as it did. -/
def viewReachesUptoRow : OpenClaim := { program := "ytlcpcmdgpchgbaa", sum := "c5a074f65222e3212435372ba5b69298d6208897b3d36850440d7d6a8b1a1977", func := "lockless/locklesslaw05.ViewReaches", spec := "viewReaches", inPlace := ["slices.overlaps[int]"], unfollowed := true, recurses := true, apart := false, narrowed := true }
def ViewReachesUptoSaid : Prop := viewReachesUptoRow.holds Try.pinned (OpenSpec.upto viewReachesSpec)

/-- 'locklesslaw05.ViewPlays', WHERE WHAT IT READS IS OF BULK AT MOST 1048576: true; the input reads as it did. -/
def viewPlaysUptoRow : OpenClaim := { program := "ytlcpcmdgpchgbaa", sum := "c5a074f65222e3212435372ba5b69298d6208897b3d36850440d7d6a8b1a1977", func := "lockless/locklesslaw05.ViewPlays", spec := "viewPlays", inPlace := ["slices.overlaps[int]"], unfollowed := true, recurses := true, apart := false, narrowed := true }
def ViewPlaysUptoSaid : Prop := viewPlaysUptoRow.holds Try.pinned (OpenSpec.upto viewPlaysSpec)

/-- 'locklesslaw05.ViewSteps', WHERE WHAT IT READS IS OF BULK AT MOST 1048576: true; the input reads as it did. -/
def viewStepsUptoRow : OpenClaim := { program := "ytlcpcmdgpchgbaa", sum := "c5a074f65222e3212435372ba5b69298d6208897b3d36850440d7d6a8b1a1977", func := "lockless/locklesslaw05.ViewSteps", spec := "viewSteps", inPlace := ["slices.overlaps[int]"], unfollowed := true, recurses := true, apart := false, narrowed := true }
def ViewStepsUptoSaid : Prop := viewStepsUptoRow.holds Try.pinned (OpenSpec.upto viewStepsSpec)

/-- 'locklesslaw05.ViewCopies', WHERE WHAT IT READS IS OF BULK AT MOST 1048576: true; the input reads as it did. -/
def viewCopiesUptoRow : OpenClaim := { program := "ytlcpcmdgpchgbaa", sum := "c5a074f65222e3212435372ba5b69298d6208897b3d36850440d7d6a8b1a1977", func := "lockless/locklesslaw05.ViewCopies", spec := "viewCopies", inPlace := ["slices.overlaps[int]"], unfollowed := true, recurses := true, apart := false, narrowed := true }
def ViewCopiesUptoSaid : Prop := viewCopiesUptoRow.holds Try.pinned (OpenSpec.upto viewCopiesSpec)

/-- 'locklesslaw05.ViewNothing', WHERE WHAT IT READS IS OF BULK AT MOST 1048576: true; the input reads as it did. -/
def viewNothingUptoRow : OpenClaim := { program := "ytlcpcmdgpchgbaa", sum := "c5a074f65222e3212435372ba5b69298d6208897b3d36850440d7d6a8b1a1977", func := "lockless/locklesslaw05.ViewNothing", spec := "viewNothing", inPlace := ["slices.overlaps[int]"], unfollowed := true, recurses := true, apart := false, narrowed := true }
def ViewNothingUptoSaid : Prop := viewNothingUptoRow.holds Try.pinned (OpenSpec.upto viewNothingSpec)

end Rows
end Go.Proofs.Ytlcpcmdgpchgbaa
