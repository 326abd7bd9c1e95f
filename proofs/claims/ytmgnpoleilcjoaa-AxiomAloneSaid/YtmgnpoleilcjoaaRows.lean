/-
  No cell of these rows narrows 'for every input' (looked for: loops, veiled, ifaces, maps, wideKeys, modest, calm, conditions, laid).
  DERIVED. THE GIVEN ROWS OF THIS SEAT. 5 by the template 'for every input the law returns true; each argument reads behind the call as it read before'; 0 by the template 'total and deterministic' (their statements: YtmgnpoleilcjoaaTotals.lean).
  GIVEN WITH THE SEED: the statements are not yours to turn. If you find one false, say at which input.
  Laid BY PROGRAM, IN A SANDBOX (cutbox-rows.mjs): the forced cells as the released guide's own fill.sh prints them over the translation b88011e5130dc909… (all of the seat's roots in one cut). By AI agents, Wed Nov 11 2026. No macro, syntax, notation, axiom, sorry.
-/
import Derived.Test.YtmgnpoleilcjoaaChecked
import GoSem.Claim
import GoSem.ClaimJoined
import GoSem.ClaimMapViews
import Derived.JoinedTies
import Derived.KernelRfl
namespace Go.Proofs.Ytmgnpoleilcjoaa
/- THE CELL 'sum', in the pinned program and in every row, IS THE sha256 OF THE DUMP (.gsa) THAT YtmgnpoleilcjoaaProg.lean LOADS. Nothing in Lean hashes anything: it is a label: what it is worth is what the hold of that sum in a sandbox is worth. -/
noncomputable def Try.pinned : Pinned := { name := "ytmgnpoleilcjoaa", sum := "b88011e5130dc90960984fa1ca9b205dd249bf8936f3db491d14c2dba5402fbe", checked := Try.checked }
namespace Rows
def none {H : Type} : Left H := { results := [], args := [] }

/-- 'locklesslaw04.AxiomPlaces': WHATEVER THE INPUT: true; the input reads as it did. -/
def axiomPlacesSpec : ChangeSpec := { name := "axiomPlaces", fn := fun _ => fun
  | [d1, d2] => { results := [.lit (.bool true)], args := [d1, d2] }
  | _ => none }
def axiomPlacesRow : OpenClaim := { program := "ytmgnpoleilcjoaa", sum := "b88011e5130dc90960984fa1ca9b205dd249bf8936f3db491d14c2dba5402fbe", func := "lockless/locklesslaw04.AxiomPlaces", spec := "axiomPlaces", unfollowed := true, recurses := true, apart := false }
def AxiomPlacesSaid : Prop := axiomPlacesRow.holds Try.pinned (OpenSpec.ofChange axiomPlacesSpec)

/-- ITS FALSE NEIGHBOUR: 'it returns false'. Refute it at one input. -/
def axiomPlacesWrong : ChangeSpec := { name := "axiomPlaces", fn := fun _ => fun
  | [d1, d2] => { results := [.lit (.bool false)], args := [d1, d2] }
  | _ => none }
def AxiomPlacesWrongFalsely : Prop := axiomPlacesRow.holds Try.pinned (OpenSpec.ofChange axiomPlacesWrong)

/-- 'locklesslaw04.AxiomAdds': WHATEVER THE INPUT: true; the input reads as it did. -/
def axiomAddsSpec : ChangeSpec := { name := "axiomAdds", fn := fun _ => fun
  | [d1, d2] => { results := [.lit (.bool true)], args := [d1, d2] }
  | _ => none }
def axiomAddsRow : OpenClaim := { program := "ytmgnpoleilcjoaa", sum := "b88011e5130dc90960984fa1ca9b205dd249bf8936f3db491d14c2dba5402fbe", func := "lockless/locklesslaw04.AxiomAdds", spec := "axiomAdds", unfollowed := true, recurses := true, apart := false }
def AxiomAddsSaid : Prop := axiomAddsRow.holds Try.pinned (OpenSpec.ofChange axiomAddsSpec)

/-- ITS FALSE NEIGHBOUR: 'it returns false'. Refute it at one input. -/
def axiomAddsWrong : ChangeSpec := { name := "axiomAdds", fn := fun _ => fun
  | [d1, d2] => { results := [.lit (.bool false)], args := [d1, d2] }
  | _ => none }
def AxiomAddsWrongFalsely : Prop := axiomAddsRow.holds Try.pinned (OpenSpec.ofChange axiomAddsWrong)

/-- 'locklesslaw04.AxiomTurned': WHATEVER THE INPUT: true; the input reads as it did. -/
def axiomTurnedSpec : ChangeSpec := { name := "axiomTurned", fn := fun _ => fun
  | [d] => { results := [.lit (.bool true)], args := [d] }
  | _ => none }
def axiomTurnedRow : OpenClaim := { program := "ytmgnpoleilcjoaa", sum := "b88011e5130dc90960984fa1ca9b205dd249bf8936f3db491d14c2dba5402fbe", func := "lockless/locklesslaw04.AxiomTurned", spec := "axiomTurned", unfollowed := true, recurses := true, apart := false }
def AxiomTurnedSaid : Prop := axiomTurnedRow.holds Try.pinned (OpenSpec.ofChange axiomTurnedSpec)

/-- ITS FALSE NEIGHBOUR: 'it returns false'. Refute it at one input. -/
def axiomTurnedWrong : ChangeSpec := { name := "axiomTurned", fn := fun _ => fun
  | [d] => { results := [.lit (.bool false)], args := [d] }
  | _ => none }
def AxiomTurnedWrongFalsely : Prop := axiomTurnedRow.holds Try.pinned (OpenSpec.ofChange axiomTurnedWrong)

/-- 'locklesslaw04.AxiomInterleavings': WHATEVER THE INPUT: true; the input reads as it did. -/
def axiomInterleavingsSpec : ChangeSpec := { name := "axiomInterleavings", fn := fun _ => fun
  | [d] => { results := [.lit (.bool true)], args := [d] }
  | _ => none }
def axiomInterleavingsRow : OpenClaim := { program := "ytmgnpoleilcjoaa", sum := "b88011e5130dc90960984fa1ca9b205dd249bf8936f3db491d14c2dba5402fbe", func := "lockless/locklesslaw04.AxiomInterleavings", spec := "axiomInterleavings", unfollowed := true, recurses := true, apart := false }
def AxiomInterleavingsSaid : Prop := axiomInterleavingsRow.holds Try.pinned (OpenSpec.ofChange axiomInterleavingsSpec)

/-- ITS FALSE NEIGHBOUR: 'it returns false'. Refute it at one input. -/
def axiomInterleavingsWrong : ChangeSpec := { name := "axiomInterleavings", fn := fun _ => fun
  | [d] => { results := [.lit (.bool false)], args := [d] }
  | _ => none }
def AxiomInterleavingsWrongFalsely : Prop := axiomInterleavingsRow.holds Try.pinned (OpenSpec.ofChange axiomInterleavingsWrong)

/-- 'locklesslaw04.AxiomAlone': WHATEVER THE INPUT: true; the input reads as it did. -/
def axiomAloneSpec : ChangeSpec := { name := "axiomAlone", fn := fun _ => fun
  | [d] => { results := [.lit (.bool true)], args := [d] }
  | _ => none }
def axiomAloneRow : OpenClaim := { program := "ytmgnpoleilcjoaa", sum := "b88011e5130dc90960984fa1ca9b205dd249bf8936f3db491d14c2dba5402fbe", func := "lockless/locklesslaw04.AxiomAlone", spec := "axiomAlone", unfollowed := true, recurses := true, apart := false }
def AxiomAloneSaid : Prop := axiomAloneRow.holds Try.pinned (OpenSpec.ofChange axiomAloneSpec)

/-- ITS FALSE NEIGHBOUR: 'it returns false'. Refute it at one input. -/
def axiomAloneWrong : ChangeSpec := { name := "axiomAlone", fn := fun _ => fun
  | [d] => { results := [.lit (.bool false)], args := [d] }
  | _ => none }
def AxiomAloneWrongFalsely : Prop := axiomAloneRow.holds Try.pinned (OpenSpec.ofChange axiomAloneWrong)

/- THE SECOND FORM. 'bulk': how many values and letters a reading holds, each counted each time it is reached (what is shared counts as often as it is met; a slice's spare places count too). A statement '..UptoSaid' is the law's where the arguments, and the package variables that the reading takes, are together of bulk at most 1048576: NARROWER than '..Said'. Prove '..Said' where nothing that the law and all that it calls make is longer than what came in: it says more and counts as full. Else prove '..UptoSaid'. A law counts once. -/
mutual
def uptoBulk {H : Type} : DataW H → Nat
  | .lit (.string bytes) => bytes.length + 1
  | .lit _ => 1
  | .nil => 1
  | .ptr d => uptoBulk d + 1
  | .slice elems spare => uptoBulkAll elems + uptoBulkAll spare + 1
  | .agg parts => uptoBulkAll parts + 1
  | .iface _ d => uptoBulk d + 1
  | .map entries => uptoBulkEntries entries + 1
  | .held _ => 1
def uptoBulkAll {H : Type} : List (DataW H) → Nat
  | [] => 0
  | d :: r => uptoBulk d + uptoBulkAll r
def uptoBulkEntries {H : Type} : List (Lit × DataW H) → Nat
  | [] => 0
  | x :: r => uptoBulkEntry x + uptoBulkEntries r
def uptoBulkEntry {H : Type} : Lit × DataW H → Nat
  | (.string bytes, d) => bytes.length + uptoBulk d + 1
  | (_, d) => uptoBulk d + 1
 end
def uptoSmall : (H : Type) → List (DataW H) → Bool := fun _ ds => decide (uptoBulkAll ds ≤ 1048576)
def OpenSpec.upto (s : _root_.Go.ChangeSpec) : _root_.Go.OpenSpec := { _root_.Go.OpenSpec.ofChange s with cond := some uptoSmall }

/-- 'locklesslaw04.AxiomPlaces', WHERE WHAT IT READS IS OF BULK AT MOST 1048576: true; the input reads as it did. -/
def axiomPlacesUptoRow : OpenClaim := { program := "ytmgnpoleilcjoaa", sum := "b88011e5130dc90960984fa1ca9b205dd249bf8936f3db491d14c2dba5402fbe", func := "lockless/locklesslaw04.AxiomPlaces", spec := "axiomPlaces", unfollowed := true, recurses := true, apart := false, narrowed := true }
def AxiomPlacesUptoSaid : Prop := axiomPlacesUptoRow.holds Try.pinned (OpenSpec.upto axiomPlacesSpec)

/-- 'locklesslaw04.AxiomAdds', WHERE WHAT IT READS IS OF BULK AT MOST 1048576: true; the input reads as it did. -/
def axiomAddsUptoRow : OpenClaim := { program := "ytmgnpoleilcjoaa", sum := "b88011e5130dc90960984fa1ca9b205dd249bf8936f3db491d14c2dba5402fbe", func := "lockless/locklesslaw04.AxiomAdds", spec := "axiomAdds", unfollowed := true, recurses := true, apart := false, narrowed := true }
def AxiomAddsUptoSaid : Prop := axiomAddsUptoRow.holds Try.pinned (OpenSpec.upto axiomAddsSpec)

/-- 'locklesslaw04.AxiomTurned', WHERE WHAT IT READS IS OF BULK AT MOST 1048576: true; the input reads as it did. -/
def axiomTurnedUptoRow : OpenClaim := { program := "ytmgnpoleilcjoaa", sum := "b88011e5130dc90960984fa1ca9b205dd249bf8936f3db491d14c2dba5402fbe", func := "lockless/locklesslaw04.AxiomTurned", spec := "axiomTurned", unfollowed := true, recurses := true, apart := false, narrowed := true }
def AxiomTurnedUptoSaid : Prop := axiomTurnedUptoRow.holds Try.pinned (OpenSpec.upto axiomTurnedSpec)

/-- 'locklesslaw04.AxiomInterleavings', WHERE WHAT IT READS IS OF BULK AT MOST 1048576: true; the input reads as it did. -/
def axiomInterleavingsUptoRow : OpenClaim := { program := "ytmgnpoleilcjoaa", sum := "b88011e5130dc90960984fa1ca9b205dd249bf8936f3db491d14c2dba5402fbe", func := "lockless/locklesslaw04.AxiomInterleavings", spec := "axiomInterleavings", unfollowed := true, recurses := true, apart := false, narrowed := true }
def AxiomInterleavingsUptoSaid : Prop := axiomInterleavingsUptoRow.holds Try.pinned (OpenSpec.upto axiomInterleavingsSpec)

/-- 'locklesslaw04.AxiomAlone', WHERE WHAT IT READS IS OF BULK AT MOST 1048576: true; the input reads as it did. -/
def axiomAloneUptoRow : OpenClaim := { program := "ytmgnpoleilcjoaa", sum := "b88011e5130dc90960984fa1ca9b205dd249bf8936f3db491d14c2dba5402fbe", func := "lockless/locklesslaw04.AxiomAlone", spec := "axiomAlone", unfollowed := true, recurses := true, apart := false, narrowed := true }
def AxiomAloneUptoSaid : Prop := axiomAloneUptoRow.holds Try.pinned (OpenSpec.upto axiomAloneSpec)

end Rows
end Go.Proofs.Ytmgnpoleilcjoaa
