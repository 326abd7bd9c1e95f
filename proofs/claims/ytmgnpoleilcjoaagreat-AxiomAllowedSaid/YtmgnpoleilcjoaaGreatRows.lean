/-
  No cell of these rows narrows 'for every input' (looked for: loops, veiled, ifaces, maps, wideKeys, modest, calm, conditions, laid).
  DERIVED. THE GIVEN ROWS OF THIS SEAT. 7 by the template 'for every input the law returns true; each argument reads behind the call as it read before'; 0 by the template 'total and deterministic' (their statements: YtmgnpoleilcjoaaGreatTotals.lean).
  GIVEN WITH THE SEED: the statements are not yours to turn. If you find one false, say at which input.
  Laid BY PROGRAM, IN A SANDBOX (cutbox-rows.mjs): the forced cells as the released guide's own fill.sh prints them over the translation 798feac4a9599178… (all of the seat's roots in one cut). By AI agents, Wed Nov 11 2026. No macro, syntax, notation, axiom, sorry.
-/
import Derived.Test.YtmgnpoleilcjoaaGreatChecked
import GoSem.Claim
import GoSem.ClaimJoined
import GoSem.ClaimMapViews
import Derived.JoinedTies
import Derived.KernelRfl
namespace Go.Proofs.YtmgnpoleilcjoaaGreat
/- THE CELL 'sum', in the pinned program and in every row, IS THE sha256 OF THE DUMP (.gsa) THAT YtmgnpoleilcjoaaGreatProg.lean LOADS. Nothing in Lean hashes anything: it is a label: what it is worth is what the hold of that sum in a sandbox is worth. -/
noncomputable def Tryz.pinned : Pinned := { name := "ytmgnpoleilcjoaagreat", sum := "798feac4a9599178970f5bad12dfb37eba7afcb0260349277f0f87a75cadc02d", checked := Tryz.checked }
namespace Rows
def none {H : Type} : Left H := { results := [], args := [] }

/-- 'locklesslaw04.AxiomOutcomes': WHATEVER THE INPUT: true; the input reads as it did. -/
def axiomOutcomesSpec : ChangeSpec := { name := "axiomOutcomes", fn := fun _ => fun
  | [d] => { results := [.lit (.bool true)], args := [d] }
  | _ => none }
def axiomOutcomesRow : OpenClaim := { program := "ytmgnpoleilcjoaagreat", sum := "798feac4a9599178970f5bad12dfb37eba7afcb0260349277f0f87a75cadc02d", func := "lockless/locklesslaw04.AxiomOutcomes", spec := "axiomOutcomes", unfollowed := true, recurses := true, apart := false }
def AxiomOutcomesSaid : Prop := axiomOutcomesRow.holds Tryz.pinned (OpenSpec.ofChange axiomOutcomesSpec)

/-- ITS FALSE NEIGHBOUR: 'it returns false'. Refute it at one input. -/
def axiomOutcomesWrong : ChangeSpec := { name := "axiomOutcomes", fn := fun _ => fun
  | [d] => { results := [.lit (.bool false)], args := [d] }
  | _ => none }
def AxiomOutcomesWrongFalsely : Prop := axiomOutcomesRow.holds Tryz.pinned (OpenSpec.ofChange axiomOutcomesWrong)

/-- 'locklesslaw04.AxiomAllowed': WHATEVER THE INPUT: true; the input reads as it did. -/
def axiomAllowedSpec : ChangeSpec := { name := "axiomAllowed", fn := fun _ => fun
  | [d1, d2] => { results := [.lit (.bool true)], args := [d1, d2] }
  | _ => none }
def axiomAllowedRow : OpenClaim := { program := "ytmgnpoleilcjoaagreat", sum := "798feac4a9599178970f5bad12dfb37eba7afcb0260349277f0f87a75cadc02d", func := "lockless/locklesslaw04.AxiomAllowed", spec := "axiomAllowed", unfollowed := true, recurses := true, apart := false }
def AxiomAllowedSaid : Prop := axiomAllowedRow.holds Tryz.pinned (OpenSpec.ofChange axiomAllowedSpec)

/-- ITS FALSE NEIGHBOUR: 'it returns false'. Refute it at one input. -/
def axiomAllowedWrong : ChangeSpec := { name := "axiomAllowed", fn := fun _ => fun
  | [d1, d2] => { results := [.lit (.bool false)], args := [d1, d2] }
  | _ => none }
def AxiomAllowedWrongFalsely : Prop := axiomAllowedRow.holds Tryz.pinned (OpenSpec.ofChange axiomAllowedWrong)

/-- 'locklesslaw04.AxiomStronger': WHATEVER THE INPUT: true; the input reads as it did. -/
def axiomStrongerSpec : ChangeSpec := { name := "axiomStronger", fn := fun _ => fun
  | [d1, d2] => { results := [.lit (.bool true)], args := [d1, d2] }
  | _ => none }
def axiomStrongerRow : OpenClaim := { program := "ytmgnpoleilcjoaagreat", sum := "798feac4a9599178970f5bad12dfb37eba7afcb0260349277f0f87a75cadc02d", func := "lockless/locklesslaw04.AxiomStronger", spec := "axiomStronger", unfollowed := true, recurses := true, apart := false }
def AxiomStrongerSaid : Prop := axiomStrongerRow.holds Tryz.pinned (OpenSpec.ofChange axiomStrongerSpec)

/-- ITS FALSE NEIGHBOUR: 'it returns false'. Refute it at one input. -/
def axiomStrongerWrong : ChangeSpec := { name := "axiomStronger", fn := fun _ => fun
  | [d1, d2] => { results := [.lit (.bool false)], args := [d1, d2] }
  | _ => none }
def AxiomStrongerWrongFalsely : Prop := axiomStrongerRow.holds Tryz.pinned (OpenSpec.ofChange axiomStrongerWrong)

/-- 'locklesslaw04.AxiomFails': WHATEVER THE INPUT: true; the input reads as it did. -/
def axiomFailsSpec : ChangeSpec := { name := "axiomFails", fn := fun _ => fun
  | [d1, d2] => { results := [.lit (.bool true)], args := [d1, d2] }
  | _ => none }
def axiomFailsRow : OpenClaim := { program := "ytmgnpoleilcjoaagreat", sum := "798feac4a9599178970f5bad12dfb37eba7afcb0260349277f0f87a75cadc02d", func := "lockless/locklesslaw04.AxiomFails", spec := "axiomFails", unfollowed := true, recurses := true, apart := false }
def AxiomFailsSaid : Prop := axiomFailsRow.holds Tryz.pinned (OpenSpec.ofChange axiomFailsSpec)

/-- ITS FALSE NEIGHBOUR: 'it returns false'. Refute it at one input. -/
def axiomFailsWrong : ChangeSpec := { name := "axiomFails", fn := fun _ => fun
  | [d1, d2] => { results := [.lit (.bool false)], args := [d1, d2] }
  | _ => none }
def AxiomFailsWrongFalsely : Prop := axiomFailsRow.holds Tryz.pinned (OpenSpec.ofChange axiomFailsWrong)

/-- 'locklesslaw04.AxiomTells': WHATEVER THE INPUT: true; the input reads as it did. -/
def axiomTellsSpec : ChangeSpec := { name := "axiomTells", fn := fun _ => fun
  | [d] => { results := [.lit (.bool true)], args := [d] }
  | _ => none }
def axiomTellsRow : OpenClaim := { program := "ytmgnpoleilcjoaagreat", sum := "798feac4a9599178970f5bad12dfb37eba7afcb0260349277f0f87a75cadc02d", func := "lockless/locklesslaw04.AxiomTells", spec := "axiomTells", unfollowed := true, recurses := true, apart := false }
def AxiomTellsSaid : Prop := axiomTellsRow.holds Tryz.pinned (OpenSpec.ofChange axiomTellsSpec)

/-- ITS FALSE NEIGHBOUR: 'it returns false'. Refute it at one input. -/
def axiomTellsWrong : ChangeSpec := { name := "axiomTells", fn := fun _ => fun
  | [d] => { results := [.lit (.bool false)], args := [d] }
  | _ => none }
def AxiomTellsWrongFalsely : Prop := axiomTellsRow.holds Tryz.pinned (OpenSpec.ofChange axiomTellsWrong)

/-- 'locklesslaw04.AxiomOrders': WHATEVER THE INPUT: true; the input reads as it did. -/
def axiomOrdersSpec : ChangeSpec := { name := "axiomOrders", fn := fun _ => fun
  | [d] => { results := [.lit (.bool true)], args := [d] }
  | _ => none }
def axiomOrdersRow : OpenClaim := { program := "ytmgnpoleilcjoaagreat", sum := "798feac4a9599178970f5bad12dfb37eba7afcb0260349277f0f87a75cadc02d", func := "lockless/locklesslaw04.AxiomOrders", spec := "axiomOrders", unfollowed := true, recurses := true, apart := false }
def AxiomOrdersSaid : Prop := axiomOrdersRow.holds Tryz.pinned (OpenSpec.ofChange axiomOrdersSpec)

/-- ITS FALSE NEIGHBOUR: 'it returns false'. Refute it at one input. -/
def axiomOrdersWrong : ChangeSpec := { name := "axiomOrders", fn := fun _ => fun
  | [d] => { results := [.lit (.bool false)], args := [d] }
  | _ => none }
def AxiomOrdersWrongFalsely : Prop := axiomOrdersRow.holds Tryz.pinned (OpenSpec.ofChange axiomOrdersWrong)

/-- 'locklesslaw04.AxiomWitnesses': WHATEVER THE INPUT: true; the input reads as it did. -/
def axiomWitnessesSpec : ChangeSpec := { name := "axiomWitnesses", fn := fun _ => fun
  | [d] => { results := [.lit (.bool true)], args := [d] }
  | _ => none }
def axiomWitnessesRow : OpenClaim := { program := "ytmgnpoleilcjoaagreat", sum := "798feac4a9599178970f5bad12dfb37eba7afcb0260349277f0f87a75cadc02d", func := "lockless/locklesslaw04.AxiomWitnesses", spec := "axiomWitnesses", unfollowed := true, recurses := true, apart := false }
def AxiomWitnessesSaid : Prop := axiomWitnessesRow.holds Tryz.pinned (OpenSpec.ofChange axiomWitnessesSpec)

/-- ITS FALSE NEIGHBOUR: 'it returns false'. Refute it at one input. -/
def axiomWitnessesWrong : ChangeSpec := { name := "axiomWitnesses", fn := fun _ => fun
  | [d] => { results := [.lit (.bool false)], args := [d] }
  | _ => none }
def AxiomWitnessesWrongFalsely : Prop := axiomWitnessesRow.holds Tryz.pinned (OpenSpec.ofChange axiomWitnessesWrong)

/- THE SECOND FORM. 'bulk': how many values and letters a reading holds, each counted each time it is reached (what is shared counts as often as it is met; a slice's spare places count too). A statement '..UptoSaid' is the law's where the arguments, and the package variables that the reading takes, are together of bulk at most 1048576: NARROWER than '..Said'. Prove '..Said' where nothing that the law and all that it calls make is longer than what came in: it says more and counts as full. Else prove '..UptoSaid'. A law counts once. -/
mutual
def uptoBulk {H : Type} : DataW H → Nat
  | .lit (.string bytes) => bytes.length + 1
  | .lit _ => 1
  | .nil => 1
  | .ptr d => uptoBulk d + 1
  | .slice elems spare => uptoBulkAll elems + uptoBulkAll spare + 1
  | .agg parts => uptoBulkAll parts + 1
  | .iface _ d => uptoBulk d + 1
  | .map entries => uptoBulkEntries entries + 1
  | .held _ => 1
def uptoBulkAll {H : Type} : List (DataW H) → Nat
  | [] => 0
  | d :: r => uptoBulk d + uptoBulkAll r
def uptoBulkEntries {H : Type} : List (Lit × DataW H) → Nat
  | [] => 0
  | x :: r => uptoBulkEntry x + uptoBulkEntries r
def uptoBulkEntry {H : Type} : Lit × DataW H → Nat
  | (.string bytes, d) => bytes.length + uptoBulk d + 1
  | (_, d) => uptoBulk d + 1
 end
def uptoSmall : (H : Type) → List (DataW H) → Bool := fun _ ds => decide (uptoBulkAll ds ≤ 1048576)
def OpenSpec.upto (s : _root_.Go.ChangeSpec) : _root_.Go.OpenSpec := { _root_.Go.OpenSpec.ofChange s with cond := some uptoSmall }

/-- 'locklesslaw04.AxiomOutcomes', WHERE WHAT IT READS IS OF BULK AT MOST 1048576: true; the input reads as it did. -/
def axiomOutcomesUptoRow : OpenClaim := { program := "ytmgnpoleilcjoaagreat", sum := "798feac4a9599178970f5bad12dfb37eba7afcb0260349277f0f87a75cadc02d", func := "lockless/locklesslaw04.AxiomOutcomes", spec := "axiomOutcomes", unfollowed := true, recurses := true, apart := false, narrowed := true }
def AxiomOutcomesUptoSaid : Prop := axiomOutcomesUptoRow.holds Tryz.pinned (OpenSpec.upto axiomOutcomesSpec)

/-- 'locklesslaw04.AxiomAllowed', WHERE WHAT IT READS IS OF BULK AT MOST 1048576: true; the input reads as it did. -/
def axiomAllowedUptoRow : OpenClaim := { program := "ytmgnpoleilcjoaagreat", sum := "798feac4a9599178970f5bad12dfb37eba7afcb0260349277f0f87a75cadc02d", func := "lockless/locklesslaw04.AxiomAllowed", spec := "axiomAllowed", unfollowed := true, recurses := true, apart := false, narrowed := true }
def AxiomAllowedUptoSaid : Prop := axiomAllowedUptoRow.holds Tryz.pinned (OpenSpec.upto axiomAllowedSpec)

/-- 'locklesslaw04.AxiomStronger', WHERE WHAT IT READS IS OF BULK AT MOST 1048576: true; the input reads as it did. -/
def axiomStrongerUptoRow : OpenClaim := { program := "ytmgnpoleilcjoaagreat", sum := "798feac4a9599178970f5bad12dfb37eba7afcb0260349277f0f87a75cadc02d", func := "lockless/locklesslaw04.AxiomStronger", spec := "axiomStronger", unfollowed := true, recurses := true, apart := false, narrowed := true }
def AxiomStrongerUptoSaid : Prop := axiomStrongerUptoRow.holds Tryz.pinned (OpenSpec.upto axiomStrongerSpec)

/-- 'locklesslaw04.AxiomFails', WHERE WHAT IT READS IS OF BULK AT MOST 1048576: true; the input reads as it did. -/
def axiomFailsUptoRow : OpenClaim := { program := "ytmgnpoleilcjoaagreat", sum := "798feac4a9599178970f5bad12dfb37eba7afcb0260349277f0f87a75cadc02d", func := "lockless/locklesslaw04.AxiomFails", spec := "axiomFails", unfollowed := true, recurses := true, apart := false, narrowed := true }
def AxiomFailsUptoSaid : Prop := axiomFailsUptoRow.holds Tryz.pinned (OpenSpec.upto axiomFailsSpec)

/-- 'locklesslaw04.AxiomTells', WHERE WHAT IT READS IS OF BULK AT MOST 1048576: true; the input reads as it did. -/
def axiomTellsUptoRow : OpenClaim := { program := "ytmgnpoleilcjoaagreat", sum := "798feac4a9599178970f5bad12dfb37eba7afcb0260349277f0f87a75cadc02d", func := "lockless/locklesslaw04.AxiomTells", spec := "axiomTells", unfollowed := true, recurses := true, apart := false, narrowed := true }
def AxiomTellsUptoSaid : Prop := axiomTellsUptoRow.holds Tryz.pinned (OpenSpec.upto axiomTellsSpec)

/-- 'locklesslaw04.AxiomOrders', WHERE WHAT IT READS IS OF BULK AT MOST 1048576: true; the input reads as it did. -/
def axiomOrdersUptoRow : OpenClaim := { program := "ytmgnpoleilcjoaagreat", sum := "798feac4a9599178970f5bad12dfb37eba7afcb0260349277f0f87a75cadc02d", func := "lockless/locklesslaw04.AxiomOrders", spec := "axiomOrders", unfollowed := true, recurses := true, apart := false, narrowed := true }
def AxiomOrdersUptoSaid : Prop := axiomOrdersUptoRow.holds Tryz.pinned (OpenSpec.upto axiomOrdersSpec)

/-- 'locklesslaw04.AxiomWitnesses', WHERE WHAT IT READS IS OF BULK AT MOST 1048576: true; the input reads as it did. -/
def axiomWitnessesUptoRow : OpenClaim := { program := "ytmgnpoleilcjoaagreat", sum := "798feac4a9599178970f5bad12dfb37eba7afcb0260349277f0f87a75cadc02d", func := "lockless/locklesslaw04.AxiomWitnesses", spec := "axiomWitnesses", unfollowed := true, recurses := true, apart := false, narrowed := true }
def AxiomWitnessesUptoSaid : Prop := axiomWitnessesUptoRow.holds Tryz.pinned (OpenSpec.upto axiomWitnessesSpec)

end Rows
end Go.Proofs.YtmgnpoleilcjoaaGreat
