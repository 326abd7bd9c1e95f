/- AxiomOutcomes returns true for every program: the outcomes told are those of the reference's search, in its order, and as many executions are counted as the reference finds; without any condition. -/
import Derived.Test.YtmgnpoleilcjoaaGreatVPaf
set_option maxHeartbeats 8000000
set_option maxRecDepth 8000
set_option linter.unusedSimpArgs false
set_option linter.unusedVariables false
set_option linter.unusedSectionVars false
namespace Go.Proofs.YtmgnpoleilcjoaaGreat.axiomOutcomes
open Go.ChangeShapes Go.WideShapes Go.ChangeAt Go.RowKit Go.EV
set_option linter.unusedVariables false
theorem own : ownKnob Tryz.prog.godebug = none := by kernel_rfl
set_option maxRecDepth 100000 in
theorem Cx0 (os : Os) (started : os.Started) (H : Type) (enc : TypeId × Value → H) :
  ReturnsInHanded {} Tryz.checked os 3 .any (Rows.axiomOutcomesSpec.pre6 enc Tryz.prog Tryz.f3 Rows.axiomOutcomesRow.domain false) (Rows.axiomOutcomesSpec.post enc Tryz.prog Tryz.f3 false true false false) := by
 refine returnsInHanded_of_change_shaped (C := Tryz.checked) own started (by kernel_rfl) Tryz.func3
  (ChangeSpec.witness6 (enc := enc) (C := Tryz.checked) false ⟨#[], #[.agg #[.slice none 0 0]], []⟩ 8 (by kernel_rfl) (by kernel_rfl) (by kernel_rfl) (by kernel_rfl)) ?_
 intro W base args ds gs before n7 hW u0 oW _ _
 have eZ : ∀ (j : Nat) t v, Tryz.f3.params[j]? = some t → args[j]? = some v → Value.okWide Tryz.prog W .any base t v := n7
 have sX := hW
 obtain ⟨p, q, u1, hV, rfl, uy, hnd⟩ := hW
 have hA : DataW.TrodAll enc Tryz.prog W 0 (fun _ => true) true Tryz.f3.params.toList args.toList ds p := u1
 have u2 := hA
 rw [Tryz.params3] at hA eZ
 obtain ⟨v0, vs0, d0, ds0, p0, q0, jj, rfl, rfl, h0, r0⟩ := trodAll_cons hA
 obtain ⟨rfl, rfl, rfl⟩ := trodAll_nil r0
 obtain rfl : args = #[v0] := by cases args; simp_all
 obtain ⟨rfl, rfl⟩ := trodVars_none hV
 have k0 := eZ 0 24 v0 rfl rfl
 simp only [Value.okWide, Tryz.underlying24] at k0
 obtain ⟨cs0, rfl, _, _⟩ := k0
 obtain ⟨m0, h0⟩ := h0
 have n8 : (DataW.weightsEach Tryz.prog [24] [d0]).all (· ≤ reachBytes) = true := oW
 simp only [DataW.weightsEach, lDh, lA6] at n8
 obtain ⟨nk, _⟩ := n8
 obtain ⟨s, ts, dV, hs, hb, eQ⟩ := Aj3 h0 nk
 have rI : cs0 = #[s] := by
  have : cs0.toList = [s] := dV
  exact lF1 this
 subst rI
 have lA : reachBytes ≤ 140737488355328 := by decide
 refine (Con.at2 (Pv ts s hs ⟨by omega, fun t ht => by have := eQ t ht; omega⟩)).mono fun e W' hX => ?_
 obtain ⟨v, rfl, ⟨_, _, rfl⟩, hk, bN⟩ := hX
 have aS := sX.lt
 exact ⟨_, rfl, Ve (pv := []) sX (fun _ _ _ => (trodAll_cons_mk (shut_bool Tryz.underlying4 _) trodAll_mk0)) (fun sp cP => Na Fk9 Aj4 bN (by rw [Tryz.params3]; exact of_decide_eq_true (by kernel_rfl)) u2 (fun r hr => aS r (by simpa using hr)) (fun r hr => cP r (by simpa using hr))) (fun _ _ => rfl) rfl hk⟩
theorem over : Rows.axiomOutcomesRow.holds Tryz.pinned (OpenSpec.ofChange Rows.axiomOutcomesSpec) :=
 OpenClaim.holds_of_wide 3 Tryz.f3 rfl rfl rfl rfl rfl rfl rfl ⟨rfl, rfl, rfl, rfl, rfl⟩ rfl rfl rfl rfl rfl (by kernel_rfl) Tryz.func3 (by kernel_rfl)
  (of_decide_eq_true (by kernel_rfl)) (by unfold Func.isWrapper; first | (rw [if_pos (by decide +kernel)]; kernel_rfl) | (rw [if_neg (by decide +kernel)]; exact ⟨rfl, rfl⟩))
  (fun os started H enc _ => Cx0 os started H enc)
theorem proved : Rows.AxiomOutcomesSaid :=
 over
#print axioms proved
end Go.Proofs.YtmgnpoleilcjoaaGreat.axiomOutcomes
