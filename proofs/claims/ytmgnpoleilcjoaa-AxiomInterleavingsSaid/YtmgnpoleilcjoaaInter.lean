/- Each outcome of the interleavings of a program is one of its executions: the statement. -/
import Derived.Test.YtmgnpoleilcjoaaVPaf
set_option maxRecDepth 8000
set_option linter.unusedSimpArgs false
set_option linter.unusedVariables false
set_option linter.unusedSectionVars false
namespace Go.Proofs.Ytmgnpoleilcjoaa.axiomInterleavings
open Go.ChangeShapes Go.WideShapes Go.ChangeAt Go.RowKit Go.EV
set_option linter.unusedVariables false

theorem own : ownKnob Try.prog.godebug = none := by kernel_rfl

set_option maxRecDepth 100000 in
theorem lifted (os : Os) (started : os.Started) (H : Type) (enc : TypeId × Value → H) :
  ReturnsInHanded {} Try.checked os 6 .any (Rows.axiomInterleavingsSpec.pre6 enc Try.prog Try.f6 Rows.axiomInterleavingsRow.domain false) (Rows.axiomInterleavingsSpec.post enc Try.prog Try.f6 false true false false) := by
 refine returnsInHanded_of_change_shaped (C := Try.checked) own started (by kernel_rfl) Try.func6
  (ChangeSpec.witness6 (enc := enc) (C := Try.checked) false ⟨#[], #[.agg #[.slice none 0 0]], []⟩ 8 (by kernel_rfl) (by kernel_rfl) (by kernel_rfl) (by kernel_rfl)) ?_
 intro W base args ds gs before hval0 hW hcnd hwt _ _
 have hval : ∀ (j : Nat) t v, Try.f6.params[j]? = some t → args[j]? = some v → Value.okWide Try.prog W .any base t v := hval0
 have hW' := hW
 obtain ⟨p, q, hA0, hV, rfl, hfz, hnd⟩ := hW
 have hA : DataW.TrodAll enc Try.prog W 0 (fun _ => true) true Try.f6.params.toList args.toList ds p := hA0
 have hA1 := hA
 rw [Try.params6] at hA hval
 obtain ⟨v0, vs0, d0, ds0, p0, q0, hargs, rfl, rfl, h0, r0⟩ := trodAll_cons hA
 obtain ⟨rfl, rfl, rfl⟩ := trodAll_nil r0
 obtain rfl : args = #[v0] := by cases args; simp_all
 obtain ⟨rfl, rfl⟩ := trodVars_none hV
 have k0 := hval 0 24 v0 rfl rfl
 simp only [Value.okWide, Try.underlying24] at k0
 obtain ⟨cs0, rfl, _, _⟩ := k0
 obtain ⟨m0, h0⟩ := h0
 have hwt2 : (DataW.weightsEach Try.prog [24] [d0]).all (· ≤ reachBytes) = true := hwt
 simp only [DataW.weightsEach, List.all_append, Bool.and_eq_true] at hwt2
 obtain ⟨hw0, _⟩ := hwt2
 obtain ⟨s, ts, hcs, hs, hb, hb2⟩ := litmus_in h0 hw0
 have hcs2 : cs0 = #[s] := by
  have : cs0.toList = [s] := hcs
  exact Array.ext' this
 subst hcs2
 have hrb : reachBytes ≤ 140737488355328 := by decide
 refine (Con.at2 (AxiomInter_c ts s hs ⟨by omega, fun t ht => by have := hb2 t ht; omega⟩)).mono fun e W' hX => ?_
 obtain ⟨v, rfl, ⟨_, _, rfl⟩, hk, hfr⟩ := hX
 have hlt := hW'.lt
 exact ⟨_, rfl, post_of_kept (pv := []) hW' (fun _ _ _ => (trodAll_cons_mk (shut_bool Try.underlying4 _) trodAll_mk0)) (fun sp hsp => trodAll_kept kids rows_pos' hfr (by rw [Try.params6]; exact of_decide_eq_true (by kernel_rfl)) hA1 (fun r hr => hlt r (by simpa using hr)) (fun r hr => hsp r (by simpa using hr))) (fun _ _ => rfl) rfl hk⟩

theorem over : Rows.axiomInterleavingsRow.holds Try.pinned (OpenSpec.ofChange Rows.axiomInterleavingsSpec) :=
 OpenClaim.holds_of_wide 6 Try.f6 rfl rfl rfl rfl rfl rfl rfl ⟨rfl, rfl, rfl, rfl, rfl⟩ rfl rfl rfl rfl rfl (by kernel_rfl) Try.func6 (by kernel_rfl)
  (of_decide_eq_true (by kernel_rfl)) (by unfold Func.isWrapper; first | (rw [if_pos (by decide +kernel)]; kernel_rfl) | (rw [if_neg (by decide +kernel)]; exact ⟨rfl, rfl⟩))
  (fun os started H enc _ => lifted os started H enc)

/-- The statement. -/
theorem proved : Rows.AxiomInterleavingsSaid :=
 over
#print axioms proved
end Go.Proofs.Ytmgnpoleilcjoaa.axiomInterleavings
