/- A machine does and tells, at each moment, what the document's machine of views does: the statement. -/
import Derived.Test.YtlcpcmdgpchgbaaVPaf
set_option maxRecDepth 8000
set_option linter.unusedSimpArgs false
set_option linter.unusedVariables false
namespace Go.Proofs.Ytlcpcmdgpchgbaa.viewSteps
open Go.ChangeShapes Go.WideShapes Go.ChangeAt Go.RowKit Go.EV
set_option linter.unusedVariables false

theorem own : ownKnob Try.prog.godebug = none := by kernel_rfl

set_option maxRecDepth 100000 in
theorem lifted (os : Os) (started : os.Started) (H : Type) (enc : TypeId × Value → H) :
    ReturnsInHanded {} Try.checked os 5 .any (Rows.viewStepsSpec.pre6 enc Try.prog Try.f5 Rows.viewStepsRow.domain false) (Rows.viewStepsSpec.post enc Try.prog Try.f5 false true false false) := by
  refine returnsInHanded_of_change_shaped (C := Try.checked) own started (by kernel_rfl) Try.func5
    (ChangeSpec.witness6 (enc := enc) (C := Try.checked) false ⟨#[], #[.agg #[.slice none 0 0], .slice none 0 0], []⟩ 8 (by kernel_rfl) (by kernel_rfl) (by kernel_rfl) (by kernel_rfl)) ?_
  intro W base args ds gs before hval0 hW hcnd hwt _ _
  have hval : ∀ (j : Nat) t v, Try.f5.params[j]? = some t → args[j]? = some v → Value.okWide Try.prog W .any base t v := hval0
  have hW' := hW
  obtain ⟨p, q, hA0, hV, rfl, hfz, hnd⟩ := hW
  have hA : DataW.TrodAll enc Try.prog W 0 (fun _ => true) true Try.f5.params.toList args.toList ds p := hA0
  have hA1 := hA
  rw [Try.params5] at hA hval
  obtain ⟨v0, vs0, d0, ds0, p0, q0, hargs, rfl, rfl, h0, r0⟩ := trodAll_cons hA
  obtain ⟨v1, vs1, d1, ds1, p1, q1, rfl, rfl, rfl, h1, r1⟩ := trodAll_cons r0
  obtain ⟨rfl, rfl, rfl⟩ := trodAll_nil r1
  obtain rfl : args = #[v0, v1] := by cases args; simp_all
  obtain ⟨rfl, rfl⟩ := trodVars_none hV
  have k0 := hval 0 24 v0 rfl rfl
  have k1 := hval 1 25 v1 rfl rfl
  simp only [Value.okWide, Try.underlying24] at k0
  obtain ⟨cs0, rfl, _, _⟩ := k0
  obtain ⟨a1, n1, c1, rfl⟩ := okWide_slice Try.underlying25 k1
  obtain ⟨m0, h0⟩ := h0
  obtain ⟨m1, h1⟩ := h1
  have hwt2 : (DataW.weightsEach Try.prog [24, 25] [d0, d1]).all (· ≤ reachBytes) = true := hwt
  simp only [DataW.weightsEach, List.all_append, Bool.and_eq_true] at hwt2
  obtain ⟨hw0, hw1, _⟩ := hwt2
  obtain ⟨s, ts, hcs, hs, hb, hb2⟩ := litmus_in h0 hw0
  obtain ⟨turns, a, c, htv, hrt, hbt, _⟩ := slice_in (e' := encTurn) (Q := fun _ => True) Try.underlying25 cells_two (by decide) bytes_two (fun _ => rfl) h1 hw1 (fun m cs y hy _ => turn_in hy)
  have hcs2 : cs0 = #[s] := by
    have : cs0.toList = [s] := hcs
    exact Array.ext' this
  subst hcs2
  have hrb : reachBytes ≤ 140737488355328 := by decide
  refine (Con.at2 (ViewSteps_q ts s hs (by omega) (fun t ht => Nat.le_trans (hb2 t ht) hrb) turns _ ⟨a, c, htv, hrt⟩ (by omega))).mono fun e W' hX => ?_
  obtain ⟨v, rfl, ⟨_, _, rfl⟩, hk, hfr⟩ := hX
  have hlt := hW'.lt
  exact ⟨_, rfl, post_of_kept (pv := []) hW' (fun _ _ _ => (trodAll_cons_mk (shut_bool Try.underlying4 _) trodAll_mk0)) (fun sp hsp => trodAll_kept kids rows_pos' hfr (by rw [Try.params5]; exact of_decide_eq_true (by kernel_rfl)) hA1 (fun r hr => hlt r (by simpa using hr)) (fun r hr => hsp r (by simpa using hr))) (fun _ _ => rfl) rfl hk⟩

theorem over : Rows.viewStepsRow.holds Try.pinned (OpenSpec.ofChange Rows.viewStepsSpec) :=
  OpenClaim.holds_of_wide 5 Try.f5 rfl rfl rfl rfl rfl rfl rfl ⟨rfl, rfl, rfl, rfl, rfl⟩ rfl rfl rfl rfl rfl (by kernel_rfl) Try.func5 (by kernel_rfl)
    (of_decide_eq_true (by kernel_rfl)) (by unfold Func.isWrapper; first | (rw [if_pos (by decide +kernel)]; kernel_rfl) | (rw [if_neg (by decide +kernel)]; exact ⟨rfl, rfl⟩))
    (fun os started H enc _ => lifted os started H enc)

/-- The statement. -/
theorem proved : Rows.ViewStepsSaid :=
  over
#print axioms proved
end Go.Proofs.Ytlcpcmdgpchgbaa.viewSteps
