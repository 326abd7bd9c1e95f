/- AxiomAllowed returns true for every program and outcome: what Allowed tells is whether the outcome is one of those of the reference, and the witness has it; without any condition. -/
import Derived.Test.YtmgnpoleilcjoaaGreatVQaf
set_option maxHeartbeats 8000000
set_option maxRecDepth 8000
set_option linter.unusedSimpArgs false
set_option linter.unusedVariables false
set_option linter.unusedSectionVars false
namespace Go.Proofs.YtmgnpoleilcjoaaGreat.axiomAllowed
open Go.ChangeShapes Go.WideShapes Go.ChangeAt Go.RowKit Go.EV
set_option linter.unusedVariables false
theorem own : ownKnob Tryz.prog.godebug = none := by kernel_rfl
set_option maxRecDepth 100000 in
theorem Di8 (os : Os) (started : os.Started) (H : Type) (enc : TypeId × Value → H) :
  ReturnsInHanded {} Tryz.checked os 4 .any (Rows.axiomAllowedSpec.pre6 enc Tryz.prog Tryz.f4 Rows.axiomAllowedRow.domain false) (Rows.axiomAllowedSpec.post enc Tryz.prog Tryz.f4 false true false false) := by
 refine returnsInHanded_of_change_shaped (C := Tryz.checked) own started (by kernel_rfl) Tryz.func4
  (ChangeSpec.witness6 (enc := enc) (C := Tryz.checked) false ⟨#[], #[.agg #[.slice none 0 0], .slice none 0 0], []⟩ 8 (by kernel_rfl) (by kernel_rfl) (by kernel_rfl) (by kernel_rfl)) ?_
 intro W base args ds gs before oR hW vZ pS _ _
 have eZ : ∀ (j : Nat) t v, Tryz.f4.params[j]? = some t → args[j]? = some v → Value.okWide Tryz.prog W .any base t v := oR
 have t6 := hW
 obtain ⟨p, q, va, hV, rfl, wO, hnd⟩ := hW
 have hA : DataW.TrodAll enc Tryz.prog W 0 (fun _ => true) true Tryz.f4.params.toList args.toList ds p := va
 have vd := hA
 rw [Tryz.params4] at hA eZ
 obtain ⟨v0, vs0, d0, ds0, p0, q0, kG, rfl, rfl, h0, r0⟩ := trodAll_cons hA
 obtain ⟨v1, vs1, d1, ds1, p1, q1, rfl, rfl, rfl, h1, r1⟩ := trodAll_cons r0
 obtain ⟨rfl, rfl, rfl⟩ := trodAll_nil r1
 obtain rfl : args = #[v0, v1] := by cases args; simp_all
 obtain ⟨rfl, rfl⟩ := trodVars_none hV
 have k0 := eZ 0 24 v0 rfl rfl
 simp only [Value.okWide, Tryz.underlying24] at k0
 obtain ⟨cs0, rfl, _, _⟩ := k0
 have k1 := eZ 1 34 v1 rfl rfl
 obtain ⟨a1, n1, c1, rfl⟩ := okWide_slice Tryz.underlying34 k1
 obtain ⟨m1, h1⟩ := h1
 obtain ⟨m0, h0⟩ := h0
 have oS : (DataW.weightsEach Tryz.prog [24, 34] [d0, d1]).all (· ≤ reachBytes) = true := pS
 simp only [DataW.weightsEach, lDh, lA6] at oS
 obtain ⟨oZ, aV, _⟩ := oS
 obtain ⟨s, ts, eB, hs, hb, fB⟩ := Am6 h0 oZ
 have sL : cs0 = #[s] := by
  have : cs0.toList = [s] := eB
  exact lF4 this
 subst sL
 obtain ⟨by_, eW, gB⟩ := Bi4 h1 aV
 have ld : reachBytes ≤ 140737488355328 := by decide
 refine (Con.at2 (Qy ts s hs ⟨by omega, fun t ht => by have := fB t ht; omega⟩ by_ _ eW (by omega))).mono fun e W' hX => ?_
 obtain ⟨v, rfl, ⟨_, _, rfl⟩, hk, bW⟩ := hX
 have aU := t6.lt
 exact ⟨_, rfl, V9 (pv := []) t6 (fun _ _ _ => (trodAll_cons_mk (shut_bool Tryz.underlying4 _) trodAll_mk0)) (fun sp bG => Nv Fx8 Am7 bW (by rw [Tryz.params4]; exact of_decide_eq_true (by kernel_rfl)) vd (fun r hr => aU r (by simpa using hr)) (fun r hr => bG r (by simpa using hr))) (fun _ _ => rfl) rfl hk⟩
theorem over : Rows.axiomAllowedRow.holds Tryz.pinned (OpenSpec.ofChange Rows.axiomAllowedSpec) :=
 OpenClaim.holds_of_wide 4 Tryz.f4 rfl rfl rfl rfl rfl rfl rfl ⟨rfl, rfl, rfl, rfl, rfl⟩ rfl rfl rfl rfl rfl (by kernel_rfl) Tryz.func4 (by kernel_rfl)
  (of_decide_eq_true (by kernel_rfl)) (by unfold Func.isWrapper; first | (rw [if_pos (by decide +kernel)]; kernel_rfl) | (rw [if_neg (by decide +kernel)]; exact ⟨rfl, rfl⟩))
  (fun os started H enc _ => Di8 os started H enc)
theorem proved : Rows.AxiomAllowedSaid :=
 over
#print axioms proved
end Go.Proofs.YtmgnpoleilcjoaaGreat.axiomAllowed
