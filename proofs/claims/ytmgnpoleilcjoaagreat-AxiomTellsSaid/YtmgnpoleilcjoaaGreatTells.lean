/- AxiomTells returns true for every program, execution and two events: what axiom.Outcome and axiom.Before tell is what the reference tells; without any condition. -/
import Derived.Test.YtmgnpoleilcjoaaGreatVPaf
set_option maxRecDepth 8000
set_option linter.unusedSimpArgs false
set_option linter.unusedVariables false
set_option linter.unusedSectionVars false
namespace Go.EV
open Go.Proofs Go.ChangeShapes
section
variable {H : Type} {enc : TypeId × Value → H} {W : World} {sp : Nat → Bool} {held : Bool}
theorem Vn : (Tryz.prog).cellsOf 58 = 7 := by kernel_rfl
set_option maxRecDepth 100000 in
theorem T2 {m : Nat} {cs : List Value} {y : DataW H × List MemPlace} (h : DataW.trod enc Tryz.prog W 0 sp held m 58 cs = some y) (hw : (y.1.weights Tryz.prog 58).all (· ≤ reachBytes) = true) :
  ∃ s f d o n a b ts e, cs = [s, f, d, o, n, vi a, vi b] ∧ Em (Dr W) 5 Bc s ts ∧ ts.length ≤ reachBytes ∧ (∀ t ∈ ts, t.length ≤ reachBytes) ∧ IsX (Dr W) (.agg #[f, d, o, n]) e ∧ XSz e := by
 obtain ⟨xs, n, _, e, hl, gN, hf⟩ := DataW.trod_struct Tryz.underlying58 h
 subst e
 rw [Vn] at hl
 have jX : xs.length = 4 := gN
 have key : ∀ i : Nat, ∀ f : Field, i < 4 → (show Array Field from _)[i]? = some f → f.type = 3 → ∃ k, ((cs.drop f.offset).take 1) = [vi k] := fun i f hi e ht => by
  have h1 := hf i f e
  rw [ht, Oi] at h1
  obtain ⟨y, hy⟩ : ∃ y, xs[i]? = some y := ⟨xs[i], List.getElem?_eq_getElem (by omega)⟩
  rw [hy] at h1
  exact Aa2 Tryz.underlying3 h1
 obtain ⟨k3, e3⟩ := key 2 _ (by decide) rfl rfl
 obtain ⟨k4, e4⟩ := key 3 _ (by decide) rfl rfl
 match xs, jX with
 | [y0, y1, y2, y3], _ =>
  have h0 := hf 0 _ rfl
  have h1 := hf 1 _ rfl
  match cs, hl with
  | [c0, c1, c2, c3, c4, c5, c6], _ =>
   simp at e3 e4
   have rn : DataW.trod enc Tryz.prog W 0 sp held n 24 [c0] = some y0 := by
    rw [show (Tryz.prog).cellsOf (Field.type _) = 1 from T1] at h0
    exact h0
   have rp : DataW.trod enc Tryz.prog W 0 sp held n 45 [c1, c2, c3, c4] = some y1 := by
    rw [show (Tryz.prog).cellsOf (Field.type _) = 4 from Qe] at h1
    exact h1
   unfold DataW.weights at hw
   rw [Tryz.underlying58] at hw
   simp only [List.map_cons, List.map_nil, DataW.weightsEach, List.all_append, Bool.and_eq_true] at hw
   obtain ⟨k8, aq, _⟩ := hw
   obtain ⟨s, ts, cy, hs, hb, dS⟩ := Aa7 rn k8
   obtain ⟨x, hx, hz⟩ := Av6 rp aq
   cases cy
   exact ⟨_, _, _, _, _, k3, k4, ts, x, by rw [e3, e4], hs, hb, dS, hx, hz⟩
end
end Go.EV
namespace Go.Proofs.YtmgnpoleilcjoaaGreat.axiomTells
open Go.ChangeShapes Go.WideShapes Go.ChangeAt Go.RowKit Go.EV
set_option linter.unusedVariables false
theorem own : ownKnob Tryz.prog.godebug = none := by kernel_rfl
set_option maxRecDepth 100000 in
theorem Cs5 (os : Os) (started : os.Started) (H : Type) (enc : TypeId × Value → H) :
  ReturnsInHanded {} Tryz.checked os 7 .any (Rows.axiomTellsSpec.pre6 enc Tryz.prog Tryz.f7 Rows.axiomTellsRow.domain false) (Rows.axiomTellsSpec.post enc Tryz.prog Tryz.f7 false true false false) := by
 refine returnsInHanded_of_change_shaped (C := Tryz.checked) own started (by kernel_rfl) Tryz.func7
  (ChangeSpec.witness6 (enc := enc) (C := Tryz.checked) false ⟨#[], #[.agg #[.slice none 0 0, .slice none 0 0, .slice none 0 0, .slice none 0 0, .slice none 0 0, vi 0, vi 0]], []⟩ 8 (by kernel_rfl) (by kernel_rfl) (by kernel_rfl) (by kernel_rfl)) ?_
 intro W base args ds gs before lD hW rq nh _ _
 have eZ : ∀ (j : Nat) t v, Tryz.f7.params[j]? = some t → args[j]? = some v → Value.okWide Tryz.prog W .any base t v := lD
 have qi := hW
 obtain ⟨p, q, ru, hV, rfl, uQ, bm⟩ := hW
 have hA : DataW.TrodAll enc Tryz.prog W 0 (fun _ => true) true Tryz.f7.params.toList args.toList ds p := ru
 have rx := hA
 rw [Tryz.params7] at hA eZ
 obtain ⟨v0, vs0, d0, ds0, p0, q0, iv, rfl, rfl, h0, r0⟩ := trodAll_cons hA
 obtain ⟨rfl, rfl, rfl⟩ := trodAll_nil r0
 obtain rfl : args = #[v0] := by cases args; simp_all
 obtain ⟨rfl, rfl⟩ := trodVars_none hV
 have k0 := eZ 0 58 v0 rfl rfl
 simp only [Value.okWide, Tryz.underlying58] at k0
 obtain ⟨cs0, rfl, _, _⟩ := k0
 obtain ⟨m0, h0⟩ := h0
 have lE : (DataW.weightsEach Tryz.prog [58] [d0]).all (· ≤ reachBytes) = true := nh
 simp only [DataW.weightsEach, List.all_append, Bool.and_eq_true] at lE
 obtain ⟨k8, _⟩ := lE
 obtain ⟨s, f, d, o, n, x, y, ts, e1, cy, hs, hb, dS, hx, hz⟩ := T2 h0 k8
 have ni : cs0 = #[s, f, d, o, n, vi x, vi y] := by
  have : cs0.toList = [s, f, d, o, n, vi x, vi y] := cy
  exact Array.ext' this
 subst ni
 have qj : reachBytes ≤ 140737488355328 := by decide
 refine (Con.at2 (Tz ts s hs ⟨by omega, fun t ht => by have := dS t ht; omega⟩ e1 f d o n hx hz x y)).mono fun e W' hX => ?_
 obtain ⟨v, rfl, ⟨_, _, rfl⟩, hk, dt⟩ := hX
 have aZ := qi.lt
 exact ⟨_, rfl, T0 (pv := []) qi (fun _ _ _ => (trodAll_cons_mk (shut_bool Tryz.underlying4 _) trodAll_mk0)) (fun sp aw => Lq Fe5 Aa8 dt (by rw [Tryz.params7]; exact of_decide_eq_true (by kernel_rfl)) rx (fun r hr => aZ r (by simpa using hr)) (fun r hr => aw r (by simpa using hr))) (fun _ _ => rfl) rfl hk⟩
theorem over : Rows.axiomTellsRow.holds Tryz.pinned (OpenSpec.ofChange Rows.axiomTellsSpec) :=
 OpenClaim.holds_of_wide 7 Tryz.f7 rfl rfl rfl rfl rfl rfl rfl ⟨rfl, rfl, rfl, rfl, rfl⟩ rfl rfl rfl rfl rfl (by kernel_rfl) Tryz.func7 (by kernel_rfl)
  (of_decide_eq_true (by kernel_rfl)) (by unfold Func.isWrapper; first | (rw [if_pos (by decide +kernel)]; kernel_rfl) | (rw [if_neg (by decide +kernel)]; exact ⟨rfl, rfl⟩))
  (fun os started H enc _ => Cs5 os started H enc)
theorem proved : Rows.AxiomTellsSaid :=
 over
#print axioms proved
end Go.Proofs.YtmgnpoleilcjoaaGreat.axiomTells
