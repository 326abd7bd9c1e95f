/- AxiomFails returns true for every program and every execution: the condition that axiom.Fails tells is the one that the reference tells; without any condition. -/
import Derived.Test.YtmgnpoleilcjoaaGreatVPaf
import Derived.Test.YtmgnpoleilcjoaaGreatVPae
set_option maxRecDepth 8000
set_option linter.unusedSimpArgs false
set_option linter.unusedVariables false
set_option linter.unusedSectionVars false
namespace Go.EV
open Go.Proofs
section
variable {M : Aa}
theorem Tc (ts : List (List OpV)) (s : Value) (hs : Gw M 5 Be s ts) (hb : Sized ts) (e : Exec) (v : Value) (hv : IsX M v e) (hz : XSz e) :
  Con Tryz.prog 6 #[.agg #[s], v] M [] fun u _ _ => u = vb true := by
 have hs0 := hs
 have hv0 := hv
 obtain ⟨a, c, vs, rfl, hl, hrd, hk⟩ := hs
 obtain ⟨f, d, o, n, rfl, ⟨fa, fc, rfl, _⟩, ⟨da, dc, rfl, _⟩, ⟨oa, oc, ovs, rfl, _, _, _⟩, ⟨na, nc, rfl, _⟩⟩ := hv
 refine Con.enter Q58_ok (args := [.agg #[.slice a ts.length c], .agg #[.slice fa e.frm.length fc, .slice da e.dn.length dc, .slice oa e.ord.length oc, .slice na e.fen.length nc]]) (by simp [Q58]) fun w0 => ?_
 simp only [Q58, A3]
 refine EV.seq ?_
 repeat' first
   | refine rg ?_
   | (with_reducible intro b; try refine nx ?_)
   | exact ⟨⟩
   | fail
 obtain ⟨xb, rfl⟩ : ∃ x, x = b := ⟨_, rfl⟩
 obtain ⟨lb, rfl⟩ : ∃ x, x = b := ⟨_, rfl⟩
 refine EV.keepS [] ?_
 generalize hR : M.add _ = N
 have hMN : M.le N := hR ▸ Aa.le_add _ _
 have hxb : rd N xb 0 4 [.slice fa e.frm.length fc, .slice da e.dn.length dc, .slice oa e.ord.length oc, .slice na e.fen.length nc] := hR ▸ Bz (T := 45) (cs := [.slice fa e.frm.length fc, .slice da e.dn.length dc, .slice oa e.ord.length oc, .slice na e.fen.length nc]) (by simp) rfl (by simp)
 have hlb : rd N lb 0 1 [.slice a ts.length c] := hR ▸ Bz (T := 24) (cs := [.slice a ts.length c]) (by simp) rfl (by simp)
 clear hR
 replace hs0 := Gw.mono hMN hs0
 replace hv0 := IsX.mono hMN hv0
 refine EV.seq ?_
 refine EV.seq ?_
 repeat' first
   | refine rg ?_
   | exact ⟨⟩
   | fail
 refine Con.callS (G1 := []) At1 ?_
 rintro v1 M1 G1 hM1 rfl
 refine EV.keepS [] ?_
 generalize hR : M1.add _ = N1
 have hN1 : N.le N1 := hR ▸ Aa.le_trans hM1 (Aa.le_add _ _)
 clear hR hM1
 replace hxb := hxb.mono hN1
 replace hlb := hlb.mono hN1
 replace hs0 := Gw.mono hN1 hs0
 replace hv0 := IsX.mono hN1 hv0
 clear hrd hk hMN hN1
 repeat' first
   | refine EV.skip ?_
   | (refine cX (fun h => ?_) (fun h => ?_) <;> try exact Ah h)
   | fail
 refine EV.seq ?_
 repeat' first
   | refine rg ?_
   | (refine xm ?_; try refine nx ?_)
   | exact ⟨⟩
   | fail
 refine Con.callS (G1 := []) (Xg ts _ hs0 hb e _ hv0 hz) ?_
 rintro v2 M2 G2 hM2 rfl
 refine EV.keepS [] ?_
 generalize hR : M2.add _ = N2
 have hN2 : N1.le N2 := hR ▸ Aa.le_trans hM2 (Aa.le_add _ _)
 clear hR hM2
 replace hxb := hxb.mono hN2
 replace hlb := hlb.mono hN2
 replace hs0 := Gw.mono hN2 hs0
 replace hv0 := IsX.mono hN2 hv0
 have hchk := fun G => Nh (M := N2.add G) ts _ (hs0.mono (Aa.le_add _ _)) hb
 refine EV.seq ?_
 refine EV.seq ?_
 repeat' first
   | refine rg ?_
   | ((first | refine Aq.call (hchk _) ?_ | refine xm ?_ | fail); try refine nx ?_)
   | exact ⟨⟩
   | fail
 refine EV.seq ?_
 repeat' first
   | refine EV.skip ?_
   | refine rg ?_
   | (refine cX (fun h => ?_) (fun h => ?_) <;> try exact Ah h)
   | exact ⟨⟩
   | fail
 ·have hz0 : Jw ts e = 0 := by rw [Jw, if_neg (by simpa using h)]
  rw [hz0]
  repeat' first
    | refine EV.seq ?_
    | refine rg ?_
    | with_reducible assumption
    | (refine Az.merge ?_ (fun hc K' hK => ?_) ?_; rotate_left)
    | exact ⟨⟩
    | fail
  (refine rt Q58_ok ?_; try with_reducible exact ⟨⟩)
  simp
 ·have hck : Bd ts = 0 := by simpa using h
  have hz0 : Jw ts e = Ct (A6 ts) e := by rw [Jw, if_pos hck]
  have hrf := fun G => Uv (M := N2.add G) ts _ (hs0.mono (Aa.le_add _ _)) hck e _ (IsX.mono (Aa.le_add _ _) hv0) hz
  rw [hz0, hck]
  repeat' first
    | refine EV.seq ?_
    | refine rg ?_
    | (refine Aq.call (hrf _) ?_; try refine nx ?_)
    | with_reducible assumption
    | (refine Az.merge ?_ (fun hc K' hK => ?_) ?_; rotate_left)
    | (refine xm ?_; try refine nx ?_)
    | exact ⟨⟩
    | fail
  (refine rt Q58_ok ?_; try with_reducible exact ⟨⟩)
  simp
end
end Go.EV

namespace Go.Proofs.YtmgnpoleilcjoaaGreat.axiomFails
open Go.ChangeShapes Go.WideShapes Go.ChangeAt Go.RowKit Go.EV
set_option linter.unusedVariables false
theorem own : ownKnob Tryz.prog.godebug = none := by kernel_rfl
set_option maxRecDepth 100000 in
theorem Cm2 (os : Os) (started : os.Started) (H : Type) (enc : TypeId × Value → H) :
  ReturnsInHanded {} Tryz.checked os 6 .any (Rows.axiomFailsSpec.pre6 enc Tryz.prog Tryz.f6 Rows.axiomFailsRow.domain false) (Rows.axiomFailsSpec.post enc Tryz.prog Tryz.f6 false true false false) := by
 refine returnsInHanded_of_change_shaped (C := Tryz.checked) own started (by kernel_rfl) Tryz.func6
  (ChangeSpec.witness6 (enc := enc) (C := Tryz.checked) false ⟨#[], #[.agg #[.slice none 0 0], .agg #[.slice none 0 0, .slice none 0 0, .slice none 0 0, .slice none 0 0]], []⟩ 8 (by kernel_rfl) (by kernel_rfl) (by kernel_rfl) (by kernel_rfl)) ?_
 intro W base args ds gs before hval0 hW hcnd hwt _ _
 have hval : ∀ (j : Nat) t v, Tryz.f6.params[j]? = some t → args[j]? = some v → Value.okWide Tryz.prog W .any base t v := hval0
 have hW' := hW
 obtain ⟨p, q, hA0, hV, rfl, hfz, hnd⟩ := hW
 have hA : DataW.TrodAll enc Tryz.prog W 0 (fun _ => true) true Tryz.f6.params.toList args.toList ds p := hA0
 have hA1 := hA
 rw [Tryz.params6] at hA hval
 obtain ⟨v0, vs0, d0, ds0, p0, q0, hargs, rfl, rfl, h0, r0⟩ := trodAll_cons hA
 obtain ⟨v1, vs1, d1, ds1, p1, q1, rfl, rfl, rfl, h1, r1⟩ := trodAll_cons r0
 obtain ⟨rfl, rfl, rfl⟩ := trodAll_nil r1
 obtain rfl : args = #[v0, v1] := by cases args; simp_all
 obtain ⟨rfl, rfl⟩ := trodVars_none hV
 have k0 := hval 0 24 v0 rfl rfl
 simp only [Value.okWide, Tryz.underlying24] at k0
 obtain ⟨cs0, rfl, _, _⟩ := k0
 have k1 := hval 1 45 v1 rfl rfl
 simp only [Value.okWide, Tryz.underlying45] at k1
 obtain ⟨cs1, rfl, _, _⟩ := k1
 obtain ⟨m1, h1⟩ := h1
 obtain ⟨m0, h0⟩ := h0
 have hwt2 : (DataW.weightsEach Tryz.prog [24, 45] [d0, d1]).all (· ≤ reachBytes) = true := hwt
 simp only [DataW.weightsEach, List.all_append, Bool.and_eq_true] at hwt2
 obtain ⟨hw0, hw1, _⟩ := hwt2
 obtain ⟨s, ts, hcs, hs, hb, hb2⟩ := Z4 h0 hw0
 have hcs2 : cs0 = #[s] := by
  have : cs0.toList = [s] := hcs
  exact Array.ext' this
 subst hcs2
 obtain ⟨x, hx, hz⟩ := At9 h1 hw1
 have hx2 : IsX (Dq W) (.agg cs1) x := hx
 have hrb : reachBytes ≤ 140737488355328 := by decide
 refine (Con.at2 (Tc ts s hs ⟨by omega, fun t ht => by have := hb2 t ht; omega⟩ x _ hx2 hz)).mono fun e W' hX => ?_
 obtain ⟨v, rfl, ⟨_, _, rfl⟩, hk, hfr⟩ := hX
 have hlt := hW'.lt
 exact ⟨_, rfl, Ta (pv := []) hW' (fun _ _ _ => (trodAll_cons_mk (shut_bool Tryz.underlying4 _) trodAll_mk0)) (fun sp hsp => Lb Ey8 Z5 hfr (by rw [Tryz.params6]; exact of_decide_eq_true (by kernel_rfl)) hA1 (fun r hr => hlt r (by simpa using hr)) (fun r hr => hsp r (by simpa using hr))) (fun _ _ => rfl) rfl hk⟩
theorem over : Rows.axiomFailsRow.holds Tryz.pinned (OpenSpec.ofChange Rows.axiomFailsSpec) :=
 OpenClaim.holds_of_wide 6 Tryz.f6 rfl rfl rfl rfl rfl rfl rfl ⟨rfl, rfl, rfl, rfl, rfl⟩ rfl rfl rfl rfl rfl (by kernel_rfl) Tryz.func6 (by kernel_rfl)
  (of_decide_eq_true (by kernel_rfl)) (by unfold Func.isWrapper; first | (rw [if_pos (by decide +kernel)]; kernel_rfl) | (rw [if_neg (by decide +kernel)]; exact ⟨rfl, rfl⟩))
  (fun os started H enc _ => Cm2 os started H enc)
theorem proved : Rows.AxiomFailsSaid :=
 over
#print axioms proved
end Go.Proofs.YtmgnpoleilcjoaaGreat.axiomFails
