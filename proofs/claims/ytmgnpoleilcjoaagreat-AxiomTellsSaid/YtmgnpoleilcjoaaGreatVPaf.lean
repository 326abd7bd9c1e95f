/- Part of the proof of a statement about executions of litmus programs: walks and laws. -/
import Derived.Test.YtmgnpoleilcjoaaGreatVPae
import Derived.Test.YtmgnpoleilcjoaaGreatVPad
import Derived.Shelf.SortG.Plain
import Derived.Shelf.SortG.SortNone
import Derived.Shelf.SlGeneric
import Derived.Ground.SlgnProg
import Derived.Test.YtmgnpoleilcjoaaGreatVPac
import Derived.Test.YtmgnpoleilcjoaaGreatProg
import Derived.Test.YtmgnpoleilcjoaaGreatVPab
import Derived.WalkKit
import Derived.ProofKit
import Derived.OpenShut
import Derived.ChangeStays
import Derived.ChangeBears
import Derived.HandedShaped
import Derived.Test.YtmgnpoleilcjoaaGreatRows
set_option maxRecDepth 8000
set_option linter.unusedSimpArgs false
set_option linter.unusedVariables false
set_option linter.unusedSectionVars false
namespace Go.EV
open Go.Proofs
abbrev rkG (s : Rk) (rb lb kb fb : Nat) : Own :=
 [(fb, Cl 4 (s.f.map vb)), (kb, Cl 4 (s.k.map vb)), (lb, Cl 3 (s.l.map vi)), (rb, Cl 3 (s.r.map vi))]
theorem Ae5 {p : List Ev} {i : Nat} {s : Rk} {n : Nat} (h : s.Len n) : (Qa p i s).Len n := by
 unfold Qa
 refine ⟨h.r, ?_, h.k, by simp [h.f]⟩
 show List.length (if _ then _ else _) = n
 split
 ·simp [h.l]
 ·split <;> simp [h.l]
theorem Qc {p : List Ev} {f : List Int} {i : Nat} {s : Rk} {n : Nat} (h : s.Len n) : (Cs p f i s).Len n := by
 unfold Cs
 split
 ·exact h
 ·have h1 : (Bw f i s).Len n := ⟨by unfold Bw; dsimp only; split <;> simp [h.r], h.l, by simp [Bw, h.k], h.f⟩
  unfold Fq
  split
  ·exact ⟨h1.r, by simp [h1.l], h1.k, by simp [h1.f]⟩
  ·exact h1
theorem F9 {g : Nat → Rk → Rk} {n : Nat} (hg : ∀ i s, s.Len n → (g i s).Len n) : ∀ m {s : Rk}, s.Len n → (Af g m s).Len n
 | 0, _, h => h
 | m + 1, _, h => hg m _ (F9 hg m h)
theorem Ae6 (n : Nat) : (⟨List.replicate n 0, List.replicate n 0, List.replicate n false, List.replicate n false⟩ : Rk).Len n := ⟨by simp, by simp, by simp, by simp⟩
set_option maxHeartbeats 4000000 in
theorem Lp {C : Cx Tryz.prog} {k : List RItem} {p : List Ev} {N : Aa} {pb po pc xb rb lb kb fb r a : Nat} {t : Rk} (hp : p.length ≤ 16) (aT : a < p.length)
  (d9 : rd N pb (po + a * 6) 6 (Hf (evAt p a))) (cM : t.Len p.length) (hk : (evAt p a).op.kind = 2)
  (ih4 : EV C [0, 1, 3, 4, 5, 6, 7, 8, 9, 10, 11, 12, 13, 14, 45] k [(0, .slice (some ⟨pb, po, none⟩) p.length pc), (3, pv xb 0), (7, Bg rb p.length p.length), (8, Bg lb p.length p.length), (9, Bg kb p.length p.length), (10, Bg fb p.length p.length), (13, vi r), (14, vi (a + 1 : Nat))] N (rkG (Fq p a t) rb lb kb fb)) :
  EV C [0, 1, 3, 4, 5, 6, 7, 8, 9, 10, 11, 12, 13, 14, 45] (.code (.any Vu) :: .code (.reg Yw) :: .inBlock 6 :: .code (.reg Yx) :: k)
   [(0, .slice (some ⟨pb, po, none⟩) p.length pc), (3, pv xb 0), (7, Bg rb p.length p.length), (8, Bg lb p.length p.length), (9, Bg kb p.length p.length), (10, Bg fb p.length p.length), (13, vi r), (14, vi a)] N (rkG t rb lb kb fb) := by
 have rf : rd N pb (po + a * 6 + 1 + 2) 1 [vi (evAt p a).op.v] := d9.pt 3 1 (by omega) rfl
 have bY := cM.r
 have be := cM.l
 have dP := cM.k
 have ct := cM.f
 have iY : a < t.r.length := by omega
 have cw : a < t.l.length := by omega
 have kC : a < t.f.length := by omega
 have eR : t.r[a]?.getD 0 = t.r[a] := by rw [List.getElem?_eq_getElem iY]; rfl
 rw [Fq, if_pos hk, eR] at ih4
 refine EV.any (t := Vu) [(rb, Cl 3 (t.r.map vi))] (List.Sublist.cons _ (List.Sublist.cons _ (List.Sublist.cons _ (List.Sublist.refl _)))) ?_
 simp only [Ao, As, Am, Au, reduceIte, Nat.reduceEqDiff]
 repeat' first
   | ((first | refine zo (fun lq aB => ?_) | refine zl ?_ | refine Exists.intro _ (And.intro (Ca (f := vi) iY) ?_) | fail); try refine nz ?_)
   | (refine Ec (by first | with_reducible assumption | rfl) (fun tq aE => ?_) (fun tq aE => ?_) <;> try refine nz ?_)
   | exact zn
   | (refine And.intro (by omega) ?_)
   | ((first | refine xm ?_ | refine xw ?_ | fail); try refine nz ?_)
   | exact ⟨⟩
   | fail
 refine ⟨by rw [List.length_map]; omega, ?_⟩
 rw [Ar vi t.l cw]
 repeat' first
   | (refine zl ?_; try refine nz ?_)
   | refine zq (fun lq tq aB aE => ?_)
   | refine zf ?_
   | exact ⟨⟩
   | fail
 repeat' first
   | refine EV.inBlock ?_
   | (refine EV.reg ?_; (conv => (arg 2; whnf)); (repeat first | refine nx ?_ | simp only [Ar, List.length_map, ct, aT]))
   | (refine And.intro (by omega) ?_)
   | (refine xw ?_; (repeat first | refine nx ?_ | simp only [Ar, List.length_map, ct, aT]))
   | fail
 refine EV.to ih4 ?_ (List.Sublist.refl _)
 exact eE
set_option maxHeartbeats 4000000 in
theorem Rs {C : Cx Tryz.prog} {k : List RItem} {p : List Ev} {e : Exec} {N : Aa} {pa : Option Addr} {pc xb rb lb kb fb r a : Nat} {t : Rk} {fa : Option Addr} {fc : Nat} (hp : p.length ≤ 16) (aT : a < p.length) (az : e.frm.length = p.length) (cl : ∀ i, i < p.length → Ae e i < p.length)
  (dO : rd N xb 0 1 [.slice fa e.frm.length fc])
  (cB : ∀ b, b < p.length → ∃ fb fo, fa = some ⟨fb, fo, none⟩ ∧ rd N fb (fo + b) 1 [vi (Ae e b)])
  (af : ∀ b, b < p.length → ∃ pb po, pa = some ⟨pb, po, none⟩ ∧ rd N pb (po + b * 6) 6 (Hf (evAt p b)))
  (cM : t.Len p.length)
  (ih4 : EV C [0, 1, 3, 4, 5, 6, 7, 8, 9, 10, 11, 12, 13, 14, 45] k [(0, .slice pa p.length pc), (3, pv xb 0), (7, Bg rb p.length p.length), (8, Bg lb p.length p.length), (9, Bg kb p.length p.length), (10, Bg fb p.length p.length), (13, vi r), (14, vi (a + 1 : Nat))] N (rkG (Cs p e.frm a t) rb lb kb fb)) :
  EV C [0, 1, 3, 4, 5, 6, 7, 8, 9, 10, 11, 12, 13, 14, 45] (.code (.seq (.block 6 (.seq (.seq (.reg Ag3) (.cond (.t 95) (.exit 6) .skip)) (.seq (.reg Ag4) (.seq (.seq (.reg Ag5) (.cond (.t 104) (.reg Ag6) .skip)) (.seq (.reg Ag7) (.cond (.t 122) (.seq (.any Vu) (.reg Yw)) .skip)))))) (.reg Yx)) :: k)
   [(0, .slice pa p.length pc), (3, pv xb 0), (7, Bg rb p.length p.length), (8, Bg lb p.length p.length), (9, Bg kb p.length p.length), (10, Bg fb p.length p.length), (13, vi r), (14, vi a)] N (rkG t rb lb kb fb) := by
 obtain ⟨pb, po, rfl, d9⟩ := af a aT
 obtain ⟨qb, qo, rfl, jO⟩ := cB a aT
 have kQ := cl a aT
 have de : rd N pb (po + a * 6 + 1 + 0) 1 [vi (evAt p a).op.kind] := d9.pt 1 1 (by omega) rfl
 have rf : rd N pb (po + a * 6 + 1 + 2) 1 [vi (evAt p a).op.v] := d9.pt 3 1 (by omega) rfl
 simp only [Nat.add_zero] at de
 rw [Cs] at ih4
 have bY := cM.r
 have be := cM.l
 have dP := cM.k
 have ct := cM.f
 have iY : a < t.r.length := by omega
 have cw : a < t.l.length := by omega
 have dp : a < t.k.length := by omega
 have kC : a < t.f.length := by omega
 have eK : t.K a = t.k[a] := by rw [Rk.K, List.getElem?_eq_getElem dp]; rfl
 have efr : Bu e.frm a = Ae e a := rfl
 rw [eK, efr] at ih4
 refine EV.seq ?_
 refine EV.block ?_
 cases hK : t.k[a] with
 | true =>
  rw [hK, if_pos (by simp)] at ih4
  repeat' first
    | refine EV.seq ?_
    | (refine EV.reg ?_; (conv => (arg 2; whnf)); (repeat first | refine nx ?_ | simp only [hK]))
    | (refine Exists.intro _ (And.intro (Ca (f := vb) dp) ?_); (repeat first | refine nx ?_ | simp only [hK]))
    | (refine A0.intro (fun hc => ?_) (fun hc => ?_) <;> try simp only [ne_eq, Bool.not_true, Bool.not_false, not_true_eq_false, not_false_eq_true, reduceCtorEq] at hc <;> try (exfalso; first | exact hc | omega | (simp at hc; done)))
    | (refine cX (fun h => ?_) (fun h => ?_) <;> try exact Ah h)
    | (refine EV.exit rfl ?_)
    | (refine And.intro (by omega) ?_)
    | fail
  refine EV.to ih4 ?_ (List.Sublist.refl _)
  exact eE
 | false =>
  rw [hK, Bool.false_or] at ih4
  by_cases h0 : 0 ≤ Ae e a
  ·obtain ⟨u, hu⟩ : ∃ u : Nat, Ae e a = u := ⟨(Ae e a).toNat, by omega⟩
   rw [hu] at jO kQ
   have qG : u < t.f.length := by omega
   have bQ : u < t.l.length := by omega
   have dd : decide ((0 : Int) ≤ (u : Int)) = true := decide_eq_true (by omega)
   have eF : t.F u = t.f[u] := by rw [Rk.F, List.getElem?_eq_getElem qG]; rfl
   rw [hu, dd, Bool.true_and, Int.toNat_natCast, eF] at ih4
   cases hF : t.f[u] with
   | false =>
    rw [hF, if_pos (by simp)] at ih4
    repeat' first
      | refine EV.seq ?_
      | (refine EV.reg ?_; (conv => (arg 2; whnf)); (repeat first | refine nx ?_ | simp only [hK, hF, dd]))
      | with_reducible assumption
      | ((first | refine Exists.intro _ (And.intro (Ca (f := vb) qG) ?_) | refine Exists.intro _ (And.intro (Ca (f := vb) dp) ?_) | fail); (repeat first | refine nx ?_ | simp only [hK, hF, dd]))
      | (refine A0.merge ?_ (fun hc K' hK => ?_) ?_; rotate_left)
      | (refine cX (fun h => ?_) (fun h => ?_) <;> try exact Ah h)
      | (refine EV.exit rfl ?_)
      | (refine And.intro (by omega) ?_)
      | ((first | refine xm ?_ | refine xn ?_ | fail); (repeat first | refine nx ?_ | simp only [hK, hF, dd]))
      | fail
    refine EV.to ih4 ?_ (List.Sublist.refl _)
    exact eE
   | true =>
    rw [hF, if_neg (by simp)] at ih4
    have eR : Bw e.frm a t = { t with k := t.k.set a true, r := t.r.set a t.l[u] } := by
     unfold Bw
     rw [efr, hu, if_pos (by omega), Int.toNat_natCast, List.getElem?_eq_getElem bQ]; rfl
    rw [eR] at ih4
    repeat' first
      | refine EV.seq ?_
      | refine EV.skip ?_
      | refine EV.inBlock ?_
      | (refine EV.reg ?_; (conv => (arg 2; whnf)); (repeat first | refine nx ?_ | simp only [hK, hF, dd, Ar, List.length_map, bY, be, dP, ct, aT]))
      | with_reducible assumption
      | ((first | refine Exists.intro _ (And.intro (Ca (f := vi) bQ) ?_) | refine Exists.intro _ (And.intro (Ca (f := vb) qG) ?_) | refine Exists.intro _ (And.intro (Ca (f := vb) dp) ?_) | fail); (repeat first | refine nx ?_ | simp only [hK, hF, dd, Ar, List.length_map, bY, be, dP, ct, aT]))
      | (refine A0.merge ?_ (fun hc K' hK => ?_) ?_; rotate_left)
      | (refine cX (fun h => ?_) (fun h => ?_) <;> try exact Ah h)
      | (refine And.intro (by omega) ?_)
      | ((first | refine xm ?_ | refine xn ?_ | fail); (repeat first | refine nx ?_ | simp only [hK, hF, dd, Ar, List.length_map, bY, be, dP, ct, aT]))
      | (refine xw ?_; (repeat first | refine nx ?_ | simp only [hK, hF, dd, Ar, List.length_map, bY, be, dP, ct, aT]))
      | fail
    ·refine EV.to (Lp (t := { t with k := t.k.set a true, r := t.r.set a t.l[u] }) hp aT d9 ⟨by simp [bY], be, by simp [dP], ct⟩ (by assumption) ih4) ?_ (List.Sublist.refl _)
     exact eE
    ·rw [Fq, if_neg (by assumption)] at ih4
     refine EV.to ih4 ?_ (List.Sublist.refl _)
     exact eE
  ·have bh : decide ((0 : Int) ≤ Ae e a) = false := decide_eq_false h0
   have eR : Bw e.frm a t = { t with k := t.k.set a true } := by
    unfold Bw
    rw [efr, if_neg h0]
   rw [bh, Bool.false_and, if_neg (by simp), eR] at ih4
   repeat' first
     | refine EV.seq ?_
     | refine EV.skip ?_
     | refine EV.inBlock ?_
     | (refine EV.reg ?_; (conv => (arg 2; whnf)); (repeat first | refine nx ?_ | simp only [hK, bh, Ar, List.length_map, bY, be, dP, ct, aT]))
     | (refine Exists.intro _ (And.intro (Ca (f := vb) dp) ?_); (repeat first | refine nx ?_ | simp only [hK, bh, Ar, List.length_map, bY, be, dP, ct, aT]))
     | (refine A0.intro (fun hc => ?_) (fun hc => ?_) <;> try simp only [ne_eq, Bool.not_true, Bool.not_false, not_true_eq_false, not_false_eq_true, reduceCtorEq] at hc <;> try (exfalso; first | exact hc | omega | (simp at hc; done)))
     | (refine cX (fun h => ?_) (fun h => ?_) <;> try exact Ah h)
     | (refine And.intro (by omega) ?_)
     | ((first | refine xm ?_ | refine xn ?_ | fail); (repeat first | refine nx ?_ | simp only [hK, bh, Ar, List.length_map, bY, be, dP, ct, aT]))
     | (refine xw ?_; (repeat first | refine nx ?_ | simp only [hK, bh, Ar, List.length_map, bY, be, dP, ct, aT]))
     | fail
   ·refine EV.to (Lp (t := { t with k := t.k.set a true }) hp aT d9 ⟨bY, be, by simp [dP], ct⟩ (by assumption) ih4) ?_ (List.Sublist.refl _)
    exact eE
   ·rw [Fq, if_neg (by assumption)] at ih4
    refine EV.to ih4 ?_ (List.Sublist.refl _)
    exact eE
end Go.EV

namespace Go.EV
open Go.Proofs
section
variable {M : Aa}
set_option maxHeartbeats 4000000 in
theorem Iv (p : List Ev) (s : Value) (hs : Sl M 6 Hf s p) (hp : p.length ≤ 16) (e : Exec) (v : Value) (hv : IsX M v e) (az : e.frm.length = p.length) (cl : ∀ i, i < p.length → Ae e i < p.length) :
  Con Tryz.prog 43 #[s, v] M [] fun u M' G' => ∃ rb lb kb, u = .tuple #[Bg rb p.length p.length, Bg lb p.length p.length, Bg kb p.length p.length] ∧ (Bf p e.frm).Len p.length ∧ 
   G' = [(kb, Cl 4 ((Bf p e.frm).k.map vb)), (lb, Cl 3 ((Bf p e.frm).l.map vi)), (rb, Cl 3 ((Bf p e.frm).r.map vi))] := by
 obtain ⟨pa, pc, rfl, am⟩ := hs
 obtain ⟨f, d, o, n, rfl, ⟨fa, fc, rfl, bU⟩, ⟨da, dc, rfl, aH⟩, ⟨oa, oc, ovs, rfl, bG, bJ, bu⟩, ⟨na, nc, rfl, _⟩⟩ := hv
 refine Con.enter Q87_ok (args := [.slice pa p.length pc, .agg #[.slice fa e.frm.length fc, .slice da e.dn.length dc, .slice oa e.ord.length oc, .slice na e.fen.length nc]]) (by simp [Q87]) fun w0 => ?_
 simp only [Q87, A5]
 repeat' first
   | refine EV.seq ?_
   | refine EV.block ?_
   | (refine EV.reg ?_; (conv => (arg 2; whnf)); (repeat first | refine nx ?_ | simp only [A3]))
   | (with_reducible intro b; (repeat first | refine nx ?_ | simp only [A3]))
   | (refine And.intro (by omega) ?_)
   | fail
 obtain ⟨fb, rfl⟩ : ∃ x, x = b := ⟨_, rfl⟩
 obtain ⟨kb, rfl⟩ : ∃ x, x = b := ⟨_, rfl⟩
 obtain ⟨lb, rfl⟩ : ∃ x, x = b := ⟨_, rfl⟩
 obtain ⟨rb, rfl⟩ : ∃ x, x = b := ⟨_, rfl⟩
 obtain ⟨xb, rfl⟩ : ∃ x, x = b := ⟨_, rfl⟩
 refine EV.frz [(xb, Cl 37 [.slice fa e.frm.length fc, .slice da e.dn.length dc, .slice oa e.ord.length oc, .slice na e.fen.length nc])] ?_
 generalize hR : M.add _ = N
 have aC : M.le N := hR ▸ Aa.le_add _ _
 have au : rd N xb 0 4 [.slice fa e.frm.length fc, .slice da e.dn.length dc, .slice oa e.ord.length oc, .slice na e.fen.length nc] := hR ▸ Ap 0 rfl rfl (by simp)
 clear hR
 have dO := au.pt 0 1 (by omega) rfl
 simp only [Nat.zero_add] at dO
 have bz := am.mono aC
 have cB : ∀ b, b < p.length → ∃ fb fo, fa = some ⟨fb, fo, none⟩ ∧ rd N fb (fo + b) 1 [vi (Ae e b)] := fun b hb => by
  obtain ⟨fb, fo, e1, hat⟩ := Sl.at (sz := 1) (enc := ei) (fun _ => rfl) (by decide) bU (by omega)
  exact ⟨fb, fo, e1, (B6 hat b (by omega)).mono aC⟩
 have af : ∀ b, b < p.length → ∃ pb po, pa = some ⟨pb, po, none⟩ ∧ rd N pb (po + b * 6) 6 (Hf (evAt p b)) := fun b hb => by
  obtain ⟨pb, po, e1, hat⟩ := Sl.at (sz := 6) (enc := Hf) (fun _ => rfl) (by decide) bz (by omega)
  have := hat b hb
  rw [← B8 hb] at this
  exact ⟨pb, po, e1, this⟩
 clear bJ bu bU am bz aH
 have gH : ∀ m, (Af (Qa p) m ⟨List.replicate p.length 0, List.replicate p.length 0, List.replicate p.length false, List.replicate p.length false⟩).Len p.length := fun m => F9 (fun i s h => Ae5 h) m (Ae6 _)
 refine EV.loopTo (fun a : Nat => ([(0, .slice pa p.length pc), (3, pv xb 0), (7, Bg rb p.length p.length), (8, Bg lb p.length p.length), (9, Bg kb p.length p.length), (10, Bg fb p.length p.length), (11, vi a)], N, rkG (Af (Qa p) a ⟨List.replicate p.length 0, List.replicate p.length 0, List.replicate p.length false, List.replicate p.length false⟩) rb lb kb fb)) (fun a => a ≤ p.length) (fun a => p.length - a) 0 rfl (Nat.zero_le _) ?env1 ?sub1 ?_
 case env1 =>
  exact eE
 case sub1 =>
  simp only [rkG, Af, List.map_replicate]
  exact List.Sublist.refl _
 intro a ha ih
 dsimp only at ha ih ⊢
 refine EV.seq ?_
 refine EV.seq ?_
 repeat' first
   | refine EV.skip ?_
   | refine rg ?_
   | (refine cX (fun h => ?_) (fun h => ?_) <;> try exact Ah h)
   | (refine EV.exit rfl ?_)
   | exact ⟨⟩
   | fail
 ·have aT : a < p.length := by omega
  have cM := gH a
  have ih2 := ih (a + 1) (by omega) (by omega)
  simp only [Af] at ih2
  generalize Af (Qa p) a ⟨List.replicate p.length 0, List.replicate p.length 0, List.replicate p.length false, List.replicate p.length false⟩ = s at *
  obtain ⟨pb, po, rfl, d9⟩ := af a aT
  have cE : rd N pb (po + a * 6 + 1) 5 [vi (evAt p a).op.kind, vi (evAt p a).op.loc, vi (evAt p a).op.v, vi (evAt p a).op.w, vi (evAt p a).op.ord] := d9.pt 1 5 (by omega) rfl
  have e1 : Qa p a s = ⟨s.r, if (evAt p a).op.kind = 1 then s.l.set a (evAt p a).op.v else if (evAt p a).op.kind = 3 ∨ (evAt p a).op.kind = 4 then s.l.set a (evAt p a).op.w else s.l, s.k, s.f.set a (!decide ((evAt p a).op.kind = 2))⟩ := by simp [Qa]
  rw [e1] at ih2
  clear e1
  generalize (evAt p a).op = o at *
  have ct := cM.f
  have be := cM.l
  have kC : a < s.f.length := by omega
  have cw : a < s.l.length := by omega
  repeat' first
    | refine EV.seq ?_
    | refine EV.skip ?_
    | refine EV.block ?_
    | refine EV.inBlock ?_
    | (refine EV.reg ?_; (conv => (arg 2; whnf)); (repeat first | refine nx ?_ | simp only [Ar, List.length_map, ct, be, aT]))
    | (refine cX (fun h => ?_) (fun h => ?_) <;> try exact Ah h)
    | (with_reducible intro b; (repeat first | refine nx ?_ | simp only [Ar, List.length_map, ct, be, aT]))
    | (refine And.intro (by omega) ?_)
    | ((first | refine xm ?_ | refine xiA rfl ?_ | fail); (repeat first | refine nx ?_ | simp only [Ar, List.length_map, ct, be, aT]))
    | (refine xw ?_; (repeat first | refine nx ?_ | simp only [Ar, List.length_map, ct, be, aT]))
    | fail
  all_goals
   first
    | rw [if_pos (show o.kind = 1 by assumption)] at ih2
    | rw [if_neg (show ¬ o.kind = 1 by assumption), if_pos (show o.kind = 3 ∨ o.kind = 4 by omega)] at ih2
    | rw [if_neg (show ¬ o.kind = 1 by assumption), if_neg (show ¬ (o.kind = 3 ∨ o.kind = 4) by omega)] at ih2
   refine EV.to ih2 ?_ (List.Sublist.cons _ (List.Sublist.refl _))
   exact eE
 ·have dG : a = p.length := by omega
  subst dG
  have qH : Af (Qa p) p.length ⟨List.replicate p.length 0, List.replicate p.length 0, List.replicate p.length false, List.replicate p.length false⟩ = rk0 p := rfl
  have ma : (rk0 p).Len p.length := gH p.length
  rw [qH]
  repeat' first
    | refine EV.seq ?_
    | refine EV.block ?_
    | refine rg ?_
    | exact ⟨⟩
    | fail
  obtain ⟨s0, aI⟩ : ∃ x, x = rk0 p := ⟨_, rfl⟩
  rw [← aI] at ma ⊢
  have gI : ∀ m, (Af (fun _ s => Im p e.frm s) m s0).Len p.length := fun m => F9 (fun i s h => F9 (fun i s h => Qc h) _ h) m ma
  refine EV.loopTo (fun r : Nat => ([(0, .slice pa p.length pc), (3, pv xb 0), (7, Bg rb p.length p.length), (8, Bg lb p.length p.length), (9, Bg kb p.length p.length), (10, Bg fb p.length p.length), (13, vi r)], N, rkG (Af (fun _ s => Im p e.frm s) r s0) rb lb kb fb)) (fun r => r ≤ p.length + 1) (fun r => p.length + 1 - r) 0 rfl (Nat.zero_le _) ?env2 (List.Sublist.refl _) ?_
  case env2 =>
   exact eE
  intro r hr ih
  dsimp only at hr ih ⊢
  refine EV.seq ?_
  refine EV.seq ?_
  repeat' first
    | refine EV.skip ?_
    | refine rg ?_
    | (refine cX (fun h => ?_) (fun h => ?_) <;> try exact Ah h)
    | (refine EV.exit rfl ?_)
    | exact ⟨⟩
    | fail
  ·have bj : r ≤ p.length := by omega
   have cM := gI r
   have ih2 := ih (r + 1) (by omega) (by omega)
   rw [show Af (fun _ s => Im p e.frm s) (r + 1) s0 = Im p e.frm (Af (fun _ s => Im p e.frm s) r s0) from rfl] at ih2
   generalize Af (fun _ s => Im p e.frm s) r s0 = s at *
   rw [Im] at ih2
   have nC : ∀ m, (Af (Cs p e.frm) m s).Len p.length := fun m => F9 (fun i s h => Qc h) m cM
   repeat' first
     | refine EV.seq ?_
     | refine EV.block ?_
     | refine rg ?_
     | exact ⟨⟩
     | fail
   refine EV.loopTo (fun a : Nat => ([(0, .slice pa p.length pc), (3, pv xb 0), (7, Bg rb p.length p.length), (8, Bg lb p.length p.length), (9, Bg kb p.length p.length), (10, Bg fb p.length p.length), (13, vi r), (14, vi a)], N, rkG (Af (Cs p e.frm) a s) rb lb kb fb)) (fun a => a ≤ p.length) (fun a => p.length - a) 0 rfl (Nat.zero_le _) ?env3 (List.Sublist.refl _) ?_
   case env3 =>
    exact eE
   intro a ha ih3
   dsimp only at ha ih3 ⊢
   refine EV.seq ?_
   refine EV.seq ?_
   repeat' first
     | refine EV.skip ?_
     | refine EV.inBlock ?_
     | refine rg ?_
     | (refine cX (fun h => ?_) (fun h => ?_) <;> try exact Ah h)
     | (refine EV.exit rfl ?_)
     | exact ⟨⟩
     | fail
   ·have aT : a < p.length := by omega
    have qI := nC a
    have ih4 := ih3 (a + 1) (by omega) (by omega)
    simp only [Af] at ih4
    generalize Af (Cs p e.frm) a s = t at *
    refine EV.to (Rs hp aT az cl dO cB af qI ih4) ?_ (List.Sublist.refl _)
    exact eE
   ·have dG : a = p.length := by omega
    subst dG
    refine EV.to ih2 ?_ (List.Sublist.refl _)
    exact eE
  ·have hre : r = p.length + 1 := by omega
   subst hre
   have bO : Af (fun _ s => Im p e.frm s) (p.length + 1) s0 = Bf p e.frm := by subst_vars; rfl
   have be := gI (p.length + 1)
   rw [bO] at be ⊢
   repeat' first
     | refine EV.seq ?_
     | refine rg ?_
     | exact ⟨⟩
     | fail
   refine EV.toS (G' := [(kb, Cl 4 ((Bf p e.frm).k.map vb)), (lb, Cl 3 ((Bf p e.frm).l.map vi)), (rb, Cl 3 ((Bf p e.frm).r.map vi))]) (ρ' := [(4, Bg rb p.length p.length), (5, Bg lb p.length p.length), (6, Bg kb p.length p.length)]) ?_ ?env9
   case env9 =>
    exact eE
   (refine rt Q87_ok ?_; try with_reducible exact ⟨⟩)
   exact ⟨_, _, _, rfl, be, rfl⟩
end
end Go.EV

namespace Go.EV
open Go.Proofs
def Tk (p : List Ev) (e : Exec) : Bool := (List.range p.length).all fun a => (Bf p e.frm).K a
section
variable {M : Aa}
theorem Oe (p : List Ev) (s : Value) (hs : Sl M 6 Hf s p) (hp : p.length ≤ 16) (e : Exec) (v : Value) (hv : IsX M v e) (az : e.frm.length = p.length) (cl : ∀ i, i < p.length → Ae e i < p.length) :
  Con Tryz.prog 45 #[s, v] M [] fun u M' _ => (Tk p e = false ∧ u = .tuple #[.slice none 0 0, .slice none 0 0, vb false]) ∨
   (Tk p e = true ∧ ∃ rv lv, u = .tuple #[rv, lv, vb true] ∧ Sl M' 1 ei rv (Bf p e.frm).r ∧ Sl M' 1 ei lv (Bf p e.frm).l) := by
 have aI := hs
 have aQ := hv
 obtain ⟨pa, pc, rfl, am⟩ := hs
 obtain ⟨f, d, o, n, rfl, ⟨fa, fc, rfl, bU⟩, ⟨da, dc, rfl, aH⟩, ⟨oa, oc, ovs, rfl, bG, bJ, bu⟩, ⟨na, nc, rfl, _⟩⟩ := hv
 refine Con.enter Q77_ok (args := [.slice pa p.length pc, .agg #[.slice fa e.frm.length fc, .slice da e.dn.length dc, .slice oa e.ord.length oc, .slice na e.fen.length nc]]) (by simp [Q77]) fun w0 => ?_
 simp only [Q77, A5]
 repeat' first
   | refine EV.seq ?_
   | refine rg ?_
   | ((first | with_reducible intro b | refine xrA rfl ?_ | fail); try refine nx ?_)
   | exact ⟨⟩
   | fail
 refine Con.callS (G1 := []) (Iv p _ aI hp e _ aQ az cl) ?_
 rintro v M1 G1 ap ⟨rb, lb, kb, rfl, aG, rfl⟩
 refine EV.keepS [] ?_
 generalize hR : M1.add _ = N
 have aC : M.le N := hR ▸ Aa.le_trans ap (Aa.le_add _ _)
 have iZ : ∀ a, a < p.length → rd N kb a 1 [vb ((Bf p e.frm).K a)] := fun a ha => by
  have h1 : a < (Bf p e.frm).k.length := by rw [aG.k]; exact ha
  have h2 := Ca (M := M1) (G := [(kb, Cl 4 ((Bf p e.frm).k.map vb)), (lb, Cl 3 ((Bf p e.frm).l.map vi)), (rb, Cl 3 ((Bf p e.frm).r.map vi))]) (b := kb) (f := vb) h1
  rw [Rk.K, List.getElem?_eq_getElem h1, Option.getD_some]
  rw [← hR]
  exact h2.mono (fun b o h => h.imp id fun h => List.mem_append_left _ h)
 have bY := aG.r
 have be := aG.l
 have dm : Sl N 1 ei (Bg rb p.length p.length) (Bf p e.frm).r := ⟨some ⟨rb, 0, none⟩, p.length, by rw [bY], .inr ⟨rb, 0, rfl, by
  rw [← hR, Ax, bY, Nat.mul_one]
  exact Ap 2 rfl (by rw [List.drop_zero, List.take_of_length_le (by rw [List.length_map, bY]; exact Nat.le_refl _)]) (by rw [List.length_map, bY]; omega)⟩⟩
 have fk : Sl N 1 ei (Bg lb p.length p.length) (Bf p e.frm).l := ⟨some ⟨lb, 0, none⟩, p.length, by rw [be], .inr ⟨lb, 0, rfl, by
  rw [← hR, Ax, be, Nat.mul_one]
  exact Ap 1 rfl (by rw [List.drop_zero, List.take_of_length_le (by rw [List.length_map, be]; exact Nat.le_refl _)]) (by rw [List.length_map, be]; omega)⟩⟩
 clear hR
 repeat' first
   | refine EV.seq ?_
   | refine EV.block ?_
   | refine rg ?_
   | exact ⟨⟩
   | fail
 refine EV.loopTo (fun a : Nat => ([(0, .slice pa p.length pc), (7, Bg rb p.length p.length), (8, Bg lb p.length p.length), (9, Bg kb p.length p.length), (10, vi a)], N, [])) (fun a => a ≤ p.length ∧ ∀ x, x < a → (Bf p e.frm).K x = true) (fun a => p.length - a) 0 rfl ⟨Nat.zero_le _, fun x hx => absurd hx (Nat.not_lt_zero _)⟩ ?env1 (List.nil_sublist _) ?_
 case env1 =>
  exact eE
 rintro a ⟨ha, hall⟩ ih
 dsimp only at ha hall ih ⊢
 refine EV.seq ?_
 refine EV.seq ?_
 repeat' first
   | refine EV.skip ?_
   | refine rg ?_
   | (refine cX (fun h => ?_) (fun h => ?_) <;> try exact Ah h)
   | (refine EV.exit rfl ?_)
   | exact ⟨⟩
   | fail
 ·have aT : a < p.length := by omega
  have t7 := iZ a aT
  have ih2 := fun h => ih (a + 1) ⟨by omega, h⟩ (by omega)
  generalize hK : (Bf p e.frm).K a = y at *
  repeat' first
    | refine EV.seq ?_
    | refine EV.skip ?_
    | refine EV.block ?_
    | refine EV.inBlock ?_
    | refine rg ?_
    | (refine cX (fun h => ?_) (fun h => ?_) <;> try exact Ah h)
    | (refine And.intro (by omega) ?_)
    | (refine xm ?_; try refine nx ?_)
    | exact ⟨⟩
    | fail
  ·have aK : Tk p e = false := by
    unfold Tk
    rw [List.all_eq_false]
    exact ⟨a, List.mem_range.2 aT, by rw [hK]; simpa using h⟩
   (refine rt Q77_ok ?_; try with_reducible exact ⟨⟩)
   first | exact .inl aK | exact .inl ⟨aK, rfl⟩ | exact ⟨aK, rfl⟩
  ·have hy : y = true := by simpa using h
   refine EV.to (ih2 fun x hx => ?_) ?_ (List.Sublist.refl _)
   ·by_cases e1 : x = a
    ·rw [e1, hK]; exact hy
    ·exact hall x (by omega)
   ·exact eE
 ·have dV : Tk p e = true := by
   unfold Tk
   rw [List.all_eq_true]
   intro x hx
   exact hall x (by have := List.mem_range.1 hx; omega)
  repeat' first
    | refine EV.seq ?_
    | refine rg ?_
    | exact ⟨⟩
    | fail
  (refine rt Q77_ok ?_; try with_reducible exact ⟨⟩)
  exact .inr ⟨dV, _, _, rfl, dm, fk⟩
theorem Tl (p : List Ev) (s : Value) (hs : Sl M 6 Hf s p) (hp : p.length ≤ 16) (e : Exec) (v : Value) (hv : IsX M v e) (bI : e.dn.length = p.length) (rv kv : Value) (gy : Sl M 1 ei rv (Bf p e.frm).r) (lB : Sl M 1 eb kv (Bf p e.frm).k) (aG : (Bf p e.frm).Len p.length) :
  Aq Tryz.prog 44 #[s, v, rv, kv] M (vb ((List.range p.length).all (I8 p e))) := by
 obtain ⟨pa, pc, rfl, am⟩ := hs
 obtain ⟨ra, rc, rfl, dm⟩ := gy
 obtain ⟨ka, kc, rfl, iZ⟩ := lB
 obtain ⟨f, d, o, n, rfl, ⟨fa, fc, rfl, bU⟩, ⟨da, dc, rfl, aH⟩, ⟨oa, oc, ovs, rfl, bG, bJ, bu⟩, ⟨na, nc, rfl, _⟩⟩ := hv
 rw [aG.r] at dm
 rw [aG.k] at iZ
 refine Con.enter Q93_ok (args := [.slice pa p.length pc, .agg #[.slice fa e.frm.length fc, .slice da e.dn.length dc, .slice oa e.ord.length oc, .slice na e.fen.length nc], .slice ra (Bf p e.frm).r.length rc, .slice ka (Bf p e.frm).k.length kc]) (by simp [Q93]) fun w0 => ?_
 simp only [Q93, A5]
 rw [aG.r, aG.k]
 repeat' first
   | refine EV.seq ?_
   | refine EV.block ?_
   | refine rg ?_
   | (with_reducible intro b; try refine nx ?_)
   | exact ⟨⟩
   | fail
 obtain ⟨xb, rfl⟩ : ∃ x, x = b := ⟨_, rfl⟩
 refine EV.frz [(xb, Cl 37 [.slice fa e.frm.length fc, .slice da e.dn.length dc, .slice oa e.ord.length oc, .slice na e.fen.length nc])] ?_
 generalize hR : M.add _ = N
 have aC : M.le N := hR ▸ Aa.le_add _ _
 have au : rd N xb 0 4 [.slice fa e.frm.length fc, .slice da e.dn.length dc, .slice oa e.ord.length oc, .slice na e.fen.length nc] := hR ▸ Ap 0 rfl rfl (by simp)
 clear hR
 have bP := au.pt 1 1 (by omega) rfl
 simp only [Nat.zero_add] at bP
 refine EV.loopTo (fun a : Nat => ([(0, .slice pa p.length pc), (2, .slice ra p.length rc), (3, .slice ka p.length kc), (5, pv xb 0), (8, vb false), (9, vi a)], N, [])) (fun a => a ≤ p.length ∧ ∀ x, x < a → I8 p e x = true) (fun a => p.length - a) 0 rfl ⟨Nat.zero_le _, fun x hx => absurd hx (Nat.not_lt_zero _)⟩ ?env1 (List.nil_sublist _) ?_
 case env1 =>
  exact eE
 rintro a ⟨ha, hall⟩ ih
 dsimp only at ha hall ih ⊢
 refine EV.seq ?_
 refine EV.seq ?_
 repeat' first
   | refine EV.skip ?_
   | refine rg ?_
   | (refine cX (fun h => ?_) (fun h => ?_) <;> try exact Ah h)
   | (refine EV.exit rfl ?_)
   | exact ⟨⟩
   | fail
 ·have aT : a < p.length := by omega
  have ih2 := fun h => ih (a + 1) ⟨by omega, h⟩ (by omega)
  have aK : I8 p e a = false → (List.range p.length).all (I8 p e) = false := fun h => List.all_eq_false.2 ⟨a, List.mem_range.2 aT, by rw [h]; decide⟩
  have c7 : I8 p e a = true → ∀ x, x < a + 1 → I8 p e x = true := fun h x hx => by
   by_cases e1 : x = a
   ·rw [e1]; exact h
   ·exact hall x (by omega)
  have qJ : rdS N 1 ra (Bf p e.frm).r.length ((Bf p e.frm).r.flatMap ei) := by rw [aG.r]; exact dm.mono aC
  have qK : rdS N 1 ka (Bf p e.frm).k.length ((Bf p e.frm).k.flatMap eb) := by rw [aG.k]; exact iZ.mono aC
  obtain ⟨pb, po, rfl, cn⟩ := Sl.at (sz := 6) (enc := Hf) (fun _ => rfl) (by decide) (am.mono aC) (by omega)
  obtain ⟨rb, ro, rfl, kV⟩ := Sl.at (sz := 1) (enc := ei) (fun _ => rfl) (by decide) qJ (by rw [aG.r]; omega)
  obtain ⟨kb, ko, rfl, kW⟩ := Sl.at (sz := 1) (enc := eb) (fun _ => rfl) (by decide) qK (by rw [aG.k]; omega)
  obtain ⟨db, dof, rfl, eQ⟩ := Sl.at (sz := 1) (enc := eb) (fun _ => rfl) (by decide) (aH.mono aC) (by omega)
  have d9 := cn a aT
  rw [← B8 aT] at d9
  have cE : rd N pb (po + a * 6 + 1) 5 [vi (evAt p a).op.kind, vi (evAt p a).op.loc, vi (evAt p a).op.v, vi (evAt p a).op.w, vi (evAt p a).op.ord] := d9.pt 1 5 (by omega) rfl
  have kk : rd N rb (ro + a) 1 [vi ((Bf p e.frm).R a)] := by
   have h1 : a < (Bf p e.frm).r.length := by rw [aG.r]; exact aT
   have := kV a h1
   rw [Nat.mul_one] at this
   rw [Rk.R, List.getElem?_eq_getElem h1]; exact this
  have t7 : rd N kb (ko + a) 1 [vb ((Bf p e.frm).K a)] := by
   have h1 : a < (Bf p e.frm).k.length := by rw [aG.k]; exact aT
   have := kW a h1
   rw [Nat.mul_one] at this
   rw [Rk.K, List.getElem?_eq_getElem h1]; exact this
  have tY : rd N db (dof + a) 1 [vb (B0 e.dn a)] := by
   have := eQ a (by omega)
   rw [Nat.mul_one] at this
   rw [B0, List.getElem?_eq_getElem (by omega)]; exact this
  have nL : I8 p e a = (!(Bf p e.frm).K a || !((decide ((evAt p a).op.kind = 3) && (B0 e.dn a != decide ((Bf p e.frm).R a = (evAt p a).op.v))) || (decide ((evAt p a).op.kind = 4) && B0 e.dn a && decide ((Bf p e.frm).R a ≠ (evAt p a).op.v)))) := rfl
  rw [nL] at aK c7
  generalize (evAt p a).op = o at *
  generalize (Bf p e.frm).R a = R at *
  generalize (Bf p e.frm).K a = K at *
  generalize B0 e.dn a = D at *
  refine EV.seq ?_
  refine EV.block ?_
  repeat' first
    | refine EV.seq ?_
    | refine EV.skip ?_
    | refine rg ?_
    | (refine cX (fun h => ?_) (fun h => ?_) <;> try exact Ah h)
    | (refine EV.exit rfl ?_)
    | (with_reducible intro b; try refine nx ?_)
    | (refine And.intro (by omega) ?_)
    | (refine xm ?_; try refine nx ?_)
    | (refine xw ?_; refine nx ?_)
    | exact ⟨⟩
    | fail
  ·refine EV.to (ih2 (c7 (by simp_all))) ?_ (List.nil_sublist _)
   exact eE
  ·have t8 : K = true := by simpa using h
   subst t8
   refine EV.any (t := Bj1) [(b, Cl 83 [vi o.kind, vi o.loc, vi o.v, vi o.w, vi o.ord])] (List.Sublist.refl _) ?_
   simp only [Ao, As, Am, Au, reduceIte, Nat.reduceEqDiff]
   repeat' first
     | ((refine Mg (by first | with_reducible assumption | rfl) rfl ?_ (fun lq aB hc => ?_) (fun lq aB => ?_); rotate_left) <;> (try (exfalso; simp at hc; done)) <;> try refine nz ?_)
     | ((first | refine zo (fun lq aB => ?_) | refine zl ?_ | fail); try refine nz ?_)
     | refine zf ?_
     | with_reducible rfl
     | (refine And.intro (by omega) ?_)
     | ((first | refine xm ?_ | refine xn ?_ | refine xiA rfl ?_ | fail); try refine nz ?_)
     | exact ⟨⟩
     | fail
   have td : (decide (o.kind = 3) && (D != decide (R = o.v)) || decide (o.kind = 4) && D && decide (R ≠ o.v)) = (decide (o.kind = 3) && !(D == decide (R = o.v)) || decide (o.kind = 4) && D && !decide (R = o.v)) := by
    simp [bne]
   rw [td] at aK c7
   generalize (decide (o.kind = 3) && !(D == decide (R = o.v)) || decide (o.kind = 4) && D && !decide (R = o.v)) = Y at *
   repeat' first
     | refine EV.seq ?_
     | refine EV.skip ?_
     | refine EV.inBlock ?_
     | refine rg ?_
     | (refine cX (fun h => ?_) (fun h => ?_) <;> try exact Ah h)
     | exact ⟨⟩
     | fail
   ·(refine rt Q93_ok ?_; try with_reducible exact ⟨⟩)
    rw [aK (by rw [h]; rfl)]
   ·refine EV.to (ih2 (c7 (by rw [h]; rfl))) ?_ (List.nil_sublist _)
    exact eE
 ·have : (List.range p.length).all (I8 p e) = true := List.all_eq_true.2 fun x hx => hall x (by have := List.mem_range.1 hx; omega)
  repeat' first
    | refine EV.seq ?_
    | refine rg ?_
    | exact ⟨⟩
    | fail
  (refine rt Q93_ok ?_; try with_reducible exact ⟨⟩)
  rw [this]
end
end Go.EV

namespace Go.EV
open Go.Proofs
theorem Av0 {p : List Ev} {e : Exec} {a : Nat} : EvR p e a ↔ (En (evAt p a).op = false → Ae e a = -2) ∧ (En (evAt p a).op = true → -1 ≤ Ae e a ∧ Ae e a < p.length) ∧ ((evAt p a).op.kind = 1 ∨ (evAt p a).op.kind = 2 → B0 e.dn a = true) ∧ (Cw (evAt p a).op = false → B0 e.dn a = false) ∧
  (En (evAt p a).op = true → 0 ≤ Ae e a → B0 e.dn (Ae e a).toNat = true ∧ (evAt p (Ae e a).toNat).op.loc = (evAt p a).op.loc ∧ Cw (evAt p (Ae e a).toNat).op = true) :=
 ⟨fun h => ⟨h.out, h.src, h.do1, h.do0, h.src2⟩, fun ⟨a, b, c, d, e⟩ => ⟨a, b, c, d, e⟩⟩
set_option maxHeartbeats 4000000 in
theorem Rt {C : Cx Tryz.prog} {k : List RItem} {p : List Ev} {e : Exec} {N : Aa} {pa : Option Addr} {pc xb : Nat} {fa da : Option Addr} {fc dc : Nat} (hp : p.length ≤ 16) (de : ∀ i, i < p.length → 0 ≤ (evAt p i).op.kind ∧ (evAt p i).op.kind ≤ 5) (az : e.frm.length = p.length) (bI : e.dn.length = p.length)
  (dO : rd N xb 0 1 [.slice fa e.frm.length fc]) (bP : rd N xb 1 1 [.slice da e.dn.length dc])
  (cB : ∀ b, b < p.length → ∃ fb fo, fa = some ⟨fb, fo, none⟩ ∧ rd N fb (fo + b) 1 [vi (Ae e b)])
  (cp : ∀ b, b < p.length → ∃ db dof, da = some ⟨db, dof, none⟩ ∧ rd N db (dof + b) 1 [vb (B0 e.dn b)])
  (af : ∀ b, b < p.length → ∃ pb po, pa = some ⟨pb, po, none⟩ ∧ rd N pb (po + b * 6) 6 (Hf (evAt p b)))
  (aK : ¬ Shape p e → ∀ k ρ G, get ρ 4 = some (vb false) → EV C [0, 1, 3, 4, 5, 6, 7, 8, 9, 10, 11, 12, 13, 14, 15, 16] (.code .ret :: k) ρ N G)
  (key : (∀ a, a < p.length → EvR p e a) → EV C [0, 1, 3, 4, 5, 6, 7, 8, 9, 10, 11, 12, 13, 14, 15, 16] k [(0, .slice pa p.length pc), (3, pv xb 0), (4, vb false), (5, vi (Bk p).length)] N []) :
  EV C [0, 1, 3, 4, 5, 6, 7, 8, 9, 10, 11, 12, 13, 14, 15, 16] (.code (.loop Um) :: .inBlock 0 :: k) [(6, vi 0), (0, .slice pa p.length pc), (3, pv xb 0), (4, vb false), (5, vi 0)] N [] := by
 refine EV.loopTo (fun a : Nat => ([(0, .slice pa p.length pc), (3, pv xb 0), (4, vb false), (5, vi (Cy a fun i => (evAt p i).strong).length), (6, vi a)], N, [])) (fun a => a ≤ p.length ∧ ∀ x, x < a → EvR p e x) (fun a => p.length - a) 0 rfl ⟨Nat.zero_le _, fun x hx => absurd hx (Nat.not_lt_zero _)⟩ ?env1 (List.nil_sublist _) ?_
 case env1 =>
  exact eE
 rintro a ⟨ha, hall⟩ ih
 dsimp only at ha hall ih ⊢
 refine EV.seq ?_
 refine EV.seq ?_
 repeat' first
   | refine EV.skip ?_
   | refine rg ?_
   | (refine cX (fun h => ?_) (fun h => ?_) <;> try exact Ah h)
   | (refine EV.exit rfl ?_)
   | exact ⟨⟩
   | fail
 ·have aT : a < p.length := by omega
  have ih2 := fun h => ih (a + 1) ⟨by omega, h⟩ (by omega)
  have c7 : EvR p e a → ∀ x, x < a + 1 → EvR p e x := fun h x hx => by
   by_cases e1 : x = a
   ·rw [e1]; exact h
   ·exact hall x (by omega)
  have bg : ¬ EvR p e a → ∀ k ρ G, get ρ 4 = some (vb false) → EV C [0, 1, 3, 4, 5, 6, 7, 8, 9, 10, 11, 12, 13, 14, 15, 16] (.code .ret :: k) ρ N G := fun h => aK fun hs => h (hs.evR de aT)
  have ax : (Cy a fun i => (evAt p i).strong).length ≤ a := Bz _ _
  rw [H9] at ih2
  generalize (Cy a fun i => (evAt p i).strong) = L at *
  obtain ⟨pb, po, rfl, d9⟩ := af a aT
  obtain ⟨fb, fo, rfl, jO⟩ := cB a aT
  obtain ⟨db, dof, rfl, rP⟩ := cp a aT
  have cE : rd N pb (po + a * 6 + 1) 5 [vi (evAt p a).op.kind, vi (evAt p a).op.loc, vi (evAt p a).op.v, vi (evAt p a).op.w, vi (evAt p a).op.ord] := d9.pt 1 5 (by omega) rfl
  have ik := Av0 (p := p) (e := e) (a := a)
  have qL : (evAt p a).strong = N8 (evAt p a).op := rfl
  rw [qL] at ih2
  generalize pp : (evAt p a).op = o at *
  generalize kf : Ae e a = f at *
  generalize iB : B0 e.dn a = D at *
  have cQ := fun G => I6 (M := N.add G) o
  have qM := fun G => Ll (M := N.add G) o
  have kX := fun G => N9 (M := N.add G) o
  refine EV.seq ?_
  refine EV.block ?_
  refine EV.seq ?_
  repeat' first
    | refine rg ?_
    | (with_reducible intro b; try refine nx ?_)
    | (refine And.intro (by omega) ?_)
    | (refine xm ?_; try refine nx ?_)
    | (refine xw ?_; refine nx ?_)
    | exact ⟨⟩
    | fail
  refine EV.seq ?_
  repeat' first
    | refine rg ?_
    | (refine And.intro (by omega) ?_)
    | ((first | refine xm ?_ | refine xn ?_ | fail); try refine nx ?_)
    | exact ⟨⟩
    | fail
  refine EV.seq ?_
  repeat' first
    | refine EV.seq ?_
    | refine EV.skip ?_
    | refine rg ?_
    | with_reducible assumption
    | ((first | with_reducible refine Aq.call (qM _) ?_ | with_reducible refine Aq.call (cQ _) ?_ | fail); try refine nx ?_)
    | (refine A0.merge ?_ (fun hc K' hK => ?_) ?_; rotate_left)
    | (refine cX (fun h => ?_) (fun h => ?_) <;> try exact Ah h)
    | (refine And.intro (by omega) ?_)
    | ((first | refine xm ?_ | refine xn ?_ | refine xrA rfl ?_ | refine xiA rfl ?_ | fail); try refine nx ?_)
    | exact ⟨⟩
    | fail
  ·refine bg (fun hE => ?_) _ _ _ rfl
   obtain ⟨g1, g2, g3, g4, _⟩ := ik.1 hE
   clear ik
   cases hr : En o <;> cases hw : Cw o <;> cases D <;> simp [hr, hw] at h g1 g2 g3 g4 <;> omega
  have hc : (En o = false → f = -2) ∧ (En o = true → -1 ≤ f ∧ f < p.length) ∧ (o.kind = 1 ∨ o.kind = 2 → D = true) ∧ (Cw o = false → D = false) := by
   clear ik
   cases hr : En o <;> cases hw : Cw o <;> cases D <;> simp [hr, hw] at h ⊢ <;> omega
  refine EV.to (ρ' := [(0, .slice (some ⟨pb, po, none⟩) p.length pc), (3, pv xb 0), (4, vb false), (5, vi L.length), (6, vi a), (7, pv b 0), (8, vi f)]) ?_ ?env2 (List.Sublist.refl _)
  case env2 =>
   exact eE
  clear h
  obtain ⟨c1, c2, c3, c4⟩ := hc
  have gz : EvR p e a → EV C [0, 1, 3, 4, 5, 6, 7, 8, 9, 10, 11, 12, 13, 14, 15, 16] (.code (.seq (.reg Ag0) (.cond (.t 139) (.reg Ag1) .skip)) :: .inBlock 1 :: .code (.reg Ag2) :: .inLoop Um :: .inBlock 0 :: k) [(0, .slice (some ⟨pb, po, none⟩) p.length pc), (3, pv xb 0), (4, vb false), (5, vi L.length), (6, vi a), (7, pv b 0), (8, vi f)] N [(b, Cl 83 [vi o.kind, vi o.loc, vi o.v, vi o.w, vi o.ord])] := by
   intro hE
   have ih3 := ih2 (c7 hE)
   clear ih ih2 c7 bg aK key ik
   generalize N8 o = y at *
   repeat' first
     | refine EV.seq ?_
     | refine EV.skip ?_
     | refine EV.inBlock ?_
     | refine rg ?_
     | (refine Aq.call (kX _) ?_; try refine nx ?_)
     | (refine cX (fun h => ?_) (fun h => ?_) <;> try exact Ah h)
     | (refine xrA rfl ?_; try refine nx ?_)
     | exact ⟨⟩
     | fail
   ·rw [if_pos (by assumption)] at ih3
    simp only [List.length_append, List.length_cons, List.length_nil] at ih3
    refine EV.to ih3 ?_ (List.nil_sublist _)
    exact eE
   ·have hy : ¬ y = true := by simp_all
    rw [if_neg hy, List.append_nil] at ih3
    refine EV.to ih3 ?_ (List.nil_sublist _)
    exact eE
  cases hr : En o with
  | false =>
   simp only [hr] at cQ
   refine EV.any (t := Vt) [(b, Cl 83 [vi o.kind, vi o.loc, vi o.v, vi o.w, vi o.ord])] (List.Sublist.refl _) ?_
   simp only [Ao, As, Am, Au, reduceIte, Nat.reduceEqDiff]
   repeat' first
     | ((refine Mg (by first | with_reducible assumption | rfl) rfl ?_ (fun lq aB hc => ?_) (fun lq aB => ?_); rotate_left) <;> (try (exfalso; simp at hc; done)) <;> try refine nz ?_)
     | ((first | refine zo (fun lq aB => ?_) | refine zl ?_ | refine Exists.intro _ (And.intro (cQ _) ?_) | fail); try refine nz ?_)
     | refine zf ?_
     | (refine xrA rfl ?_; try refine nz ?_)
     | exact false
     | exact ⟨⟩
     | fail
   repeat' first
     | refine EV.skip ?_
     | (refine cX (fun h => ?_) (fun h => ?_) <;> try exact Ah h)
     | fail
   refine EV.to (gz (ik.2 ⟨c1, c2, c3, c4, fun h => by rw [hr] at h; cases h⟩)) ?_ (List.Sublist.refl _)
   exact eE
  | true =>
   simp only [hr] at cQ
   obtain ⟨d1, d2⟩ := c2 hr
   by_cases h0 : 0 ≤ f
   ·obtain ⟨u, rfl⟩ : ∃ u : Nat, f = u := ⟨f.toNat, by omega⟩
    have bQ : u < p.length := by omega
    obtain ⟨pb', po', e1, lC⟩ := af u bQ
    obtain ⟨rfl, rfl⟩ : pb = pb' ∧ po = po' := by simpa using e1
    obtain ⟨db', dof', e2, te⟩ := cp u bQ
    obtain ⟨rfl, rfl⟩ : db = db' ∧ dof = dof' := by simpa using e2
    have tf : rd N pb (po + u * 6 + 1) 5 [vi (evAt p u).op.kind, vi (evAt p u).op.loc, vi (evAt p u).op.v, vi (evAt p u).op.w, vi (evAt p u).op.ord] := lC.pt 1 5 (by omega) rfl
    have be : rd N pb (po + u * 6 + 1 + 1) 1 [vi (evAt p u).op.loc] := lC.pt 2 1 (by omega) rfl
    have qN := fun G => Ll (M := N.add G) (evAt p u).op
    have dd : decide ((0 : Int) ≤ (u : Int)) = true := decide_eq_true h0
    rw [Int.toNat_natCast] at ik
    generalize (evAt p u).op = q at *
    generalize tg : B0 e.dn u = Du at *
    refine EV.any (t := Vt) [(b, Cl 83 [vi o.kind, vi o.loc, vi o.v, vi o.w, vi o.ord])] (List.Sublist.refl _) ?_
    simp only [Ao, As, Am, Au, reduceIte, Nat.reduceEqDiff]
    repeat' first
      | ((refine Mg (by first | with_reducible assumption | rfl) rfl ?_ (fun lq aB hc => ?_) (fun lq aB => ?_); rotate_left) <;> (try (exfalso; simp at hc; done)) <;> (repeat first | refine nz ?_ | simp only [dd]))
      | ((first | refine zo (fun lq aB => ?_) | refine zl ?_ | refine Exists.intro _ (And.intro (cQ _) ?_) | refine Exists.intro _ (And.intro (qN _) ?_) | fail); (repeat first | refine nz ?_ | simp only [dd]))
      | refine zf ?_
      | with_reducible rfl
      | (refine And.intro (by omega) ?_)
      | ((first | refine xm ?_ | refine xn ?_ | refine xrA rfl ?_ | refine xiA rfl ?_ | fail); (repeat first | refine nz ?_ | simp only [dd]))
      | fail
    obtain ⟨Y, hY⟩ : ∃ Y, (true && true && (!Du || !decide (q.loc = o.loc) || !Cw q)) = Y := ⟨_, rfl⟩
    rw [hY]
    repeat' first
      | refine EV.skip ?_
      | (refine cX (fun h => ?_) (fun h => ?_) <;> try exact Ah h)
      | fail
    ·refine EV.seq ?_
     repeat' first
       | refine rg ?_
       | exact ⟨⟩
       | fail
     refine bg (fun hE => ?_) _ _ _ rfl
     obtain ⟨_, _, _, _, g5⟩ := ik.1 hE
     obtain ⟨q1, q2, q3⟩ := g5 hr (by omega)
     simp [q1, q2, q3] at hY
     rw [hY] at h; cases h
    ·have hq : Du = true ∧ q.loc = o.loc ∧ Cw q = true := by
      rw [h] at hY
      simpa [and_assoc] using hY
     refine EV.to (gz (ik.2 ⟨c1, c2, c3, c4, fun _ _ => hq⟩)) ?_ (List.Sublist.refl _)
     exact eE
   ·have bh : decide ((0 : Int) ≤ f) = false := decide_eq_false h0
    refine EV.any (t := Vt) [(b, Cl 83 [vi o.kind, vi o.loc, vi o.v, vi o.w, vi o.ord])] (List.Sublist.refl _) ?_
    simp only [Ao, As, Am, Au, reduceIte, Nat.reduceEqDiff]
    repeat' first
      | ((refine Mg (by first | with_reducible assumption | rfl) rfl ?_ (fun lq aB hc => ?_) (fun lq aB => ?_); rotate_left) <;> (try (exfalso; simp at hc; done)) <;> (repeat first | refine nz ?_ | simp only [bh]))
      | ((first | refine zo (fun lq aB => ?_) | refine zl ?_ | refine Exists.intro _ (And.intro (cQ _) ?_) | fail); (repeat first | refine nz ?_ | simp only [bh]))
      | refine zf ?_
      | with_reducible rfl
      | (refine xrA rfl ?_; (repeat first | refine nz ?_ | simp only [bh]))
      | exact false
      | fail
    repeat' first
      | refine EV.skip ?_
      | (refine cX (fun h => ?_) (fun h => ?_) <;> try exact Ah h)
      | fail
    refine EV.to (gz (ik.2 ⟨c1, c2, c3, c4, fun _ h => absurd h h0⟩)) ?_ (List.Sublist.refl _)
    exact eE
 ·have dG : a = p.length := by omega
  subst dG
  repeat' first
    | fail
  refine EV.to (key fun x hx => hall x hx) ?_ (List.Sublist.refl _)
  exact eE
end Go.EV

namespace Go.EV
open Go.Proofs
def marks (L : List Int) : List Bool := (List.range 16).map fun (i : Nat) => decide ((i : Int) ∈ L)
theorem Tm (L : List Int) : (marks L).length = 16 := by simp [marks]
theorem L5 {L : List Int} {u : Nat} (h : u < (marks L).length) : (marks L)[u] = decide ((u : Int) ∈ L) := by simp [marks]
theorem Tn {L : List Int} {u : Nat} (hu : u < 16) : (marks L).set u true = marks (L ++ [(u : Int)]) := by
 apply List.ext_getElem
 ·simp [marks]
 ·intro i h1 h2
  rw [List.getElem_set, L5, L5]
  by_cases hi : u = i
  ·subst hi; simp
  ·rw [if_neg hi]
   have : ¬ ((i : Int) = (u : Int)) := by omega
   simp [this]
theorem Z5 : marks [] = List.replicate 16 false := by decide
theorem Xx {l : List Int} (h : l.Nodup) {i : Nat} (hi : i < l.length) : Ad l i ∉ l.take i := by
 have h1 : (l.take (i + 1)).Nodup := h.sublist (List.take_sublist _ _)
 rw [List.take_succ_eq_append_getElem hi, List.nodup_append] at h1
 intro hm
 rw [Ad, List.getElem?_eq_getElem hi, Option.getD_some] at hm
 exact h1.2.2 _ hm _ (List.mem_singleton.2 rfl) rfl
theorem Of {l : List Int} {i : Nat} (hi : i < l.length) (h : (l.take i).Nodup) (hn : Ad l i ∉ l.take i) : (l.take (i + 1)).Nodup := by
 rw [Ad, List.getElem?_eq_getElem hi, Option.getD_some] at hn
 rw [List.take_succ_eq_append_getElem hi, List.nodup_append]
 refine ⟨h, by simp, fun x hx y hy e => ?_⟩
 rw [List.mem_singleton] at hy
 subst e hy
 exact hn hx
theorem B4 {l : List Int} {i : Nat} (hi : i < l.length) : l.take (i + 1) = l.take i ++ [Ad l i] := by
 rw [List.take_succ_eq_append_getElem hi, Ad, List.getElem?_eq_getElem hi]; rfl
theorem To {l : List Int} {i : Nat} (hi : i < l.length) : Ad l i ∈ l := by
 rw [Ad, List.getElem?_eq_getElem hi]; exact List.getElem_mem hi
set_option maxHeartbeats 4000000 in
theorem Ru {C : Cx Tryz.prog} {k : List RItem} {p : List Ev} {e : Exec} {N : Aa} {pa : Option Addr} {pc xb b9 : Nat} {na : Option Addr} {nc : Nat} (hp : p.length ≤ 16)
  (qO : rd N xb 3 1 [.slice na e.fen.length nc]) (cz : e.fen.length ≤ 16)
  (qP : rdS N 1 na e.fen.length (e.fen.flatMap ei))
  (af : ∀ b, b < p.length → ∃ pb po, pa = some ⟨pb, po, none⟩ ∧ rd N pb (po + b * 6) 6 (Hf (evAt p b)))
  (aK : ¬ Shape p e → ∀ k ρ G, get ρ 4 = some (vb false) → EV C [0, 1, 3, 4, 5, 6, 7, 8, 9, 10, 11, 12, 13, 14, 15, 16] (.code .ret :: k) ρ N G)
  (key : e.fen.Nodup → (∀ x ∈ e.fen, x ∈ Bk p) → EV C [0, 1, 3, 4, 5, 6, 7, 8, 9, 10, 11, 12, 13, 14, 15, 16] k [(0, .slice pa p.length pc), (3, pv xb 0), (4, vb false), (9, pv b9 0)] N [(b9, Cl 141 ((marks e.fen).map vb))]) :
  EV C [0, 1, 3, 4, 5, 6, 7, 8, 9, 10, 11, 12, 13, 14, 15, 16] (.code (.loop Yv) :: .inBlock 2 :: k) [(10, vi 0), (0, .slice pa p.length pc), (3, pv xb 0), (4, vb false), (9, pv b9 0)] N [(b9, Cl 141 (List.replicate 16 (vb false)))] := by
 refine EV.loopTo (fun i : Nat => ([(0, .slice pa p.length pc), (3, pv xb 0), (4, vb false), (9, pv b9 0), (10, vi i)], N, [(b9, Cl 141 ((marks (e.fen.take i)).map vb))])) (fun i => i ≤ e.fen.length ∧ (e.fen.take i).Nodup ∧ ∀ x ∈ e.fen.take i, x ∈ Bk p) (fun i => e.fen.length - i) 0 rfl ⟨Nat.zero_le _, by simp, by simp⟩ ?env1 ?sub1 ?_
 case env1 =>
  exact eE
 case sub1 =>
  simp only [List.take_zero, Z5, List.map_replicate]
  exact List.Sublist.refl _
 rintro i ⟨hi, bm, hall⟩ ih
 dsimp only at hi bm hall ih ⊢
 refine EV.seq ?_
 refine EV.seq ?_
 repeat' first
   | refine EV.skip ?_
   | refine rg ?_
   | (refine cX (fun h => ?_) (fun h => ?_) <;> try exact Ah h)
   | (refine EV.exit rfl ?_)
   | (refine xn ?_; try refine nx ?_)
   | exact ⟨⟩
   | fail
 ·have aA : i < e.fen.length := by omega
  have ih2 := fun h1 h2 => ih (i + 1) ⟨by omega, h1, h2⟩ (by omega)
  obtain ⟨nb, no, rfl, hat⟩ := Sl.at (sz := 1) (enc := ei) (fun _ => rfl) (by decide) qP (by omega)
  have cm := B6 hat i aA
  have bg : ¬ (0 ≤ Ad e.fen i ∧ Ad e.fen i < p.length ∧ Ad e.fen i ∉ e.fen.take i ∧ N8 (evAt p (Ad e.fen i).toNat).op = true) → ∀ k ρ G, get ρ 4 = some (vb false) → EV C [0, 1, 3, 4, 5, 6, 7, 8, 9, 10, 11, 12, 13, 14, 15, 16] (.code .ret :: k) ρ N G := fun h => aK fun hs => h (by
   obtain ⟨w, e1, e2, e3⟩ := I7.1 (hs.fen.mem_iff.1 (To aA))
   refine ⟨by omega, by omega, Xx (hs.fen.nodup_iff.2 (Ha p)) aA, ?_⟩
   rw [e1, Int.toNat_natCast]; exact e3)
  have dR : 0 ≤ Ad e.fen i → Ad e.fen i < p.length → Ad e.fen i ∉ e.fen.take i → N8 (evAt p (Ad e.fen i).toNat).op = true → (e.fen.take (i + 1)).Nodup ∧ ∀ x ∈ e.fen.take (i + 1), x ∈ Bk p := fun h1 h2 h3 h4 => by
   refine ⟨Of aA bm h3, fun x hx => ?_⟩
   rw [B4 aA] at hx
   rcases List.mem_append.1 hx with hx | hx
   ·exact hall x hx
   ·rw [List.mem_singleton] at hx
    rw [hx]
    exact I7.2 ⟨(Ad e.fen i).toNat, by omega, by omega, h4⟩
  rw [B4 aA] at ih2 dR
  generalize kf : Ad e.fen i = f at *
  generalize e.fen.take i = L at *
  have f5 := Tm L
  refine EV.seq ?_
  refine EV.block ?_
  refine EV.seq ?_
  repeat' first
    | refine rg ?_
    | (refine And.intro (by omega) ?_)
    | ((first | refine xm ?_ | refine xn ?_ | fail); try refine nx ?_)
    | exact ⟨⟩
    | fail
  refine EV.seq ?_
  refine EV.seq ?_
  by_cases h0 : f < 0
  ·have dd : decide (f < 0) = true := decide_eq_true h0
   repeat' first
     | refine EV.seq ?_
     | (refine EV.reg ?_; (conv => (arg 2; whnf)); (repeat first | refine nx ?_ | simp only [dd]))
     | (refine A0.intro (fun hc => ?_) (fun hc => ?_) <;> try simp only [ne_eq, Bool.not_true, Bool.not_false, not_true_eq_false, not_false_eq_true, reduceCtorEq] at hc <;> try (exfalso; first | exact hc | omega | (simp at hc; done)))
     | (refine cX (fun h => ?_) (fun h => ?_) <;> try exact Ah h)
     | fail
   exact bg (fun h => by omega) _ _ _ rfl
  ·by_cases h1 : f < p.length
   ·obtain ⟨u, rfl⟩ : ∃ u : Nat, f = u := ⟨f.toNat, by omega⟩
    have bh : decide ((u : Int) < 0) = false := decide_eq_false h0
    have il : decide ((p.length : Int) ≤ (u : Int)) = false := decide_eq_false (by omega)
    obtain ⟨pb, po, rfl, lC⟩ := af u (by omega)
    have tf : rd N pb (po + u * 6 + 1) 5 [vi (evAt p u).op.kind, vi (evAt p u).op.loc, vi (evAt p u).op.v, vi (evAt p u).op.w, vi (evAt p u).op.ord] := lC.pt 1 5 (by omega) rfl
    have kX := fun G => N9 (M := N.add G) (evAt p u).op
    rw [Int.toNat_natCast] at bg dR
    generalize (evAt p u).op = o at *
    have kY : u < (marks L).length := by rw [f5]; omega
    have mb := L5 kY
    have qQ := Tn (L := L) (show u < 16 by omega)
    repeat' first
      | refine EV.skip ?_
      | (refine EV.reg ?_; (conv => (arg 2; whnf)); (repeat first | refine nx ?_ | simp only [bh, il]))
      | with_reducible assumption
      | (refine A0.merge ?_ (fun hc K' hK => ?_) ?_; rotate_left)
      | ((first | refine Exists.intro _ (And.intro (Ca (f := vb) kY) ?_) | refine Aq.call (kX _) ?_ | fail); (repeat first | refine nx ?_ | simp only [bh, il]))
      | (refine cX (fun h => ?_) (fun h => ?_) <;> try exact Ah h)
      | (refine And.intro (by omega) ?_)
      | (refine xm ?_; (repeat first | refine nx ?_ | simp only [bh, il]))
      | (refine xw ?_; (repeat first | refine nx ?_ | simp only [bh, il]))
      | fail
    ·refine EV.seq ?_
     repeat' first
       | refine rg ?_
       | exact ⟨⟩
       | fail
     refine bg (fun hh => ?_) _ _ _ rfl
     obtain ⟨_, _, q1, q2⟩ := hh
     simp [mb, q1, q2] at h
    ·have hq : (u : Int) ∉ L ∧ N8 o = true := by simpa [mb] using h
     refine ⟨by rw [List.length_map, f5]; omega, ?_⟩
     rw [Ar vb _ kY, qQ]
     obtain ⟨n1, n2⟩ := dR (by omega) h1 hq.1 hq.2
     repeat' first
       | refine EV.inBlock ?_
       | refine rg ?_
       | exact ⟨⟩
       | fail
     refine EV.to (ih2 n1 n2) ?_ (List.Sublist.refl _)
     exact eE
   ·have bh : decide (f < 0) = false := decide_eq_false h0
    have qR : decide ((p.length : Int) ≤ f) = true := decide_eq_true (by omega)
    repeat' first
      | refine EV.seq ?_
      | (refine EV.reg ?_; (conv => (arg 2; whnf)); (repeat first | refine nx ?_ | simp only [bh, qR]))
      | (refine A0.intro (fun hc => ?_) (fun hc => ?_) <;> try simp only [ne_eq, Bool.not_true, Bool.not_false, not_true_eq_false, not_false_eq_true, reduceCtorEq] at hc <;> try (exfalso; first | exact hc | omega | (simp at hc; done)))
      | (refine cX (fun h => ?_) (fun h => ?_) <;> try exact Ah h)
      | fail
    exact bg (fun h => by omega) _ _ _ rfl
 ·have bM : i = e.fen.length := by omega
  subst bM
  rw [List.take_length] at bm hall ⊢
  repeat' first
    | fail
  refine EV.to (key bm hall) ?_ (List.Sublist.refl _)
  exact eE
end Go.EV

namespace Go.EV
open Go.Proofs
theorem Z6 {o : List (List Int)} {k : Nat} (hk : k < o.length) : o.flatten = (o.take k).flatten ++ (o[k]?.getD [] ++ (o.drop (k + 1)).flatten) := by
 conv => lhs; rw [← List.take_append_drop k o, List.flatten_append, List.drop_eq_getElem_cons hk, List.flatten_cons]
 rw [List.getElem?_eq_getElem hk, Option.getD_some]
theorem Xy {F : List Int} {o : List (List Int)} {k i : Nat} (hk : k < o.length) : ((F ++ (o.take k).flatten) ++ (o[k]?.getD []).take i).Sublist (F ++ o.flatten) := by
 rw [Z6 hk, List.append_assoc]
 exact (List.Sublist.refl _).append ((List.Sublist.refl _).append ((List.take_sublist _ _).trans (List.sublist_append_left _ _)))
theorem Ae7 {F : List Int} {o : List (List Int)} {k : Nat} (hk : k < o.length) : (F ++ (o.take k).flatten) ++ o[k]?.getD [] = F ++ (o.take (k + 1)).flatten := by
 rw [List.take_succ_eq_append_getElem hk, List.flatten_append, List.append_assoc, List.getElem?_eq_getElem hk]; simp
set_option maxHeartbeats 4000000 in
theorem Rv {C : Cx Tryz.prog} {k : List RItem} {p : List Ev} {e : Exec} {N : Aa} {pa da : Option Addr} {pc dc xb b9 ob oo oc : Nat} (hp : p.length ≤ 16) (bI : e.dn.length = p.length) (bG : e.ord.length = 3) (aN : ∀ l ∈ e.ord, l.length * 8 ≤ 140737488355328) (eY : ∀ a, a < p.length → EvR p e a)
  (ti : e.fen.Nodup)
  (bP : rd N xb 1 1 [.slice da e.dn.length dc]) (cv : rd N xb 2 1 [.slice (some ⟨ob, oo, none⟩) e.ord.length oc])
  (cp : ∀ b, b < p.length → ∃ db dof, da = some ⟨db, dof, none⟩ ∧ rd N db (dof + b) 1 [vb (B0 e.dn b)])
  (af : ∀ b, b < p.length → ∃ pb po, pa = some ⟨pb, po, none⟩ ∧ rd N pb (po + b * 6) 6 (Hf (evAt p b)))
  (bf : ∀ k, k < 3 → ∃ a' c', rd N ob (oo + k) 1 [.slice a' (e.ord[k]?.getD []).length c'] ∧ rdS N 1 a' (e.ord[k]?.getD []).length ((e.ord[k]?.getD []).flatMap ei))
  (aK : ¬ Shape p e → ∀ k ρ G, get ρ 4 = some (vb false) → EV C [0, 1, 3, 4, 5, 6, 7, 8, 9, 10, 11, 12, 13, 14, 15, 16] (.code .ret :: k) ρ N G)
  (key : (e.fen ++ e.ord.flatten).Nodup → (∀ k : Nat, k < 3 → (e.ord[k]?.getD []).length = (Xu p e.dn k p.length).length) → (∀ k : Nat, k < 3 → ∀ x ∈ e.ord[k]?.getD [], x ∈ Av p e.dn k) → EV C [0, 1, 3, 4, 5, 6, 7, 8, 9, 10, 11, 12, 13, 14, 15, 16] k [(0, .slice pa p.length pc), (3, pv xb 0)] N []) :
  EV C [0, 1, 3, 4, 5, 6, 7, 8, 9, 10, 11, 12, 13, 14, 15, 16] (.code (.loop Un) :: .inBlock 4 :: k) [(12, vi 0), (0, .slice pa p.length pc), (3, pv xb 0), (4, vb false), (9, pv b9 0)] N [(b9, Cl 141 ((marks e.fen).map vb))] := by
 refine EV.loopTo (fun c : Nat => ([(0, .slice pa p.length pc), (3, pv xb 0), (4, vb false), (9, pv b9 0), (12, vi c)], N, [(b9, Cl 141 ((marks (e.fen ++ (e.ord.take c).flatten)).map vb))])) (fun c => c ≤ 3 ∧ (e.fen ++ (e.ord.take c).flatten).Nodup ∧ ∀ x : Nat, x < c → (e.ord[x]?.getD []).length = (Xu p e.dn x p.length).length ∧ ∀ y ∈ e.ord[x]?.getD [], y ∈ Av p e.dn x) (fun c => 3 - c) 0 rfl ⟨Nat.zero_le _, by simpa using ti, fun x hx => absurd hx (Nat.not_lt_zero _)⟩ ?env1 ?sub1 ?_
 case env1 =>
  exact eE
 case sub1 =>
  simp only [List.take_zero, List.flatten_nil, List.append_nil]
  exact List.Sublist.refl _
 rintro c ⟨hc, bm, hall⟩ ih
 dsimp only at hc bm hall ih ⊢
 refine EV.seq ?_
 refine EV.seq ?_
 repeat' first
   | refine EV.skip ?_
   | refine rg ?_
   | (refine cX (fun h => ?_) (fun h => ?_) <;> try exact Ah h)
   | (refine EV.exit rfl ?_)
   | exact ⟨⟩
   | fail
 ·have bq : c < 3 := by omega
  have ih2 := fun h1 h2 => ih (c + 1) ⟨by omega, h1, h2⟩ (by omega)
  obtain ⟨la, lc, gb, dm⟩ := bf c bq
  refine EV.seq ?_
  refine EV.block ?_
  refine EV.seq ?_
  repeat' first
    | refine rg ?_
    | exact ⟨⟩
    | fail
  refine EV.seq ?_
  refine EV.seq ?_
  repeat' first
    | refine EV.block ?_
    | refine rg ?_
    | exact ⟨⟩
    | fail
  refine EV.loopTo (fun a : Nat => ([(0, .slice pa p.length pc), (3, pv xb 0), (4, vb false), (9, pv b9 0), (12, vi c), (13, vi (Xu p e.dn c a).length), (14, vi a)], N, [(b9, Cl 141 ((marks (e.fen ++ (e.ord.take c).flatten)).map vb))])) (fun a => a ≤ p.length) (fun a => p.length - a) 0 rfl (Nat.zero_le _) ?env2 (List.Sublist.refl _) ?_
  case env2 =>
   exact eE
  intro a ha ih3
  dsimp only at ha ih3 ⊢
  refine EV.seq ?_
  refine EV.seq ?_
  repeat' first
    | refine EV.skip ?_
    | refine rg ?_
    | (refine cX (fun h => ?_) (fun h => ?_) <;> try exact Ah h)
    | (refine EV.exit rfl ?_)
    | exact ⟨⟩
    | fail
  ·have aT : a < p.length := by omega
   have ih4 := ih3 (a + 1) (by omega) (by omega)
   have be : (Xu p e.dn c a).length ≤ a := Bz _ _
   rw [show Xu p e.dn c (a + 1) = Xu p e.dn c a ++ (if B0 e.dn a && decide ((evAt p a).op.loc = (c : Int)) then [(a : Int)] else []) from H9 _ _] at ih4
   obtain ⟨pb, po, rfl, d9⟩ := af a aT
   obtain ⟨db, dof, rfl, rP⟩ := cp a aT
   have cE : rd N pb (po + a * 6 + 1 + 1) 1 [vi (evAt p a).op.loc] := d9.pt 2 1 (by omega) rfl
   generalize Xu p e.dn c a = L at *
   refine EV.seq ?_
   refine EV.block ?_
   repeat' first
     | refine EV.seq ?_
     | refine EV.skip ?_
     | refine EV.inBlock ?_
     | refine rg ?_
     | with_reducible assumption
     | (refine A0.merge ?_ (fun hc K' hK => ?_) ?_; rotate_left)
     | (refine cX (fun h => ?_) (fun h => ?_) <;> try exact Ah h)
     | (refine And.intro (by omega) ?_)
     | ((first | refine xm ?_ | refine xn ?_ | fail); try refine nx ?_)
     | exact ⟨⟩
     | fail
   ·rw [if_pos (by simpa using h)] at ih4
    simp only [List.length_append, List.length_cons, List.length_nil] at ih4
    refine EV.to ih4 ?_ (List.Sublist.refl _)
    exact eE
   ·rw [if_neg (by rw [Bool.not_eq_true, Bool.and_eq_false_iff]; simpa using h), List.append_nil] at ih4
    refine EV.to ih4 ?_ (List.Sublist.refl _)
    exact eE
  ·have dG : a = p.length := by omega
   subst dG
   repeat' first
     | fail
   have cF := Z3 eY (c : Int)
   have aY : c < e.ord.length := by omega
   have tj : (e.ord[c]?.getD []).length * 8 ≤ 140737488355328 := by
    rw [List.getElem?_eq_getElem aY, Option.getD_some]; exact aN _ (List.getElem_mem aY)
   have rh : (Xu p e.dn c p.length).length ≤ p.length := Bz _ _
   have im : (e.ord[c]?.getD []).length ≠ (Xu p e.dn c p.length).length → ∀ k ρ G, get ρ 4 = some (vb false) → EV C [0, 1, 3, 4, 5, 6, 7, 8, 9, 10, 11, 12, 13, 14, 15, 16] (.code .ret :: k) ρ N G := fun h => aK fun hs => h (by rw [(hs.ord c bq).length_eq, cF])
   have bg : ∀ i, i < (e.ord[c]?.getD []).length → ¬ (Ad (e.ord[c]?.getD []) i ∈ Av p e.dn c ∧ Ad (e.ord[c]?.getD []) i ∉ (e.fen ++ (e.ord.take c).flatten) ++ (e.ord[c]?.getD []).take i) → ∀ k ρ G, get ρ 4 = some (vb false) → EV C [0, 1, 3, 4, 5, 6, 7, 8, 9, 10, 11, 12, 13, 14, 15, 16] (.code .ret :: k) ρ N G := fun i hi h => aK fun hs => h (by
    refine ⟨(hs.ord c bq).mem_iff.1 (To hi), ?_⟩
    have h1 := hs.nodup.sublist (Xy (F := e.fen) (i := i + 1) aY)
    rw [B4 hi, ← List.append_assoc, List.nodup_append] at h1
    exact fun hm => h1.2.2 _ hm _ (List.mem_singleton.2 rfl) rfl)
   have jM := Ae7 (F := e.fen) aY
   have kZ : (e.ord[c]?.getD []).length = (Xu p e.dn c p.length).length → ((e.fen ++ (e.ord.take c).flatten) ++ e.ord[c]?.getD []).Nodup → (∀ y ∈ e.ord[c]?.getD [], y ∈ Av p e.dn c) → EV C [0, 1, 3, 4, 5, 6, 7, 8, 9, 10, 11, 12, 13, 14, 15, 16] (.inLoop Un :: .inBlock 4 :: k) [(0, .slice pa p.length pc), (3, pv xb 0), (4, vb false), (9, pv b9 0), (12, vi (c + 1 : Nat))] N [(b9, Cl 141 ((marks ((e.fen ++ (e.ord.take c).flatten) ++ e.ord[c]?.getD [])).map vb))] := fun h1 h2 h3 => by
    rw [jM] at h2 ⊢
    refine ih2 h2 (fun x hx => ?_)
    by_cases e1 : x = c
    ·subst e1; exact ⟨h1, h3⟩
    ·exact hall x (by omega)
   generalize hO : e.ord[c]?.getD [] = O at *
   generalize hF : e.fen ++ (e.ord.take c).flatten = F at *
   generalize hL : Xu p e.dn c p.length = L at *
   clear ih ih2 jM key aN ih3
   refine EV.seq ?_
   refine EV.seq ?_
   repeat' first
     | refine EV.skip ?_
     | refine rg ?_
     | (refine cX (fun h => ?_) (fun h => ?_) <;> try exact Ah h)
     | (refine And.intro (by omega) ?_)
     | (refine xn ?_; try refine nx ?_)
     | exact ⟨⟩
     | fail
   ·refine EV.seq ?_
    repeat' first
      | refine rg ?_
      | exact ⟨⟩
      | fail
    refine im (fun h2 => ?_) _ _ _ rfl
    rw [h2] at h; simp at h
   ·have hlo : O.length = L.length := by
     have : ¬ ((O.length : Int) ≠ (L.length : Int)) := by simpa using h
     omega
    refine EV.seq ?_
    repeat' first
      | refine EV.block ?_
      | refine rg ?_
      | exact ⟨⟩
      | fail
    rw [← hlo]
    refine EV.loopTo (fun i : Nat => ([(0, .slice pa p.length pc), (3, pv xb 0), (4, vb false), (9, pv b9 0), (12, vi c), (13, vi O.length), (15, vi i)], N, [(b9, Cl 141 ((marks (F ++ O.take i)).map vb))])) (fun i => i ≤ O.length ∧ (F ++ O.take i).Nodup ∧ ∀ y ∈ O.take i, y ∈ Av p e.dn c) (fun i => O.length - i) 0 rfl ⟨Nat.zero_le _, by simpa using bm, by simp⟩ ?env3 ?sub3 ?_
    case env3 =>
     exact eE
    case sub3 =>
     simp only [List.take_zero, List.append_nil]
     exact List.Sublist.refl _
    rintro i ⟨hi, io, fY⟩ ih4
    dsimp only at hi io fY ih4 ⊢
    refine EV.seq ?_
    refine EV.seq ?_
    repeat' first
      | refine EV.skip ?_
      | refine EV.inBlock ?_
      | refine rg ?_
      | (refine cX (fun h => ?_) (fun h => ?_) <;> try exact Ah h)
      | (refine EV.exit rfl ?_)
      | exact ⟨⟩
      | fail
    ·have aA : i < O.length := by omega
     have ih5 := fun h1 h2 => ih4 (i + 1) ⟨by omega, h1, h2⟩ (by omega)
     have bg := bg i aA
     obtain ⟨wb, wo, rfl, ay⟩ := Sl.at (sz := 1) (enc := ei) (fun _ => rfl) (by decide) dm (by omega)
     have cm := B6 ay i aA
     have dR : Ad O i ∈ Av p e.dn c → Ad O i ∉ F ++ O.take i → (F ++ O.take (i + 1)).Nodup ∧ ∀ y ∈ O.take (i + 1), y ∈ Av p e.dn c := fun h1 h2 => by
      rw [B4 aA]
      refine ⟨?_, fun y hy => ?_⟩
      ·rw [← List.append_assoc, List.nodup_append]
       refine ⟨io, by simp, fun x hx y hy e1 => ?_⟩
       rw [List.mem_singleton] at hy
       subst e1 hy
       exact h2 hx
      ·rcases List.mem_append.1 hy with hy | hy
       ·exact fY y hy
       ·rw [List.mem_singleton] at hy; rw [hy]; exact h1
     rw [B4 aA, ← List.append_assoc] at ih5
     rw [B4 aA, ← List.append_assoc] at dR
     generalize kf : Ad O i = f at *
     generalize F ++ O.take i = K at *
     have f5 := Tm K
     have qS := @A9 p e.dn c f
     refine EV.seq ?_
     refine EV.block ?_
     refine EV.seq ?_
     repeat' first
       | refine rg ?_
       | (refine And.intro (by omega) ?_)
       | ((first | refine xm ?_ | refine xn ?_ | fail); try refine nx ?_)
       | exact ⟨⟩
       | fail
     refine EV.seq ?_
     refine EV.seq ?_
     by_cases h0 : f < 0
     ·have dd : decide (f < 0) = true := decide_eq_true h0
      repeat' first
        | refine EV.seq ?_
        | (refine EV.reg ?_; (conv => (arg 2; whnf)); (repeat first | refine nx ?_ | simp only [dd]))
        | (refine A0.intro (fun hc => ?_) (fun hc => ?_) <;> try simp only [ne_eq, Bool.not_true, Bool.not_false, not_true_eq_false, not_false_eq_true, reduceCtorEq] at hc <;> try (exfalso; first | exact hc | omega | (simp at hc; done)))
        | (refine cX (fun h => ?_) (fun h => ?_) <;> try exact Ah h)
        | fail
      exact bg (fun h => by obtain ⟨w, hw, _⟩ := qS.1 h.1; omega) _ _ _ rfl
     ·by_cases h1 : f < p.length
      ·obtain ⟨u, rfl⟩ : ∃ u : Nat, f = u := ⟨f.toNat, by omega⟩
       have bh : decide ((u : Int) < 0) = false := decide_eq_false h0
       have il : decide ((p.length : Int) ≤ (u : Int)) = false := decide_eq_false (by omega)
       obtain ⟨pb, po, rfl, lC⟩ := af u (by omega)
       obtain ⟨db, dof, rfl, te⟩ := cp u (by omega)
       have be : rd N pb (po + u * 6 + 1 + 1) 1 [vi (evAt p u).op.loc] := lC.pt 2 1 (by omega) rfl
       have kY : u < (marks K).length := by rw [f5]; omega
       have mb := L5 kY
       have qQ := Tn (L := K) (show u < 16 by omega)
       have mc : (u : Int) ∈ Av p e.dn c ↔ B0 e.dn u = true ∧ (evAt p u).op.loc = (c : Int) := by
        rw [qS]
        constructor
        ·rintro ⟨w, hw, _, _, q1, q2⟩
         have : u = w := by omega
         subst this; exact ⟨q1, q2⟩
        ·rintro ⟨q1, q2⟩
         refine ⟨u, rfl, by omega, ?_, q1, q2⟩
         intro h5
         have := (eY u (by omega)).do0 (by simp [Cw, h5])
         rw [this] at q1; cases q1
       repeat' first
         | refine EV.skip ?_
         | (refine EV.reg ?_; (conv => (arg 2; whnf)); (repeat first | refine nx ?_ | simp only [bh, il]))
         | with_reducible assumption
         | (refine A0.merge ?_ (fun hc K' hK => ?_) ?_; rotate_left)
         | (refine Exists.intro _ (And.intro (Ca (f := vb) kY) ?_); (repeat first | refine nx ?_ | simp only [bh, il]))
         | (refine cX (fun h => ?_) (fun h => ?_) <;> try exact Ah h)
         | (refine And.intro (by omega) ?_)
         | ((first | refine xm ?_ | refine xn ?_ | fail); (repeat first | refine nx ?_ | simp only [bh, il]))
         | (refine xw ?_; (repeat first | refine nx ?_ | simp only [bh, il]))
         | fail
       ·refine EV.seq ?_
        repeat' first
          | refine rg ?_
          | exact ⟨⟩
          | fail
        refine bg (fun hh => ?_) _ _ _ rfl
        obtain ⟨q1, q2⟩ := hh
        obtain ⟨q3, q4⟩ := mc.1 q1
        simp [mb, q2, q3, q4] at h
       ·have hq : ((u : Int) ∉ K ∧ B0 e.dn u = true) ∧ (evAt p u).op.loc = (c : Int) := by simpa [mb] using h
        refine ⟨by rw [List.length_map, f5]; omega, ?_⟩
        rw [Ar vb _ kY, qQ]
        obtain ⟨n1, n2⟩ := dR (mc.2 ⟨hq.1.2, hq.2⟩) hq.1.1
        repeat' first
          | refine EV.inBlock ?_
          | refine rg ?_
          | exact ⟨⟩
          | fail
        refine EV.to (ih5 n1 n2) ?_ (List.Sublist.refl _)
        exact eE
      ·have bh : decide (f < 0) = false := decide_eq_false h0
       have qR : decide ((p.length : Int) ≤ f) = true := decide_eq_true (by omega)
       repeat' first
         | refine EV.seq ?_
         | (refine EV.reg ?_; (conv => (arg 2; whnf)); (repeat first | refine nx ?_ | simp only [bh, qR]))
         | (refine A0.intro (fun hc => ?_) (fun hc => ?_) <;> try simp only [ne_eq, Bool.not_true, Bool.not_false, not_true_eq_false, not_false_eq_true, reduceCtorEq] at hc <;> try (exfalso; first | exact hc | omega | (simp at hc; done)))
         | (refine cX (fun h => ?_) (fun h => ?_) <;> try exact Ah h)
         | fail
       exact bg (fun h => by obtain ⟨w, hw, dM, _⟩ := qS.1 h.1; omega) _ _ _ rfl
    ·have bM : i = O.length := by omega
     subst bM
     rw [List.take_length] at io fY ⊢
     repeat' first
       | fail
     refine EV.to (kZ hlo io fY) ?_ (List.Sublist.refl _)
     exact eE
 ·have jR : c = 3 := by omega
  subst jR
  rw [List.take_of_length_le (by omega)] at bm
  repeat' first
    | fail
  refine EV.to (key bm (fun k hk => (hall k hk).1) (fun k hk => (hall k hk).2)) ?_ (List.nil_sublist _)
  exact eE
end Go.EV

namespace Go.EV
open Go.Proofs
section
variable {P : Program}
def O4 {α : Type} (P : Program) (g : FuncId) (first caps : Array Value) (M : Aa) (L : List α) (El : α → Value → Aa → Prop) : Prop :=
 ∀ (l : Nat) (I : Nat → Aa → Own → Prop) (S : Aa → Own → Prop) (M1 : Aa) (G : Own), M.le M1 →
  (∀ i (h : i < L.length), ∀ M2 G2 v, M1.le M2 → I i M2 G2 → El L[i] v M2 → Ky P l #[v] M2 G2 fun b M3 G3 => (b = .bool true ∧ I (i + 1) M3 G3) ∨ (b = .bool false ∧ S M3 G3)) →
  I 0 M1 G → Con P g (first ++ #[yv l] ++ caps) M1 G fun _ M' G' => I L.length M' G' ∨ S M' G'
theorem O4.mono {α : Type} {g : FuncId} {first caps : Array Value} {M M' : Aa} {L : List α} {El : α → Value → Aa → Prop} (h : O4 P g first caps M L El) (hM : M.le M') : O4 P g first caps M' L El :=
 fun l I S M1 G aj => h l I S M1 G (Aa.le_trans hM aj)
variable {α : Type} {C : Cx P} {V : List Nat} {k : List RItem} {ρ : Env} {M : Aa} {G : Own} {f : A} {ps : List Nat} {asg bd : RCode} {fv : Value} {g : FuncId} {first caps : Array Value}
theorem Tq {L : List α} {El : α → Value → Aa → Prop} (bi : O4 P g first caps M L El) (I : Nat → Aa → Own → Prop) (S : Code → Aa → Own → Prop)
  {l : Nat} {r : Loop} {fn : FuncId} {nt t : Nat} (hr : LoopIs P V r fn nt [t] asg bd ρ)
  (bT : ∀ i (h : i < L.length) v M2 G2 w0 F, M.le M2 → I i M2 G2 → El L[i] v M2 → EV (Cx.rnd P l r fn nt w0 F M2 (I (i + 1)) S) V [.code asg, .begins, .code bd] ((t, v) :: ρ) M2 ((l, Obj.loop r) :: G2))
  {G0 : Own} (hI : I 0 M G0) :
  Con P g (first ++ #[yv l] ++ caps) M ((l, Obj.loop r) :: G0) fun _ M' G' => (∃ G1, G'.Perm ((l, Obj.loop r) :: G1) ∧ I L.length M' G1) ∨ (∃ c G1, G'.Perm ((l, Obj.loop { r with state := .done, pending := some c }) :: G1) ∧ S c M' G1) := by
 have := bi l (fun xs M2 G2 => ∃ G1, G2.Perm ((l, Obj.loop r) :: G1) ∧ I xs M2 G1) (fun M2 G2 => ∃ c G1, G2.Perm ((l, Obj.loop { r with state := .done, pending := some c }) :: G1) ∧ S c M2 G1) M ((l, Obj.loop r) :: G0) (Aa.le_refl _)
  ?_ ⟨G0, List.Perm.refl _, hI⟩
 ·exact this
 ·rintro i hi M2 G2 v bE ⟨G1, hp, h2⟩ hv
  have hy : Ky P l [v].toArray M2 ((l, Obj.loop r) :: G1) (Vy l r (I (i + 1)) S) :=
   Ky.enter (List.mem_cons_self ..) hr rfl fun w0 => bT i hi v M2 G1 w0 _ bE h2 hv
  intro w hs
  obtain ⟨r', e1, e2, e3⟩ := hy w (by
   have aV := hs.perm hp
   have : St w ((((l, Obj.loop r) :: G1)).map (·.1)) M2 M2 ((l, Obj.loop r) :: G1) w := St.enter aV.agree aV.own aV.sep aV.nodup
   exact this)
  refine ⟨r', e1, e2, e3.mono ?_⟩
  rintro b w' ⟨M', G', k1, k2⟩
  refine ⟨M', G', ?_, ?_⟩
  ·have aJ : ∀ b, b ∈ (((l, Obj.loop r) :: G1).map (·.1)) ↔ b ∈ G2.map (·.1) := fun b => ((hp.map (·.1)).mem_iff).symm
   exact ⟨k1.os, k1.tape, k1.output, k1.size, fun b hb hf => k1.frame b hb (fun h => hf ((aJ b).1 h)), k1.agree, k1.own, k1.sep, fun p lW => (k1.new p lW).imp (aJ _).1 id, k1.nodup, k1.base,
    fun b o hm => (k1.fresh b o hm).imp id fun h => h.imp (aJ _).1 id⟩
  ·rcases k2 with ⟨rfl, G3, h3, h4⟩ | ⟨rfl, c, G3, h3, h4⟩
   ·exact .inl ⟨rfl, G3, h3, h4⟩
   ·exact .inr ⟨rfl, c, G3, h3, h4⟩
theorem EV.overX {L : List α} {El : α → Value → Aa → Prop} (bJ : C.b.roundOf = none) (fN : ev ρ f = some fv) (cC : fn? fv = some (g, first, caps)) (bi : O4 P g first caps M L El)
  (I : Nat → Nat → Aa → Own → Prop) (S : Nat → Code → Aa → Own → Prop) {t : Nat}
  (hI : ∀ d, I d 0 M ((d, Obj.deferred (some [])) :: G))
  (bT : ∀ l d (r : Loop), r.state = .ready → r.pending = none → ∀ i (h : i < L.length) v M2 G2 w0 F, M.le M2 → I d i M2 G2 → El L[i] v M2 →
   EV (Cx.rnd P l r C.b.fn C.nt w0 F M2 (I d (i + 1)) (S d)) V [.code asg, .begins, .code bd] ((t, v) :: ρ) M2 ((l, Obj.loop r) :: G2))
  (cd : ∀ d M' G', M.le M' → I d L.length M' G' → EV (C.marks [d]) V k ρ M' G')
  (ce : ∀ d c M' G', M.le M' → S d c M' G' → Vz (C.marks [d]) V k ρ c M' G') :
  EV C V (.code (.rangeF f [t] asg bd) :: k) ρ M G := by
 refine EV.rangeF bJ fN cC fun l d r hr h1 h2 => ?_
 refine Con.callA (G2 := []) (Tq bi (I d) (S d) hr (fun i hi v M2 G2 w0 F => bT l d r h1 h2 i hi v M2 G2 w0 F) (hI d)) (by simp) ?_
 rintro v M' G' bR (⟨G1, hp, h3⟩ | ⟨c, G1, hp, h3⟩)
 ·refine ⟨r, G1, by simpa using hp, by rw [h1]; simp, ?_⟩
  rw [h2]; exact cd d M' G1 bR h3
 ·refine ⟨_, G1, by simpa using hp, by simp, ?_⟩
  have := ce d c M' G1 bR h3
  cases c <;> first | exact this | exact this.elim
end
section
variable {M : Aa}
def ElN (x : Int) (v : Value) (_ : Aa) : Prop := v = vi x
set_option maxHeartbeats 4000000 in
theorem Tr (xs : List Int) (s : Value) (hs : Sl M 1 ei s xs) (hl : xs.length ≤ 281474976710656) {b : Nat} (hb : rd M b 0 1 [s]) : O4 Tryz.prog 168 #[] #[pv b 0] M xs ElN := by
 obtain ⟨a, c, rfl, hr⟩ := hs
 intro l I S M1 G ap hy hI
 have iT := hb.mono ap
 have aW := hr.mono ap
 refine Con.enter Q118_ok (args := [yv l, pv b 0]) (by simp [Ct0]) fun w0 => ?_
 simp only [Ct0, A5]
 repeat' first
   | refine EV.seq ?_
   | refine EV.block ?_
   | refine rg ?_
   | (refine xn ?_; try refine nx ?_)
   | exact ⟨⟩
   | fail
 refine EV.loopTo (fun x : Nat × Aa × Own => ([(0, yv l), (1, pv b 0), (5, .slice a xs.length c), (6, vi xs.length), (7, vi x.1)], x.2.1, x.2.2)) (fun x => x.1 ≤ xs.length ∧ M1.le x.2.1 ∧ I x.1 x.2.1 x.2.2) (fun x => xs.length - x.1) (0, M1, G) rfl ⟨Nat.zero_le _, Aa.le_refl _, hI⟩ ?env1 (List.Sublist.refl _) ?_
 case env1 =>
  exact eE
 rintro ⟨i, Mi, Gi⟩ ⟨hi, bN, gL⟩ ih
 dsimp only at hi bN gL ih ⊢
 repeat' first
   | refine EV.seq ?_
   | refine EV.skip ?_
   | refine EV.block ?_
   | refine rg ?_
   | (refine cX (fun h => ?_) (fun h => ?_) <;> try exact Ah h)
   | (refine EV.exit rfl ?_)
   | exact ⟨⟩
   | fail
 ·have aA : i < xs.length := by omega
  obtain ⟨rb, ro, rfl, hat⟩ := Sl.at (sz := 1) (enc := ei) (fun _ => rfl) (by decide) aW (by omega)
  have eX := (hat i aA).mono bN
  rw [Nat.mul_one] at eX
  repeat' first
    | refine EV.seq ?_
    | refine rg ?_
    | (refine And.intro (by omega) ?_)
    | (refine xm ?_; try refine nx ?_)
    | exact ⟨⟩
    | fail
  refine Ky.run (hy i aA Mi Gi _ bN gL rfl) ?_
  rintro bv M2 G2 bE (⟨rfl, tk⟩ | ⟨rfl, tm⟩)
  ·repeat' first
    | refine EV.skip ?_
    | refine EV.inBlock ?_
    | refine rg ?_
    | (refine cX (fun h => ?_) (fun h => ?_) <;> try exact Ah h)
    | exact ⟨⟩
    | fail
   have ih3 := ih (i + 1, M2, G2) ⟨by dsimp only; omega, Aa.le_trans bN bE, tk⟩ (by dsimp only; omega)
   dsimp only at ih3
   refine EV.to ih3 ?_ (List.Sublist.refl _)
   exact eE
  ·repeat' first
    | (refine cX (fun h => ?_) (fun h => ?_) <;> try exact Ah h)
    | fail
   (refine rt Q118_ok ?_; try with_reducible exact ⟨⟩)
   exact .inr tm
 ·have bM : i = xs.length := by omega
  subst bM
  refine EV.done Q118_ok ?_
  (repeat first | refine nx ?_ | simp only [Ct0])
  exact .inl gL
theorem Vf (xs : List Int) (s : Value) (hs : Sl M 1 ei s xs) (hl : xs.length ≤ 281474976710656) : Con Tryz.prog 157 #[s] M [] fun v M' G' => M.le M' ∧ G' = [] ∧ ∃ g caps, v = .func (.func g) #[] caps ∧ O4 Tryz.prog g #[] caps M' xs ElN := by
 have aI := hs
 obtain ⟨a, c, rfl, hr⟩ := hs
 refine Con.enter Q117_ok (args := [.slice a xs.length c]) (by simp [Ex2]) fun w0 => ?_
 simp only [Ex2, A5]
 repeat' first
   | refine EV.seq ?_
   | refine rg ?_
   | (with_reducible intro b; try refine nx ?_)
   | exact ⟨⟩
   | fail
 refine EV.keepS [] ?_
 generalize hR : M.add _ = N
 have aC : M.le N := hR ▸ Aa.le_add _ _
 have hb : rd N b 0 1 [.slice a xs.length c] := hR ▸ Bv (T := 34) (cs := [.slice a xs.length c]) (by simp) rfl (by simp)
 clear hR
 (refine rt Q117_ok ?_; try with_reducible exact ⟨⟩)
 exact ⟨aC, _, _, rfl, Tr xs _ (aI.mono aC) hl hb⟩
set_option maxHeartbeats 4000000 in
theorem O5 (xs : List Int) (hl : xs.length * 8 ≤ 140737488355328) {g : Nat} {caps : Array Value} (bi : O4 Tryz.prog g #[] caps M xs ElN) : Con Tryz.prog 172 #[.slice none 0 0, .func (.func g) #[] caps] M [] (Ah7 xs) := by
 refine Con.enter Q102_ok (args := [.slice none 0 0, .func (.func g) #[] caps]) (by simp [Ct1]) fun w0 => ?_
 simp only [Ct1, A5]
 repeat' first
   | refine EV.seq ?_
   | refine EV.block ?_
   | refine rg ?_
   | (with_reducible intro b; try refine nx ?_)
   | exact ⟨⟩
   | fail
 obtain ⟨sb, rfl⟩ : ∃ x, x = b := ⟨_, rfl⟩
 refine EV.overX rfl rfl rfl bi (fun d i M G' => ∃ ov : Vec, E6 1 ov i ((xs.take i).map vi) ∧ G'.Perm ((d, Obj.deferred (some [])) :: (sb, Cl 34 [osv ov i]) :: osg 3 ov ((xs.take i).map vi)))
  (fun d c M G' => False) ?_ ?_ ?_ ?_
 ·intro d
  exact ⟨none, ⟨rfl, rfl⟩, List.Perm.refl _⟩
 ·intro l d r aW aS i hi v M4 G4 w1 F dZ ⟨ov, aP, dQ⟩ fV
  cases fV
  refine EV.permG ?_ (List.Perm.cons _ dQ)
  repeat' first
    | refine rg ?_
    | exact ⟨⟩
    | fail
  refine EV.rbegin aW ?_
  repeat' first
    | refine EV.block ?_
    | refine rg ?_
    | ((first | with_reducible intro b | refine xsA rfl ?_ | fail); try refine nx ?_)
    | exact ⟨⟩
    | fail
  refine ⟨[vi xs[i]], Or.inr ⟨_, 0, rfl, Bv (T := 3) (cs := [vi xs[i]]) (by simp) rfl (by simp)⟩, by simp [B2, Ct, Value.oneCell'], Or.inl ⟨ov, _, rfl, _, aP, _, PullL.p, by simp only [maxLen]; omega, by omega, fun o2 bD tO => ?_⟩⟩
  have e2 : (xs.take i).map vi ++ [vi xs[i]] = (xs.take (i + 1)).map vi := by rw [List.take_succ_eq_append_getElem hi, List.map_append]; rfl
  rw [e2] at bD ⊢
  simp only [List.cons_append, List.nil_append]
  repeat' first
    | refine EV.inBlock ?_
    | (refine xw ?_; refine nx ?_)
    | exact ⟨⟩
    | fail
  refine EV.reS (G' := (l, Obj.loop { r with state := .busy }) :: (d, Obj.deferred (some [])) :: (sb, Cl 34 [osv o2 (i + 1)]) :: osg 3 o2 ((xs.take (i + 1)).map vi)) ?_
  exact EV.rend aW aS (List.Perm.refl _) ⟨o2, bD, List.Perm.refl _⟩
 ·rintro d M4 G4 dZ ⟨ov, aP, dQ⟩
  rw [List.take_length] at aP dQ
  refine EV.permG ?_ dQ
  repeat' first
    | refine EV.seq ?_
    | refine EV.inBlock ?_
    | refine rg ?_
    | (refine xsA rfl ?_; try refine nx ?_)
    | exact ⟨⟩
    | fail
  refine EV.reS (G' := (d, Obj.deferred (some [])) :: osg 3 ov (xs.map vi)) ?_
  refine EV.retM Q102_ok (ms := [d]) (G1 := osg 3 ov (xs.map vi)) (List.Perm.refl _) ?_
  (repeat first | refine nx ?_ | simp only [Ct1])
  exact ⟨ov, rfl, aP, rfl⟩
 ·intro d c M4 G4 dZ h
  exact h.elim
theorem Ts (xs : List Int) (hl : xs.length * 8 ≤ 140737488355328) {g : Nat} {caps : Array Value} (bi : O4 Tryz.prog g #[] caps M xs ElN) : Con Tryz.prog 166 #[.func (.func g) #[] caps] M [] (Ah7 xs) := by
 refine Con.enter Q106_ok (args := [.func (.func g) #[] caps]) (by simp [Ey1]) fun w0 => ?_
 simp only [Ey1, A5]
 repeat' first
   | refine EV.seq ?_
   | refine rg ?_
   | exact ⟨⟩
   | fail
 refine Con.callS (G1 := []) (O5 xs hl bi) ?_
 rintro v1 M1 G1 ap ⟨o1, rfl, bF, rfl⟩
 repeat' first
   | fail
 refine EV.reS (G' := osg 3 o1 (xs.map vi)) ?_
 (refine rt Q106_ok ?_; try with_reducible exact ⟨⟩)
 exact ⟨o1, rfl, bF, rfl⟩
end
end Go.EV

namespace Go.EV
open Go.Proofs
variable {P : Program}
set_option maxHeartbeats 1000000 in
theorem Con.sortI {ρ : Go.Shelf.Ren} (L : SlLaysN.n53 P ρ) {M : Aa} (hgo : X6 P (ρ.f 53) = true) {b : Nat} {T : TypeId} {xs : List Int} {sp : List Value} {c : Nat} (aG : xs.length < 4611686018427387904) :
  Con P (ρ.f 53) #[.slice (some ⟨b, 0, none⟩) xs.length c] M [(b, Cl T (xs.map (Value.int .i64) ++ sp))] fun v M' G' =>
   v = .tuple #[] ∧ M' = M ∧ G' = [(b, Cl T ((xs.mergeSort fun x y => decide (x ≤ y)).map (Value.int .i64) ++ sp))] := by
 refine ⟨hgo, fun w hs => ?_⟩
 have hb := hs.own (b, _) (List.mem_singleton_self ..)
 have fF := hs.lt (List.mem_singleton_self ..)
 dsimp only at hb fF
 have hH := Su (Value.int .i64) hb
 have fx : ∀ b' o, M b' o → b' ≠ b := fun b' o hm e => hs.sep _ (List.mem_singleton_self ..) o (e ▸ hm)
 refine (AnyG.slices_Sort_int L b 0 c xs w hH fF aG).mono ?_
 rintro e w' ⟨rfl, n, os, rfl⟩
 obtain ⟨d, hd⟩ : ∃ d, d = (xs.mergeSort fun x y => decide (x ≤ y)).toArray := ⟨_, rfl⟩
 rw [← hd]
 have cK : d.size = xs.length := by rw [hd]; simp
 have bI : d.toList = xs.mergeSort fun x y => decide (x ≤ y) := by rw [hd]
 rw [← bI]
 refine ⟨_, rfl, M, [(b, Cl T (d.toList.map (Value.int .i64) ++ sp))], ?_, rfl, rfl, rfl⟩
 have bw := Li (Value.int .i64) (Go.Sort.ahead w n) b d (T := T) (cs := xs.map (Value.int .i64) ++ sp) hb (by simp [cK])
 rw [cK, List.drop_left' (by simp)] at bw
 have gu : w.heap.size ≤ (Go.Sort.grow (Go.Sort.putRow (Value.int .i64) (Go.Sort.ahead w n) b 0 d) os).heap.size := by
  show _ ≤ ((Go.Sort.putRow (Value.int .i64) (Go.Sort.ahead w n) b 0 d).heap ++ os).size
  rw [Array.size_append, C3]; exact Nat.le_add_right _ _
 have ck : ∀ k, k < w.heap.size → k ≠ b → (Go.Sort.grow (Go.Sort.putRow (Value.int .i64) (Go.Sort.ahead w n) b 0 d) os).heap[k]? = w.heap[k]? := fun k hk hne => by
  show ((Go.Sort.putRow (Value.int .i64) (Go.Sort.ahead w n) b 0 d).heap ++ os)[k]? = _
  rw [Array.getElem?_append_left (by rw [C3]; exact hk), Hx _ _ _ _ _ hne]; rfl
 have hat : (Go.Sort.grow (Go.Sort.putRow (Value.int .i64) (Go.Sort.ahead w n) b 0 d) os).heap[b]? = some (Cl T (d.toList.map (Value.int .i64) ++ sp)) := by
  show ((Go.Sort.putRow (Value.int .i64) (Go.Sort.ahead w n) b 0 d).heap ++ os)[b]? = _
  rw [Array.getElem?_append_left (by rw [C3]; exact fF)]; exact bw
 refine ⟨rfl, ⟨rfl, Nat.le_add_right _ _⟩, rfl, gu, fun k hk hf => ck k hk (fun e => hf (by simp [e])), fun k o hk => (ck k (hs.ltM hk) (fx k o hk)).trans (hs.agree k o hk), ?_, ?_, ?_, by simp, Aa.le_refl _, fun k o hk => .inl hk⟩
 ·intro p hp; rw [List.mem_singleton] at hp; subst hp; exact hat
 ·intro p hp o hm; rw [List.mem_singleton] at hp; subst hp; exact fx _ _ hm rfl
 ·intro p hp; rw [List.mem_singleton] at hp; subst hp; exact .inl (by simp)
theorem Con.sortINone {ρ : Go.Shelf.Ren} (L : SlLaysN.n53 P ρ) (hgo : X6 P (ρ.f 53) = true) {M : Aa} (p : Option Addr) (cap : Nat) :
  Con P (ρ.f 53) #[.slice p 0 cap] M [] fun v M' G' => v = .tuple #[] ∧ M' = M ∧ G' = [] := by
 refine ⟨hgo, fun w hs => (AnyG.slices_Sort_int_none L p cap w).mono ?_⟩
 rintro e w' ⟨rfl, rfl⟩
 exact ⟨_, rfl, M, [], hs, rfl, rfl, rfl⟩
end Go.EV

namespace Go.Proofs
open Go.Shelf Go.RowKit Go.Lib Go.Sort
def Tryz.sortInts_ren : Go.Shelf.Ren := ⟨fun | 53 => 167 | 64 => 126 | 63 => 173 | 78 => 150 | 79 => 151 | 70 => 176 | 71 => 177 | 72 => 178 | 73 => 179 | 74 => 180 | 75 => 181 | 59 => 182 | 76 => 183 | 77 => 184 | 88 => 186 | 89 => 161 | 90 => 162 | 91 => 187 | 92 => 188 | 68 => 152 | 96 => 189 | n => n, fun | 22 => 34 | 23 => 3 | 3 => 3 | 51 => 67 | 0 => 0 | 67 => 144 | 69 => 175 | 4 => 4 | 61 => 167 | 60 => 166 | 44 => 171 | 5 => 5 | 9 => 9 | 75 => 181 | 79 => 185 | 83 => 188 | 84 => 189 | n => n, fun | n => n⟩
theorem Tryz.sortInts : Go.Proofs.SlLaysN.n53 Tryz.prog Tryz.sortInts_ren := {
 mixed := by kernel_rfl
 f53 := ⟨Tryz.f167.name, by decide, Tryz.func167.trans (congrArg some (by kernel_rfl))⟩
 f59 := ⟨Tryz.f182.name, by decide, Tryz.func182.trans (congrArg some (by kernel_rfl))⟩
 f63 := ⟨Tryz.f173.name, by decide, Tryz.func173.trans (congrArg some (by kernel_rfl))⟩
 f64 := Tryz.func126.trans (congrArg some (by kernel_rfl))
 f68 := ⟨Tryz.f152.name, by decide, Tryz.func152.trans (congrArg some (by kernel_rfl))⟩
 f70 := ⟨Tryz.f176.name, by decide, Tryz.func176.trans (congrArg some (by kernel_rfl))⟩
 f71 := ⟨Tryz.f177.name, by decide, Tryz.func177.trans (congrArg some (by kernel_rfl))⟩
 f72 := ⟨Tryz.f178.name, by decide, Tryz.func178.trans (congrArg some (by kernel_rfl))⟩
 f73 := ⟨Tryz.f179.name, by decide, Tryz.func179.trans (congrArg some (by kernel_rfl))⟩
 f74 := ⟨Tryz.f180.name, by decide, Tryz.func180.trans (congrArg some (by kernel_rfl))⟩
 f75 := ⟨Tryz.f181.name, by decide, Tryz.func181.trans (congrArg some (by kernel_rfl))⟩
 f76 := ⟨Tryz.f183.name, by decide, Tryz.func183.trans (congrArg some (by kernel_rfl))⟩
 f77 := ⟨Tryz.f184.name, by decide, Tryz.func184.trans (congrArg some (by kernel_rfl))⟩
 f78 := Tryz.func150.trans (congrArg some (by kernel_rfl))
 f79 := Tryz.func151.trans (congrArg some (by kernel_rfl))
 f88 := ⟨Tryz.f186.name, by decide, Tryz.func186.trans (congrArg some (by kernel_rfl))⟩
 f89 := Tryz.func161.trans (congrArg some (by kernel_rfl))
 f90 := Tryz.func162.trans (congrArg some (by kernel_rfl))
 f91 := ⟨Tryz.f187.name, by decide, Tryz.func187.trans (congrArg some (by kernel_rfl))⟩
 f92 := ⟨Tryz.f188.name, by decide, Tryz.func188.trans (congrArg some (by kernel_rfl))⟩
 f96 := ⟨Tryz.f189.name, by decide, Tryz.func189.trans (congrArg some (by kernel_rfl))⟩
 t0 := Tryz.underlying0
 a0 := Tryz.isAgg0
 z0 := Tryz.sizeOf0
 v0 := Tryz.zeroValue0
 t3 := Tryz.underlying3
 a3 := Tryz.isAgg3
 z3 := Tryz.sizeOf3
 v3 := Tryz.zeroValue3
 t4 := Tryz.underlying4
 a4 := Tryz.isAgg4
 z4 := Tryz.sizeOf4
 v4 := Tryz.zeroValue4
 t5 := Tryz.underlying5
 a5 := Tryz.isAgg5
 z5 := Tryz.sizeOf5
 v5 := Tryz.zeroValue5
 t9 := Tryz.underlying9
 a9 := Tryz.isAgg9
 z9 := Tryz.sizeOf9
 v9 := Tryz.zeroValue9
 t22 := Tryz.underlying34
 a22 := Tryz.isAgg34
 z22 := Tryz.sizeOf34
 v22 := Tryz.zeroValue34
 t23 := Tryz.underlying3
 a23 := Tryz.isAgg3
 z23 := Tryz.sizeOf3
 v23 := Tryz.zeroValue3
 t44 := Tryz.underlying171
 a44 := Tryz.isAgg171
 z44 := Tryz.sizeOf171
 v44 := Tryz.zeroValue171
 t51 := Tryz.underlying67
 a51 := Tryz.isAgg67
 z51 := Tryz.sizeOf67
 v51 := Tryz.zeroValue67
 t60 := Tryz.underlying166
 a60 := Tryz.isAgg166
 z60 := Tryz.sizeOf166
 v60 := Tryz.zeroValue166
 t61 := Tryz.underlying167
 a61 := Tryz.isAgg167
 z61 := Tryz.sizeOf167
 v61 := Tryz.zeroValue167
 t67 := Tryz.underlying144
 a67 := Tryz.isAgg144
 z67 := Tryz.sizeOf144
 v67 := Tryz.zeroValue144
 t69 := Tryz.underlying175
 a69 := Tryz.isAgg175
 z69 := Tryz.sizeOf175
 v69 := Tryz.zeroValue175
 t75 := Tryz.underlying181
 a75 := Tryz.isAgg181
 z75 := Tryz.sizeOf181
 v75 := Tryz.zeroValue181
 t79 := Tryz.underlying185
 a79 := Tryz.isAgg185
 z79 := Tryz.sizeOf185
 v79 := Tryz.zeroValue185
 t83 := Tryz.underlying188
 a83 := Tryz.isAgg188
 z83 := Tryz.sizeOf188
 v83 := Tryz.zeroValue188
 t84 := Tryz.underlying189
 a84 := Tryz.isAgg189
 z84 := Tryz.sizeOf189
 v84 := Tryz.zeroValue189 }
end Go.Proofs
namespace Go.EV
open Go.Proofs
def Z7 (a : List Int) : List Int := a.mergeSort fun x y => decide (x ≤ y)
theorem Rw (a : List Int) : (Z7 a).Perm a := List.mergeSort_perm a _
theorem Og (a : List Int) : (Z7 a).length = a.length := (Rw a).length_eq
theorem Av1 (a : List Int) : (Z7 a).Pairwise (· ≤ ·) := by
 have := List.pairwise_mergeSort (le := fun x y : Int => decide (x ≤ y)) (fun a b c h1 h2 => by simp at *; omega) (fun a b => by simp; omega) a
 exact this.imp fun h => by simpa using h
theorem J5 : ∀ {l m : List Int}, l.Perm m → l.Pairwise (· ≤ ·) → m.Pairwise (· ≤ ·) → l = m
 | [], m, h, _, _ => (List.nil_perm.1 h).symm
 | a :: l, [], h, _, _ => absurd h.length_eq (by simp)
 | a :: l, b :: m, h, h1, h2 => by
  have cT := List.pairwise_cons.1 h1
  have fU := List.pairwise_cons.1 h2
  have fD : a = b := by
   have ha : a ∈ b :: m := h.mem_iff.1 (List.mem_cons_self ..)
   have hb : b ∈ a :: l := h.mem_iff.2 (List.mem_cons_self ..)
   rcases List.mem_cons.1 ha with ha | ha
   ·exact ha
   ·rcases List.mem_cons.1 hb with hb | hb
    ·exact hb.symm
    ·have := cT.1 b hb
     have := fU.1 a ha
     omega
  subst fD
  rw [J5 h.cons_inv cT.2 fU.2]
theorem Wu {a b : List Int} (hb : b.Pairwise (· < ·)) : Z7 a = b ↔ a.Perm b := by
 constructor
 ·intro h; rw [← h]; exact (Rw a).symm
 ·intro h; exact J5 ((Rw a).trans h) (Av1 a) (hb.imp fun h => by omega)
section
variable {M : Aa}
theorem Vg (xs : List Int) (hl : xs.length * 8 ≤ 140737488355328) {g : Nat} {caps : Array Value} (bi : O4 Tryz.prog g #[] caps M xs ElN) : Con Tryz.prog 156 #[.func (.func g) #[] caps] M [] (Ah7 (Z7 xs)) := by
 refine Con.enter Q116_ok (args := [.func (.func g) #[] caps]) (by simp [Ex0]) fun w0 => ?_
 simp only [Ex0, A5]
 repeat' first
   | refine EV.seq ?_
   | refine rg ?_
   | exact ⟨⟩
   | fail
 refine Con.callS (G1 := []) (Ts xs hl bi) ?_
 rintro v1 M1 G1 ap ⟨o1, rfl, bF, rfl⟩
 repeat' first
   | refine EV.seq ?_
   | refine rg ?_
   | exact ⟨⟩
   | fail
 rcases o1 with _ | ⟨rb, cap, sp⟩
 ·obtain ⟨h0, _⟩ := bF
  have hx : xs = [] := List.length_eq_zero_iff.1 h0
  subst hx
  refine Con.callS (G1 := []) (Con.sortINone (P := Tryz.prog) (ρ := Tryz.sortInts_ren) (M := M1) Tryz.sortInts rfl none 0) ?_
  rintro v2 M2 G2 bE ⟨rfl, rfl, rfl⟩
  repeat' first
    | refine EV.seq ?_
    | refine rg ?_
    | exact ⟨⟩
    | fail
  refine EV.reS (G' := []) ?_
  (refine rt Q116_ok ?_; try with_reducible exact ⟨⟩)
  have h1 : Z7 [] = [] := List.length_eq_zero_iff.1 (Og [])
  rw [h1]
  exact ⟨none, rfl, ⟨rfl, rfl⟩, rfl⟩
 ·obtain ⟨h1, h2, h3, h4⟩ := bF
  simp only [osg, H4, Fr]
  refine Con.callS (G1 := [(rb, Cl 3 (xs.map vi ++ sp))]) (Con.sortI (P := Tryz.prog) (ρ := Tryz.sortInts_ren) (M := M1) Tryz.sortInts rfl (b := rb) (T := 3) (xs := xs) (sp := sp) (c := cap) (by omega)) ?_
  rintro v2 M2 G2 bE ⟨rfl, rfl, rfl⟩
  rw [show (xs.mergeSort fun x y => decide (x ≤ y)) = Z7 xs from rfl]
  repeat' first
    | refine EV.seq ?_
    | refine rg ?_
    | exact ⟨⟩
    | fail
  refine EV.reS (G' := [(rb, Cl 3 ((Z7 xs).map vi ++ sp))]) ?_
  (refine rt Q116_ok ?_; try with_reducible exact ⟨⟩)
  refine ⟨some (rb, cap, sp), by rw [Og], ⟨by simp, by rw [List.length_append, List.length_map, Og]; rw [List.length_append, List.length_map] at h2; omega, by rw [Og]; exact h3, h4⟩, rfl⟩
theorem Vh (xs ys : List Int) (s t : Value) (hs : Sl M 1 ei s xs) (ht : Sl M 1 ei t ys) (hb : xs.length ≤ 281474976710656) (dS : ys.length < 1000000) : Aq Tryz.prog 41 #[s, t] M (vb (decide (xs = ys))) := by
 by_cases hy : xs.length < 1000000
 ·exact Pl xs ys s t hs ht hy dS
 obtain ⟨a, c, rfl, aH⟩ := hs
 obtain ⟨a2, c2, rfl, dD⟩ := ht
 refine Con.enter Q111_ok (args := [.slice a xs.length c, .slice a2 ys.length c2]) (by simp [Be8]) fun w0 => ?_
 simp only [Be8, A5]
 repeat' first
   | refine EV.seq ?_
   | refine rg ?_
   | (refine cX (fun h => ?_) (fun h => ?_) <;> try exact Ah h)
   | exact ⟨⟩
   | fail
 (refine rt Q111_ok ?_; try with_reducible exact ⟨⟩)
 rw [decide_eq_false (by rintro rfl; exact hy dS)]
theorem Tt (xs ys : List Int) (s t : Value) (hs : Sl M 1 ei s xs) (ht : Sl M 1 ei t ys) (hb : xs.length * 8 ≤ 140737488355328) (dS : ys.length < 1000000) : Aq Tryz.prog 134 #[s, t] M (vb (decide (Z7 xs = ys))) := by
 refine Con.enter Q47_ok (args := [s, t]) (by simp [Q47]) fun w0 => ?_
 simp only [Q47, A5]
 have hv := Vf xs s hs (by omega)
 obtain ⟨a, c, rfl, hr⟩ := hs
 have fP := ht
 obtain ⟨a2, c2, rfl, aS⟩ := ht
 repeat' first
   | refine EV.seq ?_
   | refine rg ?_
   | exact ⟨⟩
   | fail
 refine Con.callS (G1 := []) hv ?_
 rintro v1 M1 G1 ap ⟨_, rfl, g, caps, rfl, bi⟩
 repeat' first
   | fail
 refine Con.callS (G1 := []) (Vg xs hb bi) ?_
 rintro v2 M2 G2 bE ⟨o2, rfl, bD, rfl⟩
 repeat' first
   | fail
 refine Aq.call (Vh (Z7 xs) ys _ _ ?_ ((fP.mono (Aa.le_trans ap bE)).mono (Aa.le_add _ _)) (by rw [Og]; omega) dS) ?_
 ·exact ⟨oad o2, L6 o2, rfl, by rw [Ax]; exact D9 (T := 3) bD (fun q hq => by simpa using hq)⟩
 repeat' first
   | fail
 (refine rt Q47_ok ?_; try with_reducible exact ⟨⟩)
end
end Go.EV

namespace Go.EV
open Go.Proofs
def Z8 (p : List Ev) (e : Exec) (i : Nat) : Bool :=
 if (evAt p i).reads = false then decide (Ae e i = -2) else
  decide (Ae e i = -1) || (decide (0 ≤ Ae e i) && (decide (Ae e i < p.length) && (B0 e.dn (Ae e i).toNat && (decide ((evAt p (Ae e i).toNat).op.kind ≠ 5) && decide ((evAt p (Ae e i).toNat).op.loc = (evAt p i).op.loc)))))
def okB (p : List Ev) (e : Exec) (i : Nat) : Bool :=
 if (evAt p i).op.kind = 1 ∨ (evAt p i).op.kind = 2 then B0 e.dn i else if (evAt p i).op.kind = 0 ∨ (evAt p i).op.kind = 5 then !B0 e.dn i else
 if (evAt p i).op.kind = 3 then !(An p e.frm).K i || (B0 e.dn i == decide ((An p e.frm).R i = (evAt p i).op.v)) else
 if (evAt p i).op.kind = 4 then !(An p e.frm).K i || (!B0 e.dn i || decide ((An p e.frm).R i = (evAt p i).op.v)) else true
structure Fit (p : List Ev) (e : Exec) : Prop where
 fl : e.frm.length = p.length
 dl : e.dn.length = p.length
 ol : e.ord.length = 3
 src : ∀ i, i < p.length → Z8 p e i = true
 ok : ∀ i, i < p.length → okB p e i = true
 ord : ∀ k : Nat, k < 3 → (e.ord[k]?.getD []).Perm (Av p e.dn k)
 fen : e.fen.Perm (Bk p)
theorem Z9 {p : List Ev} {e : Exec} (hk : ∀ i, i < p.length → 0 ≤ (evAt p i).op.kind ∧ (evAt p i).op.kind ≤ 5) (h : Fit p e) : Shape p e := by
 refine ⟨h.fl, h.dl, h.ol, fun i hi ri => ?_, fun i hi hd => ?_, fun i hi hr => ?_, fun i hi hr => ?_, h.ord, h.fen⟩
 ·have := h.ok i hi
  unfold okB at this
  rw [if_pos ri] at this; exact this
 ·have h1 := h.ok i hi
  have h2 := hk i hi
  unfold okB at h1
  apply Classical.byContradiction
  intro hn
  rw [if_neg (by omega), if_pos (by omega), hd] at h1
  cases h1
 ·have := h.src i hi
  unfold Z8 at this
  rw [if_pos hr] at this; simpa using this
 ·have := h.src i hi
  unfold Z8 at this
  rw [if_neg (by rw [hr]; decide)] at this
  simp only [Bool.or_eq_true, Bool.and_eq_true, decide_eq_true_eq] at this
  rcases this with h1 | ⟨h1, h2, h3, h4, h5⟩
  ·exact .inl h1
  ·exact .inr ⟨(Ae e i).toNat, by omega, by omega, h3, h5⟩
theorem Aa0 {p : List Ev} {e : Exec} (hk : ∀ i, i < p.length → 0 ≤ (evAt p i).op.kind ∧ (evAt p i).op.kind ≤ 5) : Fit p e ↔ Shape p e ∧ O3 p e := by
 constructor
 ·intro h
  have hs := Z9 hk h
  refine ⟨hs, fun i x hx => ?_⟩
  obtain ⟨hi, hr⟩ := hx.lt
  have hK := Oc hs.fromOk hs.srcOk hi hr
  have h1 := hK.1.2 ⟨x, hx⟩
  have h2 := hK.2 x hx
  have h3 := h.ok i hi
  unfold okB at h3
  constructor
  ·intro k3
   rw [if_neg (by omega), if_neg (by omega), if_pos k3, h1, h2] at h3
   simp only [Bool.not_true, Bool.false_or, beq_iff_eq] at h3
   rw [h3, decide_eq_true_eq]
  ·intro k4 hd
   rw [if_neg (by omega), if_neg (by omega), if_neg (by omega), if_pos k4, h1, h2, hd] at h3
   simpa using h3
 ·rintro ⟨hs, hw⟩
  refine ⟨hs.fl, hs.dl, hs.ol, fun i hi => ?_, fun i hi => ?_, hs.ord, hs.fen⟩
  ·unfold Z8
   cases hr : (evAt p i).reads with
   | false => rw [if_pos rfl, hs.out i hi hr]; rfl
   | true =>
    rw [if_neg (by decide)]
    simp only [Bool.or_eq_true, Bool.and_eq_true, decide_eq_true_eq]
    rcases hs.src i hi hr with h1 | ⟨w, h1, h2, h3, h4⟩
    ·exact .inl h1
    ·rw [h1, Int.toNat_natCast]
     have := hs.dn0 w h2 h3
     exact .inr ⟨by omega, by omega, h3, by omega, h4⟩
  ·unfold okB
   split
   ·rename_i h; exact hs.dn1 i hi h
   ·rename_i ri
    split
    ·rename_i tn
     cases hd : B0 e.dn i with
     | false => rfl
     | true => have := hs.dn0 i hi hd; omega
    ·rename_i tn
     have hk := hk i hi
     have hr : (evAt p i).reads = true := by simp only [Ev.reads, Bool.and_eq_true, decide_eq_true_eq]; omega
     have hK := Oc hs.fromOk hs.srcOk hi hr
     cases jI : (An p e.frm).K i with
     | false => split <;> simp
     | true =>
      obtain ⟨x, hx⟩ := hK.1.1 jI
      have h2 := hK.2 x hx
      obtain ⟨w1, w2⟩ := hw i x hx
      rw [h2]
      split
      ·rename_i k3
       simp only [Bool.not_true, Bool.false_or, beq_iff_eq]
       cases hd : B0 e.dn i with
       | true => exact (decide_eq_true ((w1 k3).1 hd)).symm
       | false =>
        refine (decide_eq_false fun hh => ?_).symm
        have := (w1 k3).2 hh
        rw [hd] at this; cases this
      ·split
       ·rename_i k4
        simp only [Bool.not_true, Bool.false_or]
        cases hd : B0 e.dn i with
        | false => rfl
        | true => simp only [Bool.not_true, Bool.false_or]; exact decide_eq_true (w2 k4 hd)
       ·rfl
end Go.EV

namespace Go.EV
open Go.Proofs
section
variable {M : Aa}
set_option maxHeartbeats 600000 in
theorem Vi (p : List Ev) (s : Value) (hs : Sl M 6 A4 s p) (ax : p.length < 1000000) (e : Exec) (v : Value) (hv : IsX M v e) (az : e.frm.length = p.length) (bI : e.dn.length = p.length) (i : Nat) (hi : i < p.length) :
  Aq Tryz.prog 133 #[s, v, vi i] M (vb (Z8 p e i)) := by
 obtain ⟨pa, pc, rfl, am⟩ := hs
 obtain ⟨f, d, o, n, rfl, ⟨fa, fc, rfl, bU⟩, ⟨da, dc, rfl, aH⟩, ⟨oa, oc, ovs, rfl, bG, bJ, bu⟩, ⟨na, nc, rfl, iQ⟩⟩ := hv
 obtain ⟨pb, po, rfl, cn⟩ := Sl.at (sz := 6) (enc := A4) (fun _ => rfl) (by decide) am (by omega)
 obtain ⟨fb, fo, rfl, ia⟩ := Sl.at (sz := 1) (enc := ei) (fun _ => rfl) (by decide) bU (by omega)
 obtain ⟨db, dof, rfl, eQ⟩ := Sl.at (sz := 1) (enc := eb) (fun _ => rfl) (by decide) aH (by omega)
 have eC := cn i hi
 rw [← B8 hi] at eC
 have iE := ia i (by omega)
 have kf : e.frm[i]'(by omega) = Ae e i := by rw [Ae, List.getElem?_eq_getElem (by omega)]; rfl
 rw [Nat.mul_one] at iE
 rw [kf] at iE
 obtain ⟨x, hx⟩ : ∃ x, x = Ae e i := ⟨_, rfl⟩
 rw [← hx] at iE
 refine Con.enter Q37_ok (args := [.slice (some ⟨pb, po, none⟩) p.length pc, .agg #[.slice (some ⟨fb, fo, none⟩) e.frm.length fc, .slice (some ⟨db, dof, none⟩) e.dn.length dc, .slice oa e.ord.length oc, .slice na e.fen.length nc], vi i]) (by simp [Q37]) fun w0 => ?_
 simp only [Q37, A5]
 repeat' first
   | refine EV.seq ?_
   | refine EV.skip ?_
   | refine rg ?_
   | (refine Aq.call (By (evAt p i)) ?_; try refine nx ?_)
   | (refine cX (fun h => ?_) (fun h => ?_) <;> try exact Ah h)
   | (with_reducible intro b; try refine nx ?_)
   | (refine And.intro (by omega) ?_)
   | ((first | refine xm ?_ | refine xsA rfl ?_ | fail); try refine nx ?_)
   | exact ⟨⟩
   | fail
 ·(refine rt Q37_ok ?_; try with_reducible exact ⟨⟩)
  unfold Z8
  rw [if_pos h, hx]
 ·(refine rt Q37_ok ?_; try with_reducible exact ⟨⟩)
  rename_i hr
  unfold Z8
  rw [if_neg (by rw [hr]; decide), ← hx, h]; rfl
 ·rename_i hr
  have tp : Z8 p e i = (decide (0 ≤ x) && (decide (x < p.length) && (B0 e.dn x.toNat && (decide ((evAt p x.toNat).op.kind ≠ 5) && decide ((evAt p x.toNat).op.loc = (evAt p i).op.loc))))) := by
   unfold Z8
   rw [if_neg (by rw [hr]; decide), ← hx, decide_eq_false h, Bool.false_or]
  rw [tp]
  refine EV.any (t := Cn5) _ (List.Sublist.refl _) ?_
  simp only [Ao, As, Am, Au, reduceIte, Nat.reduceEqDiff]
  by_cases h0 : 0 ≤ x
  ·by_cases hn : x < p.length
   ·obtain ⟨w, rfl⟩ : ∃ w : Nat, x = w := ⟨x.toNat, by omega⟩
    have hw : w < p.length := by omega
    have gd := cn w hw
    rw [← B8 hw] at gd
    have jo := eQ w (by omega)
    have iB : e.dn[w]'(by omega) = B0 e.dn w := by rw [B0, List.getElem?_eq_getElem (by omega)]; rfl
    rw [Nat.mul_one, iB] at jo
    have tt := gd.pt 0 1 (by omega) rfl
    have tu := gd.pt 1 1 (by omega) rfl
    have tv := eC.pt 1 1 (by omega) rfl
    rw [Int.toNat_natCast]
    have k1 : decide ((0 : Int) ≤ (w : Int)) = true := decide_eq_true h0
    have k2 : decide ((w : Int) < (p.length : Int)) = true := decide_eq_true hn
    rw [k1, k2]
    have k0 : (0 : Int) ≤ (w : Int) := h0
    cases mZ : B0 e.dn w with
    | false =>
     rw [mZ] at jo
     repeat' first
       | ((refine Mg (by first | with_reducible assumption | rfl) rfl ?_ (fun lq aB hc => ?_) (fun lq aB => ?_); rotate_left) <;> (try (exfalso; simp at hc; done)) <;> (repeat first | refine nz ?_ | simp only [k1, k2]))
       | ((first | refine zo (fun lq aB => ?_) | refine zl ?_ | fail); (repeat first | refine nz ?_ | simp only [k1, k2]))
       | refine zf ?_
       | with_reducible rfl
       | (refine And.intro (by omega) ?_)
       | ((first | refine xm ?_ | refine xsA rfl ?_ | fail); (repeat first | refine nz ?_ | simp only [k1, k2]))
       | exact false
       | fail
     (refine rt Q37_ok ?_; try with_reducible exact ⟨⟩)
     simp
    | true =>
     rw [mZ] at jo
     by_cases h5 : (evAt p w).op.kind = 5
     ·have k3 : decide ((evAt p w).op.kind = 5) = true := decide_eq_true h5
      repeat' first
        | ((refine Mg (by first | with_reducible assumption | rfl) rfl ?_ (fun lq aB hc => ?_) (fun lq aB => ?_); rotate_left) <;> (try (exfalso; simp at hc; done)) <;> (repeat first | refine nz ?_ | simp only [k1, k2, k3, Bool.not_true]))
        | ((first | refine zo (fun lq aB => ?_) | refine zl ?_ | fail); (repeat first | refine nz ?_ | simp only [k1, k2, k3, Bool.not_true]))
        | refine zf ?_
        | with_reducible rfl
        | (refine And.intro (by omega) ?_)
        | ((first | refine xm ?_ | refine xsA rfl ?_ | fail); (repeat first | refine nz ?_ | simp only [k1, k2, k3, Bool.not_true]))
        | exact false
        | fail
      (refine rt Q37_ok ?_; try with_reducible exact ⟨⟩)
      simp [h5]
     ·have k3 : decide ((evAt p w).op.kind = 5) = false := decide_eq_false h5
      repeat' first
        | ((refine Mg (by first | with_reducible assumption | rfl) rfl ?_ (fun lq aB hc => ?_) (fun lq aB => ?_); rotate_left) <;> (try (exfalso; simp at hc; done)) <;> (repeat first | refine nz ?_ | simp only [k1, k2, k3, Bool.not_false]))
        | ((first | refine zo (fun lq aB => ?_) | refine zl ?_ | fail); (repeat first | refine nz ?_ | simp only [k1, k2, k3, Bool.not_false]))
        | refine zf ?_
        | with_reducible rfl
        | (refine And.intro (by omega) ?_)
        | ((first | refine xm ?_ | refine xsA rfl ?_ | fail); (repeat first | refine nz ?_ | simp only [k1, k2, k3, Bool.not_false]))
        | fail
      (refine rt Q37_ok ?_; try with_reducible exact ⟨⟩)
      simp [h5]
   ·have k1 : decide (0 ≤ x) = true := decide_eq_true h0
    have k2 : decide (x < (p.length : Int)) = false := decide_eq_false hn
    repeat' first
      | ((refine Mg (by first | with_reducible assumption | rfl) rfl ?_ (fun lq aB hc => ?_) (fun lq aB => ?_); rotate_left) <;> (try (exfalso; simp at hc; done)) <;> (repeat first | refine nz ?_ | simp only [k1, k2]))
      | ((first | refine zo (fun lq aB => ?_) | refine zl ?_ | fail); (repeat first | refine nz ?_ | simp only [k1, k2]))
      | refine zf ?_
      | with_reducible rfl
      | exact false
      | fail
    repeat' first
      | fail
    (refine rt Q37_ok ?_; try with_reducible exact ⟨⟩)
    simp
  ·have k1 : decide (0 ≤ x) = false := decide_eq_false h0
   repeat' first
     | ((refine Mg (by first | with_reducible assumption | rfl) rfl ?_ (fun lq aB hc => ?_) (fun lq aB => ?_); rotate_left) <;> (try (exfalso; simp at hc; done)) <;> (repeat first | refine nz ?_ | simp only [k1]))
     | ((first | refine zo (fun lq aB => ?_) | refine zl ?_ | fail); (repeat first | refine nz ?_ | simp only [k1]))
     | refine zf ?_
     | exact false
     | fail
   repeat' first
     | fail
   (refine rt Q37_ok ?_; try with_reducible exact ⟨⟩)
   simp
theorem Vj (p : List Ev) {pb po pc b1 : Nat} (h1 : rd M b1 0 1 [.slice (some ⟨pb, po, none⟩) p.length pc]) (i : Nat) (hi : i < p.length) (hp : rd M pb (po + i * 6) 6 (A4 (evAt p i))) :
  Aq Tryz.prog 135 #[vi i, pv b1 0] M (vb (evAt p i).strong) := by
 have aA : (i : Int) < p.length := by omega
 refine Con.enter Q23_ok (args := [vi i, pv b1 0]) (by simp [Q23]) fun w0 => ?_
 simp only [Q23, A5]
 repeat' first
   | refine EV.seq ?_
   | refine rg ?_
   | (refine Aq.call (Mm (evAt p i)) ?_; try refine nx ?_)
   | refine rt Q23_ok ?_
   | (refine And.intro (by omega) ?_)
   | ((first | refine xm ?_ | refine xn ?_ | fail); try refine nx ?_)
   | exact ⟨⟩
   | fail
open Classical in
noncomputable def Av2 (p : List Ev) (e : Exec) : Bool := decide (Fit p e)
open Classical in
theorem Kq {p : List Ev} {e : Exec} (h : ¬ Fit p e) : Av2 p e = false := decide_eq_false h
open Classical in
theorem Wv {p : List Ev} {e : Exec} (h : Fit p e) : Av2 p e = true := decide_eq_true h
set_option maxHeartbeats 2000000 in
theorem Ae8 (p : List Ev) (s : Value) (hs : Sl M 6 A4 s p) (hp : POk p) (de : ∀ i, i < p.length → 0 ≤ (evAt p i).op.kind ∧ (evAt p i).op.kind ≤ 5) (e : Exec) (v : Value) (hv : IsX M v e) (tw : e.fen.length * 8 ≤ 140737488355328) (az : e.frm.length ≤ 140737488355328) (bI : e.dn.length ≤ 140737488355328) (tx : e.ord.length ≤ 140737488355328) (ty : ∀ l ∈ e.ord, l.length * 8 ≤ 140737488355328) :
  Aq Tryz.prog 101 #[s, v] M (vb (Av2 p e)) := by
 have ax := hp.len
 have aI := hs
 have aQ := hv
 obtain ⟨pa, pc, rfl, am⟩ := hs
 obtain ⟨f, d, o, n, rfl, ⟨fa, fc, rfl, bU⟩, ⟨da, dc, rfl, aH⟩, ⟨oa, oc, ovs, rfl, bG, bJ, bu⟩, ⟨na, nc, rfl, iQ⟩⟩ := hv
 refine Con.enter Q22_ok (args := [.slice pa p.length pc, .agg #[.slice fa e.frm.length fc, .slice da e.dn.length dc, .slice oa e.ord.length oc, .slice na e.fen.length nc]]) (by simp [Q22]) fun w0 => ?_
 simp only [Q22, A5]
 refine EV.seq ?_
 repeat' first
   | refine rg ?_
   | (with_reducible intro b; try refine nx ?_)
   | exact ⟨⟩
   | fail
 rename_i lb
 obtain ⟨xb, rfl⟩ : ∃ x, x = b := ⟨_, rfl⟩
 refine EV.keepS [] ?_
 generalize hR : M.add _ = N
 have aC : M.le N := hR ▸ Aa.le_add _ _
 have dH : rd N lb 0 1 [.slice pa p.length pc] := hR ▸ Bv (T := 74) (cs := [.slice pa p.length pc]) (by simp) rfl (by simp)
 have au : rd N xb 0 4 [.slice fa e.frm.length fc, .slice da e.dn.length dc, .slice oa e.ord.length oc, .slice na e.fen.length nc] := hR ▸ Bv (T := 45) (cs := [.slice fa e.frm.length fc, .slice da e.dn.length dc, .slice oa e.ord.length oc, .slice na e.fen.length nc]) (by simp) rfl (by simp)
 clear hR
 have nI := au.pt 0 1 (by omega) rfl
 have rj := au.pt 1 1 (by omega) rfl
 have rk := au.pt 2 1 (by omega) rfl
 have di := au.pt 3 1 (by omega) rfl
 simp only [Nat.zero_add] at nI rj rk di
 have qT := aI.mono aC
 have tz := IsX.mono aC aQ
 refine EV.seq (EV.seq ?_)
 repeat' first
   | refine EV.skip ?_
   | refine rg ?_
   | with_reducible assumption
   | (refine A0.merge ?_ (fun hc K' hK => ?_) ?_; rotate_left)
   | (refine cX (fun h => ?_) (fun h => ?_) <;> try exact Ah h)
   | (refine xn ?_; try refine nx ?_)
   | exact ⟨⟩
   | fail
 ·have aK : Av2 p e = false := by
   refine Kq fun hf => ?_
   have h1 := hf.fl
   have h2 := hf.dl
   have h3 := hf.ol
   simp [h1, h2, h3] at h
  repeat' first
    | refine EV.seq ?_
    | refine rg ?_
    | exact ⟨⟩
    | fail
  (refine rt Q22_ok ?_; try with_reducible exact ⟨⟩)
  rw [aK]
 obtain ⟨e1, e2, e3⟩ : e.frm.length = p.length ∧ e.dn.length = p.length ∧ e.ord.length = 3 := by
  omega
 refine EV.seq (EV.seq ?_)
 repeat' first
   | refine EV.block ?_
   | refine rg ?_
   | (refine xn ?_; try refine nx ?_)
   | exact ⟨⟩
   | fail
 have cI := fun G i hi => Vi (M := N.add G) p _ (qT.mono (Aa.le_add _ _)) (by omega) e _ (IsX.mono (Aa.le_add _ _) tz) e1 e2 i hi
 refine EV.loopTo (fun i : Nat => ([(2, pv lb 0), (3, pv xb 0), (4, .bool false), (35, vi p.length), (36, vi i)], N, [])) (fun i => i ≤ p.length ∧ ∀ j, j < i → Z8 p e j = true) (fun i => p.length - i) 0 rfl ⟨Nat.zero_le _, fun j h => absurd h (Nat.not_lt_zero _)⟩ ?env1 (List.nil_sublist _) ?_
 case env1 =>
  exact eE
 rintro i ⟨hi, jm⟩ ih
 dsimp only at hi jm ih ⊢
 refine EV.seq ?_
 repeat' first
   | refine rg ?_
   | exact ⟨⟩
   | fail
 refine EV.seq ?_
 repeat' first
   | refine EV.skip ?_
   | (refine cX (fun h => ?_) (fun h => ?_) <;> try exact Ah h)
   | (refine EV.exit rfl ?_)
   | fail
 ·have aA : i < p.length := by omega
  repeat' first
    | refine EV.seq ?_
    | refine EV.skip ?_
    | refine EV.block ?_
    | refine EV.inBlock ?_
    | refine rg ?_
    | (refine Aq.call (cI _ i aA) ?_; try refine nx ?_)
    | (refine cX (fun h => ?_) (fun h => ?_) <;> try exact Ah h)
    | ((first | refine xm ?_ | refine xn ?_ | fail); try refine nx ?_)
    | exact ⟨⟩
    | fail
  ·have aK : Av2 p e = false := by
    refine Kq fun hf => ?_
    rw [hf.src i aA] at h; cases h
   (refine rt Q22_ok ?_; try with_reducible exact ⟨⟩)
   rw [aK]
  ·refine EV.to (ih (i + 1) ⟨by omega, fun j hj => ?_⟩ (by omega)) ?_ (List.nil_sublist _)
   ·by_cases ar : j < i
    ·exact jm j ar
    ·have : j = i := by omega
     subst this; exact h
   ·exact eE
 have bM : i = p.length := by omega
 subst bM
 clear ih
 have jl : Cr p e.frm := ⟨e1, fun j hj hr => by
  have := jm j hj
  unfold Z8 at this
  rw [if_neg (by rw [hr]; decide)] at this
  simp only [Bool.or_eq_true, Bool.and_eq_true, decide_eq_true_eq] at this
  unfold Ae at this
  omega⟩
 have uA := Kd p _ qT (by omega) e.frm (.slice fa e.frm.length fc) (.slice da e.dn.length dc) (.slice oa e.ord.length oc) (.slice na e.fen.length nc) ⟨fa, fc, rfl, bU.mono aC⟩ jl
 refine EV.seq ?_
 repeat' first
   | refine rg ?_
   | ((first | refine xm ?_ | refine xn ?_ | fail); try refine nx ?_)
   | exact ⟨⟩
   | fail
 refine Con.callS (G1 := []) uA ?_
 rintro v1 M1 G1 ap ⟨rv, wv, kv, rfl, gy, uh, lB⟩
 repeat' first
   | fail
 refine EV.seq (EV.seq ?_)
 have qU := dH.mono ap
 have qV := au.mono ap
 have me := rj.mono ap
 have qX := rk.mono ap
 have qY := di.mono ap
 repeat' first
   | refine EV.block ?_
   | refine rg ?_
   | (refine xn ?_; try refine nx ?_)
   | exact ⟨⟩
   | fail
 have aG := (Cp jl (p.length + 1)).len
 obtain ⟨ra, rc, rfl, dm⟩ := gy
 obtain ⟨ka, kc, rfl, iZ⟩ := lB
 have gb : (An p e.frm).r.length = p.length := aG.r
 have fi : (An p e.frm).k.length = p.length := aG.k
 refine EV.reS (G' := []) ?_
 refine EV.loopTo (fun x : Nat × Aa => ([(2, pv lb 0), (3, pv xb 0), (4, .bool false), (6, .slice ra (An p e.frm).r.length rc), (8, .slice ka (An p e.frm).k.length kc), (52, .slice pa p.length pc), (53, vi p.length), (54, vi x.1)], x.2, [])) (fun x => x.1 ≤ p.length ∧ M1.le x.2 ∧ ∀ j, j < x.1 → okB p e j = true) (fun x => p.length - x.1) (0, M1) rfl ⟨Nat.zero_le _, Aa.le_refl _, fun j h => absurd h (Nat.not_lt_zero _)⟩ ?env2 (List.nil_sublist _) ?_
 case env2 =>
  exact eE
 rintro ⟨i, Mi⟩ ⟨hi, bN, qZ⟩ ih
 dsimp only at hi bN qZ ih ⊢
 refine EV.seq ?_
 repeat' first
   | refine rg ?_
   | exact ⟨⟩
   | fail
 refine EV.seq ?_
 repeat' first
   | refine EV.skip ?_
   | (refine cX (fun h => ?_) (fun h => ?_) <;> try exact Ah h)
   | (refine EV.exit rfl ?_)
   | fail
 ·have aA : i < p.length := by omega
  obtain ⟨pb, po, rfl, cn⟩ := Sl.at (sz := 6) (enc := A4) (fun _ => rfl) (by decide) am (by omega)
  obtain ⟨db, dof, rfl, eQ⟩ := Sl.at (sz := 1) (enc := eb) (fun _ => rfl) (by decide) aH (by omega)
  obtain ⟨rb, ro, rfl, kV⟩ := Sl.at (sz := 1) (enc := ei) (fun _ => rfl) (by decide) dm (by omega)
  obtain ⟨kb, ko, rfl, kW⟩ := Sl.at (sz := 1) (enc := eb) (fun _ => rfl) (by decide) iZ (by omega)
  have eC := (((cn i aA).mono aC).mono ap).mono bN
  rw [← B8 aA] at eC
  have ld := (((eQ i (by omega)).mono aC).mono ap).mono bN
  have eX := (kV i (by omega)).mono bN
  have nG := (kW i (by omega)).mono bN
  rw [show e.dn[i]'(by omega) = B0 e.dn i by rw [B0, List.getElem?_eq_getElem (by omega)]; rfl, Nat.mul_one] at ld
  rw [show (An p e.frm).r[i]'(by omega) = (An p e.frm).R i by rw [Wd.R, List.getElem?_eq_getElem (by omega)]; rfl, Nat.mul_one] at eX
  rw [show (An p e.frm).k[i]'(by omega) = (An p e.frm).K i by rw [Wd.K, List.getElem?_eq_getElem (by omega)]; rfl, Nat.mul_one] at nG
  refine EV.seq (EV.block (EV.seq ?_))
  repeat' first
    | refine rg ?_
    | (with_reducible intro b; try refine nx ?_)
    | (refine And.intro (by omega) ?_)
    | (refine xm ?_; try refine nx ?_)
    | (refine xw ?_; refine nx ?_)
    | exact ⟨⟩
    | fail
  refine EV.keepS [] ?_
  generalize hR : Mi.add _ = N2
  have cJ : Mi.le N2 := hR ▸ Aa.le_add _ _
  have eY : rd N2 b 0 6 (A4 (evAt p i)) := hR ▸ Bv (T := 121) (cs := A4 (evAt p i)) (by simp) rfl (Nat.le_refl _)
  clear hR
  have ui : rd N2 b 0 1 [vi (evAt p i).op.kind] := eY.pt 0 1 (by omega) rfl
  have rf : rd N2 b 2 1 [vi (evAt p i).op.v] := by have := eY.pt 2 1 (by omega) rfl; rwa [Nat.zero_add] at this
  have uB := (qV.mono bN).mono cJ
  have uC := (me.mono bN).mono cJ
  have ip := ld.mono cJ
  have ez := eX.mono cJ
  have fA := nG.mono cJ
  have hP : okB p e i = true → _ := fun ho => ih (i + 1, N2) ⟨by dsimp only; omega, Aa.le_trans bN cJ, fun j hj => by
   dsimp only at hj
   by_cases ar : j < i
   ·exact qZ j ar
   ·have : j = i := by omega
    subst this; exact ho⟩ (by dsimp only; omega)
  dsimp only at hP
  have aK : okB p e i = false → Av2 p e = false := fun ho => Kq fun hf => by rw [hf.ok i aA] at ho; cases ho
  have uD := de i aA
  have ak : (evAt p i).op.kind = 0 ∨ (evAt p i).op.kind = 1 ∨ (evAt p i).op.kind = 2 ∨ (evAt p i).op.kind = 3 ∨ (evAt p i).op.kind = 4 ∨ (evAt p i).op.kind = 5 := by omega
  rcases ak with ak | ak | ak | ak | ak | ak
  · -- kind 0
   have d0 : decide ((evAt p i).op.kind = 0) = true := by rw [ak]; rfl
   have d1 : decide ((evAt p i).op.kind = 1) = false := by rw [ak]; rfl
   have d2 : decide ((evAt p i).op.kind = 2) = false := by rw [ak]; rfl
   have d3 : decide ((evAt p i).op.kind = 3) = false := by rw [ak]; rfl
   have d4 : decide ((evAt p i).op.kind = 4) = false := by rw [ak]; rfl
   have d5 : decide ((evAt p i).op.kind = 5) = false := by rw [ak]; rfl
   repeat' first
     | refine EV.seq ?_
     | refine EV.skip ?_
     | refine EV.block ?_
     | refine EV.inBlock ?_
     | (refine EV.reg ?_; (conv => (arg 2; whnf)); (repeat first | refine nx ?_ | simp only [d0, d1, d2, d3, d4, d5]))
     | (refine cX (fun h => ?_) (fun h => ?_) <;> try exact Ah h)
     | (refine And.intro (by omega) ?_)
     | ((first | refine xm ?_ | refine xn ?_ | fail); (repeat first | refine nx ?_ | simp only [d0, d1, d2, d3, d4, d5]))
     | fail
   ·(refine rt Q22_ok ?_; try with_reducible exact ⟨⟩)
    rw [aK (by unfold okB; simp [ak, h])]
   ·refine EV.to (hP (by unfold okB; simp [ak, h])) ?_ (List.nil_sublist _)
    exact eE
  · -- kind 1
   have d0 : decide ((evAt p i).op.kind = 0) = false := by rw [ak]; rfl
   have d1 : decide ((evAt p i).op.kind = 1) = true := by rw [ak]; rfl
   have d2 : decide ((evAt p i).op.kind = 2) = false := by rw [ak]; rfl
   have d3 : decide ((evAt p i).op.kind = 3) = false := by rw [ak]; rfl
   have d4 : decide ((evAt p i).op.kind = 4) = false := by rw [ak]; rfl
   have d5 : decide ((evAt p i).op.kind = 5) = false := by rw [ak]; rfl
   repeat' first
     | refine EV.seq ?_
     | refine EV.skip ?_
     | refine EV.block ?_
     | refine EV.inBlock ?_
     | (refine EV.reg ?_; (conv => (arg 2; whnf)); (repeat first | refine nx ?_ | simp only [d0, d1, d2, d3, d4, d5]))
     | (refine cX (fun h => ?_) (fun h => ?_) <;> try exact Ah h)
     | (refine And.intro (by omega) ?_)
     | ((first | refine xm ?_ | refine xn ?_ | fail); (repeat first | refine nx ?_ | simp only [d0, d1, d2, d3, d4, d5]))
     | fail
   ·(refine rt Q22_ok ?_; try with_reducible exact ⟨⟩)
    rw [aK (by unfold okB; simp [ak, h])]
   ·refine EV.to (hP (by unfold okB; simp [ak, h])) ?_ (List.nil_sublist _)
    exact eE
  · -- kind 2
   have d0 : decide ((evAt p i).op.kind = 0) = false := by rw [ak]; rfl
   have d1 : decide ((evAt p i).op.kind = 1) = false := by rw [ak]; rfl
   have d2 : decide ((evAt p i).op.kind = 2) = true := by rw [ak]; rfl
   have d3 : decide ((evAt p i).op.kind = 3) = false := by rw [ak]; rfl
   have d4 : decide ((evAt p i).op.kind = 4) = false := by rw [ak]; rfl
   have d5 : decide ((evAt p i).op.kind = 5) = false := by rw [ak]; rfl
   repeat' first
     | refine EV.seq ?_
     | refine EV.skip ?_
     | refine EV.block ?_
     | refine EV.inBlock ?_
     | (refine EV.reg ?_; (conv => (arg 2; whnf)); (repeat first | refine nx ?_ | simp only [d0, d1, d2, d3, d4, d5]))
     | (refine cX (fun h => ?_) (fun h => ?_) <;> try exact Ah h)
     | (refine And.intro (by omega) ?_)
     | ((first | refine xm ?_ | refine xn ?_ | fail); (repeat first | refine nx ?_ | simp only [d0, d1, d2, d3, d4, d5]))
     | fail
   ·(refine rt Q22_ok ?_; try with_reducible exact ⟨⟩)
    rw [aK (by unfold okB; simp [ak, h])]
   ·refine EV.to (hP (by unfold okB; simp [ak, h])) ?_ (List.nil_sublist _)
    exact eE
  · -- kind 3
   have d0 : decide ((evAt p i).op.kind = 0) = false := by rw [ak]; rfl
   have d1 : decide ((evAt p i).op.kind = 1) = false := by rw [ak]; rfl
   have d2 : decide ((evAt p i).op.kind = 2) = false := by rw [ak]; rfl
   have d3 : decide ((evAt p i).op.kind = 3) = true := by rw [ak]; rfl
   have d4 : decide ((evAt p i).op.kind = 4) = false := by rw [ak]; rfl
   have d5 : decide ((evAt p i).op.kind = 5) = false := by rw [ak]; rfl
   repeat' first
     | refine EV.seq ?_
     | refine EV.block ?_
     | (refine EV.reg ?_; (conv => (arg 2; whnf)); (repeat first | refine nx ?_ | simp only [d0, d1, d2, d3, d4, d5]))
     | (refine cX (fun h => ?_) (fun h => ?_) <;> try exact Ah h)
     | (refine xm ?_; (repeat first | refine nx ?_ | simp only [d0, d1, d2, d3, d4, d5]))
     | fail
   refine EV.any (t := Ah3) [] (List.nil_sublist _) ?_
   simp only [Ao, As, Am, Au, reduceIte, Nat.reduceEqDiff]
   cases hK : (An p e.frm).K i with
   | false =>
    rw [hK] at fA
    repeat' first
      | ((refine Mg (by first | with_reducible assumption | rfl) rfl ?_ (fun lq aB hc => ?_) (fun lq aB => ?_); rotate_left) <;> (try (exfalso; simp at hc; done)) <;> (repeat first | refine nz ?_ | simp only [Bool.not_false]))
      | ((first | refine zo (fun lq aB => ?_) | refine zl ?_ | fail); (repeat first | refine nz ?_ | simp only [Bool.not_false]))
      | refine zf ?_
      | (refine And.intro (by omega) ?_)
      | (refine xm ?_; (repeat first | refine nz ?_ | simp only [Bool.not_false]))
      | exact false
      | fail
    repeat' first
      | refine EV.seq ?_
      | refine EV.skip ?_
      | refine EV.inBlock ?_
      | refine rg ?_
      | (refine cX (fun h => ?_) (fun h => ?_) <;> try exact Ah h)
      | exact ⟨⟩
      | fail
    refine EV.to (hP (by unfold okB; simp [ak, hK])) ?_ (List.nil_sublist _)
    exact eE
   | true =>
    rw [hK] at fA
    cases hD : B0 e.dn i with
    | false =>
     rw [hD] at ip
     repeat' first
       | ((refine Mg (by first | with_reducible assumption | rfl) rfl ?_ (fun lq aB hc => ?_) (fun lq aB => ?_); rotate_left) <;> (try (exfalso; simp at hc; done)) <;> (repeat first | refine nz ?_ | simp only [Bool.not_false, Bool.not_true]))
       | ((first | refine zo (fun lq aB => ?_) | refine zl ?_ | fail); (repeat first | refine nz ?_ | simp only [Bool.not_false, Bool.not_true]))
       | refine zf ?_
       | with_reducible rfl
       | (refine And.intro (by omega) ?_)
       | ((first | refine xm ?_ | refine xn ?_ | fail); (repeat first | refine nz ?_ | simp only [Bool.not_false, Bool.not_true]))
       | fail
     repeat' first
       | refine EV.seq ?_
       | refine EV.skip ?_
       | refine EV.inBlock ?_
       | refine rg ?_
       | (refine cX (fun h => ?_) (fun h => ?_) <;> try exact Ah h)
       | exact ⟨⟩
       | fail
     ·(refine rt Q22_ok ?_; try with_reducible exact ⟨⟩)
      rw [aK (by unfold okB; simp [ak, hK, hD, h])]
     ·refine EV.to (hP (by unfold okB; simp [ak, hK, hD, h])) ?_ (List.nil_sublist _)
      exact eE
    | true =>
     rw [hD] at ip
     repeat' first
       | ((refine Mg (by first | with_reducible assumption | rfl) rfl ?_ (fun lq aB hc => ?_) (fun lq aB => ?_); rotate_left) <;> (try (exfalso; simp at hc; done)) <;> (repeat first | refine nz ?_ | simp only [Bool.not_false, Bool.not_true]))
       | ((first | refine zo (fun lq aB => ?_) | refine zl ?_ | fail); (repeat first | refine nz ?_ | simp only [Bool.not_false, Bool.not_true]))
       | refine zf ?_
       | with_reducible rfl
       | (refine And.intro (by omega) ?_)
       | ((first | refine xm ?_ | refine xn ?_ | fail); (repeat first | refine nz ?_ | simp only [Bool.not_false, Bool.not_true]))
       | fail
     repeat' first
       | refine EV.seq ?_
       | refine EV.skip ?_
       | refine EV.inBlock ?_
       | refine rg ?_
       | (refine cX (fun h => ?_) (fun h => ?_) <;> try exact Ah h)
       | exact ⟨⟩
       | fail
     ·(refine rt Q22_ok ?_; try with_reducible exact ⟨⟩)
      rw [aK (by unfold okB; simp [ak, hK, hD, h])]
     ·refine EV.to (hP (by unfold okB; simp [ak, hK, hD, h])) ?_ (List.nil_sublist _)
      exact eE
  · -- kind 4
   have d0 : decide ((evAt p i).op.kind = 0) = false := by rw [ak]; rfl
   have d1 : decide ((evAt p i).op.kind = 1) = false := by rw [ak]; rfl
   have d2 : decide ((evAt p i).op.kind = 2) = false := by rw [ak]; rfl
   have d3 : decide ((evAt p i).op.kind = 3) = false := by rw [ak]; rfl
   have d4 : decide ((evAt p i).op.kind = 4) = true := by rw [ak]; rfl
   have d5 : decide ((evAt p i).op.kind = 5) = false := by rw [ak]; rfl
   repeat' first
     | refine EV.seq ?_
     | refine EV.block ?_
     | (refine EV.reg ?_; (conv => (arg 2; whnf)); (repeat first | refine nx ?_ | simp only [d0, d1, d2, d3, d4, d5]))
     | (refine cX (fun h => ?_) (fun h => ?_) <;> try exact Ah h)
     | (refine xm ?_; (repeat first | refine nx ?_ | simp only [d0, d1, d2, d3, d4, d5]))
     | fail
   refine EV.any (t := Ah4) [] (List.nil_sublist _) ?_
   simp only [Ao, As, Am, Au, reduceIte, Nat.reduceEqDiff]
   cases hK : (An p e.frm).K i with
   | false =>
    rw [hK] at fA
    repeat' first
      | ((refine Mg (by first | with_reducible assumption | rfl) rfl ?_ (fun lq aB hc => ?_) (fun lq aB => ?_); rotate_left) <;> (try (exfalso; simp at hc; done)) <;> (repeat first | refine nz ?_ | simp only [Bool.not_false]))
      | ((first | refine zo (fun lq aB => ?_) | refine zl ?_ | fail); (repeat first | refine nz ?_ | simp only [Bool.not_false]))
      | refine zf ?_
      | (refine And.intro (by omega) ?_)
      | (refine xm ?_; (repeat first | refine nz ?_ | simp only [Bool.not_false]))
      | exact false
      | fail
    repeat' first
      | refine EV.seq ?_
      | refine EV.skip ?_
      | refine EV.inBlock ?_
      | refine rg ?_
      | (refine cX (fun h => ?_) (fun h => ?_) <;> try exact Ah h)
      | exact ⟨⟩
      | fail
    refine EV.to (hP (by unfold okB; simp [ak, hK])) ?_ (List.nil_sublist _)
    exact eE
   | true =>
    rw [hK] at fA
    cases hD : B0 e.dn i with
    | false =>
     rw [hD] at ip
     repeat' first
       | ((refine Mg (by first | with_reducible assumption | rfl) rfl ?_ (fun lq aB hc => ?_) (fun lq aB => ?_); rotate_left) <;> (try (exfalso; simp at hc; done)) <;> (repeat first | refine nz ?_ | simp only [Bool.not_false, Bool.not_true]))
       | ((first | refine zo (fun lq aB => ?_) | refine zl ?_ | fail); (repeat first | refine nz ?_ | simp only [Bool.not_false, Bool.not_true]))
       | refine zf ?_
       | with_reducible rfl
       | (refine And.intro (by omega) ?_)
       | ((first | refine xm ?_ | refine xn ?_ | fail); (repeat first | refine nz ?_ | simp only [Bool.not_false, Bool.not_true]))
       | exact false
       | fail
     repeat' first
       | refine EV.seq ?_
       | refine EV.skip ?_
       | refine EV.inBlock ?_
       | refine rg ?_
       | (refine cX (fun h => ?_) (fun h => ?_) <;> try exact Ah h)
       | exact ⟨⟩
       | fail
     refine EV.to (hP (by unfold okB; simp [ak, hK, hD])) ?_ (List.nil_sublist _)
     exact eE
    | true =>
     rw [hD] at ip
     repeat' first
       | ((refine Mg (by first | with_reducible assumption | rfl) rfl ?_ (fun lq aB hc => ?_) (fun lq aB => ?_); rotate_left) <;> (try (exfalso; simp at hc; done)) <;> (repeat first | refine nz ?_ | simp only [Bool.not_false, Bool.not_true]))
       | ((first | refine zo (fun lq aB => ?_) | refine zl ?_ | fail); (repeat first | refine nz ?_ | simp only [Bool.not_false, Bool.not_true]))
       | refine zf ?_
       | with_reducible rfl
       | (refine And.intro (by omega) ?_)
       | ((first | refine xm ?_ | refine xn ?_ | fail); (repeat first | refine nz ?_ | simp only [Bool.not_false, Bool.not_true]))
       | fail
     repeat' first
       | refine EV.seq ?_
       | refine EV.skip ?_
       | refine EV.inBlock ?_
       | refine rg ?_
       | (refine cX (fun h => ?_) (fun h => ?_) <;> try exact Ah h)
       | exact ⟨⟩
       | fail
     ·(refine rt Q22_ok ?_; try with_reducible exact ⟨⟩)
      rw [aK (by unfold okB; simp [ak, hK, hD, h])]
     ·refine EV.to (hP (by unfold okB; simp [ak, hK, hD, h])) ?_ (List.nil_sublist _)
      exact eE
  · -- kind 5
   have d0 : decide ((evAt p i).op.kind = 0) = false := by rw [ak]; rfl
   have d1 : decide ((evAt p i).op.kind = 1) = false := by rw [ak]; rfl
   have d2 : decide ((evAt p i).op.kind = 2) = false := by rw [ak]; rfl
   have d3 : decide ((evAt p i).op.kind = 3) = false := by rw [ak]; rfl
   have d4 : decide ((evAt p i).op.kind = 4) = false := by rw [ak]; rfl
   have d5 : decide ((evAt p i).op.kind = 5) = true := by rw [ak]; rfl
   repeat' first
     | refine EV.seq ?_
     | refine EV.skip ?_
     | refine EV.block ?_
     | refine EV.inBlock ?_
     | (refine EV.reg ?_; (conv => (arg 2; whnf)); (repeat first | refine nx ?_ | simp only [d0, d1, d2, d3, d4, d5]))
     | (refine cX (fun h => ?_) (fun h => ?_) <;> try exact Ah h)
     | (refine And.intro (by omega) ?_)
     | ((first | refine xm ?_ | refine xn ?_ | fail); (repeat first | refine nx ?_ | simp only [d0, d1, d2, d3, d4, d5]))
     | fail
   ·(refine rt Q22_ok ?_; try with_reducible exact ⟨⟩)
    rw [aK (by unfold okB; simp [ak, h])]
   ·refine EV.to (hP (by unfold okB; simp [ak, h])) ?_ (List.nil_sublist _)
    exact eE
 have bM : i = p.length := by omega
 subst bM
 clear ih
 have rl := qT.mono (Aa.le_trans ap bN)
 have lZ : Sl Mi 1 eb (.slice da e.dn.length dc) e.dn := ⟨da, dc, rfl, ((aH.mono aC).mono ap).mono bN⟩
 have iq := Aa.le_trans aC (Aa.le_trans ap bN)
 have mf := qU.mono bN
 have q8 := me.mono bN
 have uE := qX.mono bN
 have q9 := qY.mono bN
 refine EV.seq (EV.seq ?_)
 repeat' first
   | refine EV.block ?_
   | refine rg ?_
   | (refine xn ?_; try refine nx ?_)
   | exact ⟨⟩
   | fail
 refine EV.loopTo (fun x : Nat × Aa => ([(2, pv lb 0), (3, pv xb 0), (4, .bool false), (131, .slice oa e.ord.length oc), (132, vi e.ord.length), (133, vi x.1)], x.2, [])) (fun x => x.1 ≤ 3 ∧ Mi.le x.2 ∧ ∀ j : Nat, j < x.1 → (e.ord[j]?.getD []).Perm (Av p e.dn j)) (fun x => 3 - x.1) (0, Mi) rfl ⟨Nat.zero_le _, Aa.le_refl _, fun j h => absurd h (Nat.not_lt_zero _)⟩ ?env3 (List.nil_sublist _) ?_
 case env3 =>
  exact eE
 rintro ⟨k, Mk⟩ ⟨hk, d7, ae⟩ ih
 dsimp only at hk d7 ae ih ⊢
 refine EV.seq ?_
 repeat' first
   | refine rg ?_
   | exact ⟨⟩
   | fail
 refine EV.seq ?_
 repeat' first
   | refine EV.skip ?_
   | (refine cX (fun h => ?_) (fun h => ?_) <;> try exact Ah h)
   | (refine EV.exit rfl ?_)
   | fail
 ·have a8 : k < e.ord.length := by omega
  obtain ⟨ob, oo, rfl, bA⟩ := C7.at bJ bG bu (by omega)
  obtain ⟨la, lc, aW, cE, aS⟩ := bA k a8
  have aW := (aW.mono iq).mono d7
  have aS := (aS.mono iq).mono d7
  rw [Nat.mul_one] at aW
  have h8 := ty _ (List.getElem_mem a8)
  have bw : e.ord[k]?.getD [] = e.ord[k] := by rw [List.getElem?_eq_getElem a8]; rfl
  have mg := mf.mono d7
  have uF := q8.mono d7
  have gJ := K1 p _ (rl.mono d7) (by omega) e.dn _ (lZ.mono d7) e2 k
  repeat' first
    | refine EV.seq ?_
    | refine EV.block ?_
    | refine rg ?_
    | (refine And.intro (by omega) ?_)
    | (refine xn ?_; try refine nx ?_)
    | exact ⟨⟩
    | fail
  refine Con.callS (G1 := []) gJ ?_
  rintro v2 M2 G2 bE ⟨G0, ⟨o2, rfl, bD, rfl⟩, rfl⟩
  (refine nx ?_; try with_reducible exact ⟨⟩)
  refine Aq.call (Tt e.ord[k] (Av p e.dn k) _ _ ⟨la, lc, rfl, (aS.mono bE).mono (Aa.le_add _ _)⟩ ⟨oad o2, L6 o2, rfl, by rw [Ax]; exact D9 (T := 3) bD (fun q hq => by simpa using hq)⟩ h8 (by have : (Av p e.dn k).length ≤ p.length := Bz _ _; omega)) ?_
  (refine nx ?_; try with_reducible exact ⟨⟩)
  repeat' first
    | refine EV.seq ?_
    | refine EV.skip ?_
    | refine EV.inBlock ?_
    | refine rg ?_
    | (refine cX (fun h => ?_) (fun h => ?_) <;> try exact Ah h)
    | exact ⟨⟩
    | fail
  ·have bc : Av2 p e = false := Kq fun hf => by
    have h1 := hf.ord k (by omega)
    rw [bw] at h1
    exact absurd ((Wu (D3 _ _ _)).2 h1) (by simpa using h)
   (refine rt Q22_ok ?_; try with_reducible exact ⟨⟩)
   rw [bc]
  ·refine EV.to (ih (k + 1, M2) ⟨by dsimp only; omega, Aa.le_trans d7 bE, fun j hj => ?_⟩ (by dsimp only; omega)) ?_ (List.nil_sublist _)
   ·dsimp only at hj
    by_cases nU : j < k
    ·exact ae j nU
    ·have : j = k := by omega
     subst this
     rw [bw]
     exact (Wu (D3 _ _ _)).1 (by simpa using h)
   ·exact eE
 ·have dY : k = 3 := by omega
  subst dY
  clear ih
  have uG := rl.mono d7
  have mg := mf.mono d7
  have uH := q9.mono d7
  have mQ : rdS Mk 1 na e.fen.length (e.fen.flatMap ei) := (iQ.mono iq).mono d7
  have uI := fun G => Jq (M := Mk.add G) p _ (uG.mono (Aa.le_add _ _)) (by omega) 135 #[pv lb 0] (fun i => (evAt p i).strong) (fun M' bR i hi => by
   have aj := Aa.le_trans (Aa.le_add Mk G) bR
   obtain ⟨pb, po, e0, cn⟩ := Sl.at (sz := 6) (enc := A4) (fun _ => rfl) (by decide) am (by omega)
   have eC := (((cn i hi).mono iq).mono d7).mono aj
   rw [← B8 hi] at eC
   have := Vj p (e0 ▸ mg.mono aj) i hi eC
   simpa using this)
  refine EV.seq (EV.any (t := Ah5) [] (List.nil_sublist _) ?_)
  simp only [Ao, As, Am, Au, reduceIte, Nat.reduceEqDiff]
  repeat' first
    | ((first | refine zo (fun lq aB => ?_) | refine zl ?_ | fail); try refine nz ?_)
    | refine zq (fun lq tq aB aE => ?_)
    | ((with_reducible refine Con.callN (uI _) ?_) ;  rintro v1 M1 G1 ⟨o1, rfl, bF, rfl⟩; try refine nz ?_)
    | (refine Sa (by first | with_reducible assumption | rfl) (fun tq aE => ?_) (fun tq aE => ?_) <;> try refine nz ?_)
    | (refine Ec (by first | with_reducible assumption | rfl) (fun tq aE => ?_) (fun tq aE => ?_) <;> try refine nz ?_)
    | exact zn
    | ((first | refine xn ?_ | refine And.intro (Aa.le_refl _) (And.intro (A8 ?_) ?_); focus ((repeat' first | exact List.Sublist.refl _ | exact List.nil_sublist _ | exact List.sublist_append_left _ _ | refine List.Sublist.cons_cons _ ?_ | refine List.Sublist.append_left ?_ _ | refine List.sublist_append_of_sublist_right ?_ | refine List.Sublist.cons _ ?_); done) | fail); try refine nz ?_)
    | exact ⟨⟩
    | fail
  refine Aq.call (Tt e.fen (Cy p.length fun i => (evAt p i).strong) _ _ ⟨na, nc, rfl, mQ.mono (Aa.le_add _ _)⟩ ⟨oad o1, L6 o1, rfl, by rw [Ax]; exact D9 (T := 3) bF (fun q hq => by simpa using hq)⟩ tw (by have := Bz p.length (fun i => (evAt p i).strong); omega)) ?_
  repeat' first
    | ((first | refine zo (fun lq aB => ?_) | refine zl ?_ | fail); try refine nz ?_)
    | refine zq (fun lq tq aB aE => ?_)
    | refine zf ?_
    | exact ⟨⟩
    | fail
  repeat' first
    | fail
  (refine rt Q22_ok ?_; try with_reducible exact ⟨⟩)
  by_cases aa : Z7 e.fen = Bk p
  ·rw [Wv ⟨e1, e2, e3, jm, qZ, ae, (Wu (Fz p)).1 aa⟩]
   exact congrArg vb (decide_eq_true aa)
  ·rw [Kq fun hf => aa ((Wu (Fz p)).2 hf.fen)]
   exact congrArg vb (decide_eq_false aa)
end
end Go.EV

namespace Go.EV
open Go.Proofs

end Go.EV

namespace Go.EV
open Go.Proofs
section
variable {M : Aa}
end
end Go.EV

namespace Go.EV
open Go.Proofs
structure XSz (e : Exec) : Prop where
 fen : e.fen.length * 8 ≤ 140737488355328
 frm : e.frm.length ≤ 140737488355328
 dn : e.dn.length ≤ 140737488355328
 ord : e.ord.length ≤ 140737488355328
 row : ∀ l ∈ e.ord, l.length * 8 ≤ 140737488355328
section
variable {M : Aa}
theorem Qd (p : List Ev) (s : Value) (hs : Sl M 6 A4 s p) (hp : POk p) (hm : Lw p) (de : ∀ i, i < p.length → 0 ≤ (evAt p i).op.kind ∧ (evAt p i).op.kind ≤ 5) (e : Exec) (v : Value) (hv : IsX M v e) (hz : XSz e) :
  Aq Tryz.prog 66 #[s, v] M (vi (B7 p e)) := by
 have aI := hs
 have aQ := hv
 obtain ⟨a, c, rfl, aH⟩ := hs
 obtain ⟨f, d, o, n, rfl, ⟨fa, fc, rfl, _⟩, ⟨da, dc, rfl, _⟩, ⟨oa, oc, ovs, rfl, _, _, _⟩, ⟨na, nc, rfl, _⟩⟩ := hv
 refine Con.enter Q21_ok (args := [.slice a p.length c, .agg #[.slice fa e.frm.length fc, .slice da e.dn.length dc, .slice oa e.ord.length oc, .slice na e.fen.length nc]]) (by simp [Q21]) fun w0 => ?_
 simp only [Q21, A5]
 have cW := fun G => Ae8 (M := M.add G) p _ (aI.mono (Aa.le_add _ _)) hp de e _ (IsX.mono (Aa.le_add _ _) aQ) hz.fen hz.frm hz.dn hz.ord hz.row
 repeat' first
   | refine EV.seq ?_
   | refine EV.skip ?_
   | refine rg ?_
   | (refine Aq.call (cW _) ?_; try refine nx ?_)
   | (refine cX (fun h => ?_) (fun h => ?_) <;> try exact Ah h)
   | ((first | with_reducible intro b | refine xrA rfl ?_ | fail); try refine nx ?_)
   | exact ⟨⟩
   | fail
 ·have aK : B7 p e = 1 := by
   unfold B7
   refine if_neg fun hw => ?_
   rw [Wv ((Aa0 de).2 hw)] at h
   cases h
  (refine rt Q21_ok ?_; try with_reducible exact ⟨⟩)
  rw [aK]
 ·have hw : Shape p e ∧ O3 p e := by
   refine (Aa0 de).1 (Classical.byContradiction fun hn => ?_)
   rw [Kq hn] at h
   cases h
  have hx : XOk p e := hw.1.xok (.inr trivial)
  have kz : B7 p e = Cv p e := by
   rw [Ps hp hm hx]; unfold B7; rw [if_pos hw]
  have nX := fun G => I1 (M := M.add G) p _ (aI.mono (Aa.le_add _ _)) hp e _ (IsX.mono (Aa.le_add _ _) aQ) hx
  repeat' first
    | (refine Aq.call (nX _) ?_; try refine nx ?_)
    | exact ⟨⟩
    | fail
  (refine rt Q21_ok ?_; try with_reducible exact ⟨⟩)
  rw [kz]
theorem Tu (ts : List (List OpV)) (s : Value) (hs : Em M 5 Bc s ts) (hb : Sized ts) (e : Exec) (v : Value) (hv : IsX M v e) (hz : XSz e) :
  Con Tryz.prog 26 #[.agg #[s], v] M [] fun u M' _ => (A7 ts ≠ 0 ∧ u = .tuple #[.slice none 0 0, vi (A7 ts)]) ∨
   (A7 ts = 0 ∧ ((B7 (Al ts) e ≠ 0 ∧ u = .tuple #[.slice none 0 0, vi 1]) ∨ (B7 (Al ts) e = 0 ∧ ∃ r, u = .tuple #[r, vi 0] ∧ Sl M' 1 ei r (Aw (Al ts) e)))) := by
 have aI := hs
 have aQ := hv
 obtain ⟨a, c, vs, rfl, hl, aH, hk⟩ := hs
 obtain ⟨f, d, o, n, rfl, ⟨fa, fc, rfl, _⟩, ⟨da, dc, rfl, _⟩, ⟨oa, oc, ovs, rfl, _, _, _⟩, ⟨na, nc, rfl, _⟩⟩ := hv
 refine Con.enter Q2_ok (args := [.agg #[.slice a ts.length c], .agg #[.slice fa e.frm.length fc, .slice da e.dn.length dc, .slice oa e.ord.length oc, .slice na e.fen.length nc]]) (by simp [Q2]) fun w0 => ?_
 simp only [Q2, A5]
 repeat' first
   | refine EV.seq ?_
   | refine rg ?_
   | ((first | with_reducible intro b | refine xrA rfl ?_ | fail); try refine nx ?_)
   | exact ⟨⟩
   | fail
 refine Con.callS (G1 := []) (Up ts _ aI hb) ?_
 rintro v M1 G1 ap ⟨rfl, (⟨hne, rfl⟩ | ⟨aY, s', rfl, bo⟩)⟩
 ·simp only [wpS, wpA, Ka, push_cast, Int.cast_ofNat_Int, reduceIte, Nat.reduceEqDiff, reduceCtorEq, Nat.reduceAdd, Nat.reduceSub, Nat.reduceMul, Int.reduceToNat, Nat.reduceLeDiff]
  repeat' first
    | refine EV.seq ?_
    | (refine EV.reg ?_; (conv => (arg 2; whnf)); (repeat first | refine nx ?_ | simp only [hne]))
    | (refine cX (fun h => ?_) (fun h => ?_) <;> try exact Ah h)
    | fail
  (refine rt Q2_ok ?_; try with_reducible exact ⟨⟩)
  first | exact .inl hne | exact .inl ⟨hne, rfl⟩ | exact hne | simp [hne]
 ·have hp := Hu aY
  have m4 := fun G => Qd (M := M1.add G) (Al ts) _ (bo.mono (Aa.le_add _ _)) hp (E0 ts) (L1 aY) e _ (IsX.mono (Aa.le_trans ap (Aa.le_add _ _)) aQ) hz
  have iM := bo
  obtain ⟨pa, pc, rfl, am⟩ := iM
  (refine nx ?_; try with_reducible exact ⟨⟩)
  repeat' first
    | refine EV.seq ?_
    | refine EV.skip ?_
    | refine rg ?_
    | (refine Aq.call (m4 _) ?_; try refine nx ?_)
    | (refine cX (fun h => ?_) (fun h => ?_) <;> try exact Ah h)
    | (refine xrA rfl ?_; try refine nx ?_)
    | exact ⟨⟩
    | fail
  ·rename_i eT
   (refine rt Q2_ok ?_; try with_reducible exact ⟨⟩)
   first | exact .inr ⟨aY, .inl h⟩ | exact .inr ⟨aY, .inl ⟨h, rfl⟩⟩
  ·have eT : B7 (Al ts) e = 0 := by simpa using h
   have hx := execsP_ok hp ((Kp hp (E0 ts)).1 eT)
   refine Con.callS (G1 := []) (Lb (Al ts) _ bo hp e _ (IsX.mono ap aQ) hx) ?_
   rintro v2 M2 G2 bE ⟨o1, rfl, bF, rfl⟩
   repeat' first
     | fail
   refine EV.keepS [] ?_
   generalize hR : M2.add _ = N
   have aD : Sl N 1 ei (osv o1 (Aw (Al ts) e).length) (Aw (Al ts) e) := hR ▸ Rh (T := 3) bF (fun q hq => by simp [hq])
   (refine rt Q2_ok ?_; try with_reducible exact ⟨⟩)
   refine .inr ⟨aY, .inr ⟨eT, _, rfl, aD⟩⟩
end
end Go.EV

namespace Go.EV
open Go.Proofs
section
variable {M : Aa}
open Classical in
theorem Tv (p : List Ev) (s : Value) (hs : Sl M 6 Hf s p) (hp : p.length ≤ 16) (de : ∀ i, i < p.length → 0 ≤ (evAt p i).op.kind ∧ (evAt p i).op.kind ≤ 5) (e : Exec) (v : Value) (hv : IsX M v e) (hz : XSz e) :
  Aq Tryz.prog 42 #[s, v] M (vb (decide (Shape p e))) := by
 obtain ⟨pa, pc, rfl, am⟩ := hs
 obtain ⟨f, d, o, n, rfl, ⟨fa, fc, rfl, bU⟩, ⟨da, dc, rfl, aH⟩, ⟨oa, oc, ovs, rfl, bG, bJ, bu⟩, ⟨na, nc, rfl, iQ⟩⟩ := hv
 have uj := hz.frm
 have uk := hz.dn
 have ul := hz.ord
 have um := hz.fen
 refine Con.enter Q89_ok (args := [.slice pa p.length pc, .agg #[.slice fa e.frm.length fc, .slice da e.dn.length dc, .slice oa e.ord.length oc, .slice na e.fen.length nc]]) (by simp [Q89]) fun w0 => ?_
 simp only [Q89, A5]
 refine EV.seq ?_
 repeat' first
   | refine rg ?_
   | (with_reducible intro b; try refine nx ?_)
   | exact ⟨⟩
   | fail
 obtain ⟨xb, rfl⟩ : ∃ x, x = b := ⟨_, rfl⟩
 refine EV.frz [(xb, Cl 37 [.slice fa e.frm.length fc, .slice da e.dn.length dc, .slice oa e.ord.length oc, .slice na e.fen.length nc])] ?_
 generalize hR : M.add _ = N
 have aC : M.le N := hR ▸ Aa.le_add _ _
 have au : rd N xb 0 4 [.slice fa e.frm.length fc, .slice da e.dn.length dc, .slice oa e.ord.length oc, .slice na e.fen.length nc] := hR ▸ Ap 0 rfl rfl (by simp)
 clear hR
 have dO := au.pt 0 1 (by omega) rfl
 have bP := au.pt 1 1 (by omega) rfl
 have cv := au.pt 2 1 (by omega) rfl
 have qO := au.pt 3 1 (by omega) rfl
 simp only [Nat.zero_add] at dO bP cv qO
 have aK : ¬ Shape p e → ∀ k ρ G, get ρ 4 = some (vb false) → EV (Cx.fn Tryz.prog 42 264 w0 (List.map (fun x : Nat × Obj => x.fst) []) M fun u x x_1 => u = vb (decide (Shape p e))) [0, 1, 3, 4, 5, 6, 7, 8, 9, 10, 11, 12, 13, 14, 15, 16] (.code .ret :: k) ρ N G := by
  intro hn k ρ G h4
  refine EV.to (ρ' := [(4, vb false)]) (G' := []) ?_ (by simpa using h4) (List.nil_sublist _)
  (refine rt Q89_ok ?_; try with_reducible exact ⟨⟩)
  rw [decide_eq_false hn]
 refine EV.seq ?_
 refine EV.seq ?_
 repeat' first
   | refine EV.skip ?_
   | refine rg ?_
   | with_reducible assumption
   | (refine A0.merge ?_ (fun hc K' hK => ?_) ?_; rotate_left)
   | (refine cX (fun h => ?_) (fun h => ?_) <;> try exact Ah h)
   | (refine xn ?_; try refine nx ?_)
   | exact ⟨⟩
   | fail
 ·refine EV.seq ?_
  repeat' first
    | refine rg ?_
    | exact ⟨⟩
    | fail
  refine aK (fun hs => ?_) _ _ _ rfl
  have h1 := hs.fl
  have h2 := hs.dl
  have h3 := hs.ol
  simp [h1, h2, h3] at h
 have mh : e.frm.length = p.length ∧ e.dn.length = p.length ∧ e.ord.length = 3 := by
  skip
  omega
 clear h
 obtain ⟨az, bI, dX⟩ := mh
 obtain ⟨ob, oo, rfl, bA⟩ := C7.at bJ bG bu (by omega)
 have bz := am.mono aC
 have af : ∀ b, b < p.length → ∃ pb po, pa = some ⟨pb, po, none⟩ ∧ rd N pb (po + b * 6) 6 (Hf (evAt p b)) := fun b hb => by
  obtain ⟨pb, po, e1, hat⟩ := Sl.at (sz := 6) (enc := Hf) (fun _ => rfl) (by decide) bz (by omega)
  have := hat b hb
  rw [← B8 hb] at this
  exact ⟨pb, po, e1, this⟩
 have cB : ∀ b, b < p.length → ∃ fb fo, fa = some ⟨fb, fo, none⟩ ∧ rd N fb (fo + b) 1 [vi (Ae e b)] := fun b hb => by
  obtain ⟨fb, fo, e1, hat⟩ := Sl.at (sz := 1) (enc := ei) (fun _ => rfl) (by decide) bU (by omega)
  exact ⟨fb, fo, e1, (B6 hat b (by omega)).mono aC⟩
 have cp : ∀ b, b < p.length → ∃ db dof, da = some ⟨db, dof, none⟩ ∧ rd N db (dof + b) 1 [vb (B0 e.dn b)] := fun b hb => by
  obtain ⟨db, dof, e1, hat⟩ := Sl.at (sz := 1) (enc := eb) (fun _ => rfl) (by decide) (aH.mono aC) (by omega)
  have := hat b (by omega)
  rw [Nat.mul_one] at this
  refine ⟨db, dof, e1, ?_⟩
  rw [B0, List.getElem?_eq_getElem (by omega)]; exact this
 have bf : ∀ k, k < 3 → ∃ a' c', rd N ob (oo + k) 1 [.slice a' (e.ord[k]?.getD []).length c'] ∧ rdS N 1 a' (e.ord[k]?.getD []).length ((e.ord[k]?.getD []).flatMap ei) := fun k hk => by
  obtain ⟨a', c', h1, _, h2⟩ := bA k (by omega)
  rw [Nat.mul_one] at h1
  rw [List.getElem?_eq_getElem (show k < e.ord.length by omega), Option.getD_some]
  exact ⟨a', c', h1.mono aC, h2.mono aC⟩
 clear bA bJ bu bU am bz aH
 refine EV.seq ?_
 repeat' first
   | refine rg ?_
   | exact ⟨⟩
   | fail
 refine EV.seq ?_
 refine EV.seq ?_
 repeat' first
   | refine EV.block ?_
   | refine rg ?_
   | exact ⟨⟩
   | fail
 refine EV.to (Rt (pc := pc) hp de az bI dO bP cB cp af aK fun eY => ?_) ?env1 (List.nil_sublist _)
 case env1 =>
  exact eE
 have ax : (Bk p).length ≤ p.length := Bz _ _
 refine EV.seq ?_
 refine EV.seq ?_
 repeat' first
   | refine EV.skip ?_
   | refine rg ?_
   | (refine cX (fun h => ?_) (fun h => ?_) <;> try exact Ah h)
   | (refine xn ?_; try refine nx ?_)
   | exact ⟨⟩
   | fail
 ·refine EV.seq ?_
  repeat' first
    | refine rg ?_
    | exact ⟨⟩
    | fail
  refine aK (fun hs => ?_) _ _ _ rfl
  have h1 := hs.fen.length_eq
  rw [h1] at h
  simp at h
 have cC : e.fen.length = (Bk p).length := by
  have : ¬ ((e.fen.length : Int) ≠ ((Bk p).length : Int)) := by simpa using h
  omega
 clear h
 refine EV.seq ?_
 repeat' first
   | refine rg ?_
   | (with_reducible intro b; try refine nx ?_)
   | exact ⟨⟩
   | fail
 refine EV.seq ?_
 refine EV.seq ?_
 repeat' first
   | refine EV.block ?_
   | refine rg ?_
   | exact ⟨⟩
   | fail
 refine EV.to (Ru (pc := pc) (b9 := b) (na := na) (nc := nc) hp qO (by omega) (iQ.mono aC) af aK fun qa iy => ?_) ?env2 ?sub2
 case env2 =>
  exact eE
 case sub2 =>
  exact List.Sublist.refl _
 refine EV.seq ?_
 refine EV.seq ?_
 repeat' first
   | refine EV.block ?_
   | refine rg ?_
   | exact ⟨⟩
   | fail
 refine EV.to (Rv (pc := pc) (b9 := b) hp bI dX hz.row eY qa bP cv cp af bf aK fun bm qD gl => ?_) ?env3 (List.Sublist.refl _)
 case env3 =>
  exact eE
 have nf : Shape p e := Ae4 de az bI dX eY bm cC iy qD gl
 refine EV.seq ?_
 repeat' first
   | refine rg ?_
   | exact ⟨⟩
   | fail
 (refine rt Q89_ok ?_; try with_reducible exact ⟨⟩)
 rw [decide_eq_true nf]
end
end Go.EV

namespace Go.EV
open Go.Proofs
theorem Tw {α : Type} (f : α → Value) : ∀ (xs : List α), xs.flatMap (fun x => [f x]) = xs.map f
 | [] => rfl
 | x :: xs => by rw [List.flatMap_cons, Tw f xs]; rfl
theorem Tx {α : Type} {N : Aa} {b n : Nat} {T : TypeId} {f : α → Value} {xs : List α} (h : N b (Cl T (xs.map f))) (hn : xs.length = n) : Sl N 1 (fun x => [f x]) (Bg b n n) xs := by
 refine ⟨some ⟨b, 0, none⟩, n, by rw [hn], .inr ⟨b, 0, rfl, _, T, (0, 0), h, ?_, ?_⟩⟩
 ·simp
 ·rw [Tw, Nat.mul_one, List.drop_zero]
  show _ = (xs.map f).take xs.length
  rw [List.take_of_length_le (by simp)]
section
variable {M : Aa}
theorem Oh (ts : List (List OpV)) (s : Value) (hs : Em M 5 Bc s ts) (aY : A7 ts = 0) (e : Exec) (v : Value) (hv : IsX M v e) (hz : XSz e) :
  Aq Tryz.prog 19 #[.agg #[s], v] M (vi (B7 (Al ts) e)) := by
 have aI := hs
 have aQ := hv
 have gA := F8 aY
 have hp := Hu aY
 have hm := E0 ts
 have de := L1 aY
 obtain ⟨a, c, vs, rfl, hl, aH, hk⟩ := hs
 obtain ⟨f, d, o, n, rfl, ⟨fa, fc, rfl, _⟩, ⟨da, dc, rfl, _⟩, ⟨oa, oc, ovs, rfl, _, _, _⟩, ⟨na, nc, rfl, _⟩⟩ := hv
 refine Con.enter Q75_ok (args := [.agg #[.slice a ts.length c], .agg #[.slice fa e.frm.length fc, .slice da e.dn.length dc, .slice oa e.ord.length oc, .slice na e.fen.length nc]]) (by simp [Q75]) fun w0 => ?_
 simp only [Q75, A5]
 repeat' first
   | refine EV.seq ?_
   | refine rg ?_
   | ((first | with_reducible intro b | refine xrA rfl ?_ | fail); try refine nx ?_)
   | exact ⟨⟩
   | fail
 obtain ⟨xb, rfl⟩ : ∃ x, x = b := ⟨_, rfl⟩
 refine Con.callS (G1 := []) (Eh ts _ aI aY) ?_
 rintro v M1 G1 ap gY
 have bW := gY
 obtain ⟨pa, pc, rfl, am⟩ := gY
 generalize Al ts = p at *
 refine EV.keepS [] ?_
 generalize hR : M1.add _ = N
 have aC : M1.le N := hR ▸ Aa.le_add _ _
 have au : rd N xb 0 4 [.slice fa e.frm.length fc, .slice da e.dn.length dc, .slice oa e.ord.length oc, .slice na e.fen.length nc] := hR ▸ Bv (T := 37) (cs := [.slice fa e.frm.length fc, .slice da e.dn.length dc, .slice oa e.ord.length oc, .slice na e.fen.length nc]) (by simp) rfl (by simp)
 clear hR
 replace bW := bW.mono aC
 replace aQ := IsX.mono (Aa.le_trans ap aC) aQ
 clear aI aH hk am
 have nf := fun G => Tv (M := N.add G) p _ (bW.mono (Aa.le_add _ _)) (by omega) de e _ (IsX.mono (Aa.le_add _ _) aQ) hz
 refine EV.seq ?_
 refine EV.seq ?_
 repeat' first
   | refine EV.skip ?_
   | refine rg ?_
   | (refine Aq.call (nf _) ?_; try refine nx ?_)
   | (refine cX (fun h => ?_) (fun h => ?_) <;> try exact Ah h)
   | (refine xm ?_; try refine nx ?_)
   | exact ⟨⟩
   | fail
 ·refine EV.seq ?_
  repeat' first
    | refine rg ?_
    | exact ⟨⟩
    | fail
  have qc : ¬ Shape p e := by simpa using h
  (refine rt Q75_ok ?_; try with_reducible exact ⟨⟩)
  rw [Rr qc]
 have aw : Shape p e := by simpa using h
 clear h nf
 have hx := aw.xok (.inr trivial)
 have az := aw.fl
 have cl : ∀ i, i < p.length → Ae e i < p.length := fun i hi => (hx.fr i hi).1
 refine EV.seq ?_
 repeat' first
   | refine rg ?_
   | (refine xm ?_; try refine nx ?_)
   | exact ⟨⟩
   | fail
 refine Con.callS (G1 := []) (Iv p _ bW (by omega) e _ aQ az cl) ?_
 rintro v M2 G2 bE ⟨rb, lb, kb, rfl, aG, rfl⟩
 refine EV.keepS [] ?_
 generalize hR : M2.add _ = N2
 have eN : N.le N2 := hR ▸ Aa.le_trans bE (Aa.le_add _ _)
 have lB : Sl N2 1 eb (Bg kb p.length p.length) (Bf p e.frm).k := by rw [← hR]; exact Tx (T := 4) (.inr (by simp)) aG.k
 have gy : Sl N2 1 ei (Bg rb p.length p.length) (Bf p e.frm).r := by rw [← hR]; exact Tx (T := 3) (.inr (by simp)) aG.r
 clear hR bE
 replace bW := bW.mono eN
 replace aQ := IsX.mono eN aQ
 replace au := au.mono eN
 have n8 := fun G => Tl (M := N2.add G) p _ (bW.mono (Aa.le_add _ _)) (by omega) e _ (IsX.mono (Aa.le_add _ _) aQ) aw.dl _ _ (gy.mono (Aa.le_add _ _)) (lB.mono (Aa.le_add _ _)) aG
 refine EV.seq ?_
 refine EV.seq ?_
 repeat' first
   | refine EV.skip ?_
   | refine rg ?_
   | (refine Aq.call (n8 _) ?_; try refine nx ?_)
   | (refine cX (fun h => ?_) (fun h => ?_) <;> try exact Ah h)
   | (refine xm ?_; try refine nx ?_)
   | exact ⟨⟩
   | fail
 ·refine EV.seq ?_
  repeat' first
    | refine rg ?_
    | exact ⟨⟩
    | fail
  have qc : ∃ a, a < p.length ∧ I8 p e a = false := by
   have h' : (List.range p.length).all (I8 p e) = false := by simpa using h
   obtain ⟨a, ha, hb⟩ := List.all_eq_false.1 h'
   exact ⟨a, List.mem_range.1 ha, by simpa using hb⟩
  obtain ⟨a, ha, hb⟩ := qc
  (refine rt Q75_ok ?_; try with_reducible exact ⟨⟩)
  rw [Ti aw ha hb]
 have ng : O3 p e := by
  have h' : (List.range p.length).all (I8 p e) = true := by simpa using h
  exact (Th aw).1 fun a ha => List.all_eq_true.1 h' a (List.mem_range.2 ha)
 clear h n8 lB gy
 refine EV.seq ?_
 repeat' first
   | refine rg ?_
   | (refine xm ?_; try refine nx ?_)
   | exact ⟨⟩
   | fail
 refine Con.callS (G1 := []) (Oe p _ bW (by omega) e _ aQ az cl) ?_
 rintro v M3 G3 eL (⟨fZ, rfl⟩ | ⟨fZ, rv, lv, rfl, gy, fj⟩)
 ·simp only [wpS, wpA, Ka, push_cast, Int.cast_ofNat_Int, reduceIte, Nat.reduceEqDiff, reduceCtorEq, Nat.reduceAdd, Nat.reduceSub, Nat.reduceMul, Int.reduceToNat, Nat.reduceLeDiff]
  refine EV.seq ?_
  refine EV.seq ?_
  repeat' first
    | refine rg ?_
    | (refine cX (fun h => ?_) (fun h => ?_) <;> try exact Ah h)
    | exact ⟨⟩
    | fail
  refine EV.seq ?_
  repeat' first
    | refine rg ?_
    | exact ⟨⟩
    | fail
  obtain ⟨a, ha, hb⟩ := List.all_eq_false.1 fZ
  (refine rt Q75_ok ?_; try with_reducible exact ⟨⟩)
  rw [Tj aw ng (List.mem_range.1 ha) (by simpa using hb)]
 refine EV.keepS [] ?_
 generalize hR : M3.add _ = N3
 have k5 : N2.le N3 := hR ▸ Aa.le_trans eL (Aa.le_add _ _)
 clear hR eL gy fj
 replace bW := bW.mono k5
 replace aQ := IsX.mono k5 aQ
 replace au := au.mono k5
 have ax : p.length ≤ 16 := by omega
 have cP := S8 ax hm aw
 have f3 : e.fen.length ≤ 16 := by have := hx.fin.2; omega
 have ic := fun G => (show Aq _ _ _ (N3.add G) _ from J4 (M := N3.add G) p _ (bW.mono (Aa.le_add _ _)) ax)
 have ml := fun G => (show Aq _ _ _ (N3.add G) _ from P7 (M := N3.add G) p _ (bW.mono (Aa.le_add _ _)) ax e _ (IsX.mono (Aa.le_add _ _) aQ) az cl)
 have ig := fun G => (show Aq _ _ _ (N3.add G) _ from Oa (M := N3.add G) e _ (IsX.mono (Aa.le_add _ _) aQ) f3 cP)
 have m9 := thrR_ok (p := p) ax
 have jH := fromR_ok (p := p) (e := e) ax
 have kU := turnsR_ok (fen := e.fen) cP
 have ii := fun G => (show Aq _ _ _ (N3.add G) _ from Gy (M := N3.add G) _ _ jH kU)
 have ij := fun G => (show Aq _ _ _ (N3.add G) _ from Gy (M := N3.add G) _ _ m9 (unionR_ok jH kU))
 have jS := unionR_ok m9 (unionR_ok jH kU)
 have gC := fun G => (show Aq _ _ _ (N3.add G) _ from H2 (M := N3.add G) _ jS)
 have mm := fun G => Lk (M := N3.add G) _ jS.close
 refine EV.seq ?_
 refine EV.seq ?_
 repeat' first
   | refine EV.skip ?_
   | refine rg ?_
   | (refine cX (fun h => ?_) (fun h => ?_) <;> try exact Ah h)
   | exact ⟨⟩
   | fail
 refine EV.seq ?_
 refine EV.seq ?_
 refine EV.any (t := Af8) [] (List.Sublist.refl _) ?_
 simp only [Ao, As, Am, Au, reduceIte, Nat.reduceEqDiff]
 repeat' first
   | ((first | refine zo (fun lq aB => ?_) | refine zl ?_ | fail); try refine nz ?_)
   | refine zq (fun lq tq aB aE => ?_)
   | ((first | with_reducible refine Aq.call (ic _) ?_ | with_reducible refine Aq.call (ml _) ?_ | with_reducible refine Aq.call (ig _) ?_ | with_reducible refine Aq.call (ii _) ?_ | with_reducible refine Aq.call (ij _) ?_ | with_reducible refine Aq.call (gC _) ?_ | with_reducible refine Aq.call (mm _) ?_ | fail); try refine nz ?_)
   | (refine Sa (by first | with_reducible assumption | rfl) (fun tq aE => ?_) (fun tq aE => ?_) <;> try refine nz ?_)
   | (refine Ec (by first | with_reducible assumption | rfl) (fun tq aE => ?_) (fun tq aE => ?_) <;> try refine nz ?_)
   | exact zn
   | refine zf ?_
   | ((first | refine xm ?_ | refine And.intro (Aa.le_refl _) (And.intro (A8 ?_) ?_); focus ((repeat' first | exact List.Sublist.refl _ | exact List.nil_sublist _ | exact List.sublist_append_left _ _ | refine List.Sublist.cons_cons _ ?_ | refine List.Sublist.append_left ?_ _ | refine List.sublist_append_of_sublist_right ?_ | refine List.Sublist.cons _ ?_); done) | fail); try refine nz ?_)
   | exact ⟨⟩
   | fail
 clear ic ml ig ii ij gC mm
 have aH : Bp (Ch (Eg (Xo p) (Eg (I5 p e) (F6 e.fen)))) = Bp (Aw1 p e) := rfl
 rw [aH]
 refine EV.to (ρ' := [(3, pv xb 0), (5, .slice pa p.length pc), (50, vb (Bp (Aw1 p e)))]) ?_ ?env1 (List.Sublist.refl _)
 case env1 =>
  exact eE
 repeat' first
   | refine EV.skip ?_
   | (refine cX (fun h => ?_) (fun h => ?_) <;> try exact Ah h)
   | fail
 ·refine EV.seq ?_
  repeat' first
    | refine rg ?_
    | exact ⟨⟩
    | fail
  (refine rt Q75_ok ?_; try with_reducible exact ⟨⟩)
  rw [Vc hm ax aw ng h]
 have mQ : ¬ Gp p e := fun hr => by rw [(P6 ax hm aw).2 hr] at h; cases h
 clear h
 have hin := Ai3 ax hm aw
 have aN : ∀ k, k < 3 → (e.ord[k]?.getD []).length ≤ 16 := fun k hk => by
  have a8 : k < e.ord.length := by rw [aw.ol]; exact hk
  rw [List.getElem?_eq_getElem a8, Option.getD_some]
  have := (hx.oin _ (List.getElem_mem a8)).2
  omega
 have bZ := hp.ord
 have gD := fun G => (show Aq _ _ _ (N3.add G) _ from Lo (M := N3.add G) p _ (bW.mono (Aa.le_add _ _)) ax bZ e _ (IsX.mono (Aa.le_add _ _) aQ) az aw.dl cl f3 cP)
 have mn := fun G => (show Aq _ _ _ (N3.add G) _ from Xr (M := N3.add G) p _ (bW.mono (Aa.le_add _ _)) ax e _ (IsX.mono (Aa.le_add _ _) aQ) az cl aw.ol hin aN)
 have kG : RelOk 16 (U5 p e) := (unionR_ok (thrR_ok ax) (unionR_ok (meetsR_ok ax) (turnsR_ok cP))).close
 have gl : RelOk 16 (S7 p e) := (seenR0_ok ax hin).close
 have mo := fun G => Tb (M := N3.add G) _ _ kG gl
 refine EV.seq ?_
 refine EV.seq ?_
 refine EV.any (t := Af9) [] (List.Sublist.refl _) ?_
 simp only [Ao, As, Am, Au, reduceIte, Nat.reduceEqDiff]
 repeat' first
   | ((first | refine zo (fun lq aB => ?_) | refine zl ?_ | fail); try refine nz ?_)
   | refine zq (fun lq tq aB aE => ?_)
   | ((first | with_reducible refine Aq.call (gD _) ?_ | with_reducible refine Aq.call (mn _) ?_ | with_reducible refine Aq.call (mo _) ?_ | fail); try refine nz ?_)
   | (refine Sa (by first | with_reducible assumption | rfl) (fun tq aE => ?_) (fun tq aE => ?_) <;> try refine nz ?_)
   | (refine Ec (by first | with_reducible assumption | rfl) (fun tq aE => ?_) (fun tq aE => ?_) <;> try refine nz ?_)
   | exact zn
   | refine zf ?_
   | ((first | refine xm ?_ | refine And.intro (Aa.le_refl _) (And.intro (A8 ?_) ?_); focus ((repeat' first | exact List.Sublist.refl _ | exact List.nil_sublist _ | exact List.sublist_append_left _ _ | refine List.Sublist.cons_cons _ ?_ | refine List.Sublist.append_left ?_ _ | refine List.sublist_append_of_sublist_right ?_ | refine List.Sublist.cons _ ?_); done) | fail); try refine nz ?_)
   | exact ⟨⟩
   | fail
 repeat' first
   | refine EV.skip ?_
   | (refine cX (fun h => ?_) (fun h => ?_) <;> try exact Ah h)
   | fail
 ·refine EV.seq ?_
  repeat' first
    | refine rg ?_
    | exact ⟨⟩
    | fail
  (refine rt Q75_ok ?_; try with_reducible exact ⟨⟩)
  rw [Vd hp hm ax aw ng mQ h]
 have cC := Xv hp hm ax aw ng mQ (by simpa using h)
 have jM := Z4 (p := p) (e := e) aw.ol
 clear h gD mn mo
 have qd := fun G => Xw (M := N3.add G) p _ (bW.mono (Aa.le_add _ _)) ax de e _ (IsX.mono (Aa.le_add _ _) aQ) az aw.ol hin aN
 refine EV.seq ?_
 refine EV.seq ?_
 repeat' first
   | refine EV.skip ?_
   | refine rg ?_
   | (refine Aq.call (qd _) ?_; try refine nx ?_)
   | (refine cX (fun h => ?_) (fun h => ?_) <;> try exact Ah h)
   | (refine xm ?_; try refine nx ?_)
   | exact ⟨⟩
   | fail
 ·refine EV.seq ?_
  repeat' first
    | refine rg ?_
    | exact ⟨⟩
    | fail
  (refine rt Q75_ok ?_; try with_reducible exact ⟨⟩)
  rw [cC, if_neg (fun hn => by rw [jM.2 hn] at h; cases h)]
 ·refine EV.seq ?_
  repeat' first
    | refine rg ?_
    | exact ⟨⟩
    | fail
  (refine rt Q75_ok ?_; try with_reducible exact ⟨⟩)
  rw [cC, if_pos (jM.1 (by simpa using h))]
end
end Go.EV

namespace Go.EV
open Go.Proofs
theorem Con.frzOut {P : Program} {f : FuncId} {args : Array Value} {M : Aa} {G : Own} {Φ : Value → Aa → Own → Prop} (h : Con P f args M G Φ) : Con P f args M G fun v M' _ => ∃ M0 G0, M' = M0.add G0 ∧ Φ v M0 G0 :=
 ⟨h.1, fun w hs cs => by
  obtain ⟨e, w', fr, ⟨v, he, M', G', h1, h2⟩, r⟩ := h.2 w hs cs
  rw [← List.append_nil G'] at h1
  exact ⟨e, w', fr, ⟨v, he, _, [], h1.freeze, M', G', rfl, h2⟩, r⟩⟩
def RowG (xs : List Int) : Value → Aa → Own → Prop := fun u _ G' => ∃ ov : Vec, E6 1 ov xs.length (xs.map vi) ∧ u = osv ov xs.length ∧ G' = osg 3 ov (xs.map vi)
def rkW (p : List Ev) (e : Exec) : Wd := { r := (Bf p e.frm).r, w := (Bf p e.frm).l, k := [], t := [] }
theorem Iw {p : List Ev} {V W : Wd} (h : ∀ i, i < p.length → V.r[i]?.getD 0 = W.r[i]?.getD 0) : ∀ n, n ≤ p.length → A6 p V n = A6 p W n
 | 0, _ => rfl
 | n + 1, hn => by rw [A6, A6, Iw h n (by omega), h n (by omega)]
theorem Xz {p : List Ev} {e : Exec} (hs : Shape p e) (al : Sg p e) : A6 p (rkW p e) p.length ++ e.ord.map (Bm (rkW p e)) = Aw p e := by
 have hw := Ae3 hs al
 rw [Aw]
 congr 1
 ·exact Iw (V := rkW p e) (W := An p e.frm) (fun i hi => (hw i hi).1) _ (Nat.le_refl _)
 ·refine List.map_congr_left fun l hl => ?_
  obtain ⟨k, hk, rfl⟩ := List.getElem_of_mem hl
  have hp := hs.ord k (by rw [← hs.ol]; exact hk)
  rw [List.getElem?_eq_getElem hk, Option.getD_some] at hp
  unfold Bm
  split
  ·rfl
  ·rename_i h0
   have hm : Ad e.ord[k] (e.ord[k].length - 1) ∈ e.ord[k] := by
    rw [Ad, List.getElem?_eq_getElem (by omega)]; exact List.getElem_mem _
   obtain ⟨i, e1, e2, _, e4, _⟩ := A9.1 (hp.mem_iff.1 hm)
   have h1 := hs.dn0 i e2 e4
   rw [e1, Int.toNat_natCast]
   exact (hw i e2).2 h1.1 h1.2
section
variable {M : Aa}
set_option maxHeartbeats 4000000 in
theorem Rx (ts : List (List OpV)) (s : Value) (hs : Em M 5 Bc s ts) (aY : A7 ts = 0) (e : Exec) (v : Value) (hv : IsX M v e) (aw : Shape (Al ts) e) (al : Sg (Al ts) e) :
  Con Tryz.prog 21 #[.agg #[s], v] M [] (RowG (Aw (Al ts) e)) := by
 have aI := hs
 have aQ := hv
 have gA := F8 aY
 have hp := Hu aY
 have hm := E0 ts
 have de := L1 aY
 obtain ⟨a, c, vs, rfl, hl, aH, hk⟩ := hs
 obtain ⟨f, d, o, n, rfl, ⟨fa, fc, rfl, _⟩, ⟨da, dc, rfl, _⟩, ⟨oa, oc, ovs, rfl, bG, bJ, bu⟩, ⟨na, nc, rfl, _⟩⟩ := hv
 have dX := aw.ol
 obtain ⟨ob, oo, rfl, bA⟩ := C7.at bJ bG bu (by omega)
 refine Con.enter Q76_ok (args := [.agg #[.slice a ts.length c], .agg #[.slice fa e.frm.length fc, .slice da e.dn.length dc, .slice (some ⟨ob, oo, none⟩) e.ord.length oc, .slice na e.fen.length nc]]) (by simp [Q76]) fun w0 => ?_
 simp only [Q76, A5]
 repeat' first
   | refine EV.seq ?_
   | refine rg ?_
   | ((first | with_reducible intro b | refine xrA rfl ?_ | fail); try refine nx ?_)
   | exact ⟨⟩
   | fail
 obtain ⟨xb, rfl⟩ : ∃ x, x = b := ⟨_, rfl⟩
 refine Con.callS (G1 := []) (Eh ts _ aI aY) ?_
 rintro v M1 G1 ap gY
 have bW := gY
 obtain ⟨pa, pc, rfl, am⟩ := gY
 have hx := aw.xok (.inr trivial)
 have ac := Xz aw al
 have fZ : Tk (Al ts) e = true := by
  unfold Tk
  rw [List.all_eq_true]
  intro a ha
  have ha := List.mem_range.1 ha
  cases hr : (evAt (Al ts) a).reads with
  | false => exact Ai6 aw.fromOk aw.srcOk aw.outLt ha hr
  | true => exact (Cs3 aw.fromOk aw.srcOk aw.outLt ha hr).1.2 ⟨_, P9 aw al ha hr⟩
 have aG : (Bf (Al ts) e.frm).Len (Al ts).length := (rkAll_ok aw.fromOk aw.srcOk aw.outLt _).len
 generalize Al ts = p at *
 refine EV.keepS [] ?_
 generalize hR : M1.add _ = N
 have aC : M1.le N := hR ▸ Aa.le_add _ _
 have au : rd N xb 0 4 [.slice fa e.frm.length fc, .slice da e.dn.length dc, .slice (some ⟨ob, oo, none⟩) e.ord.length oc, .slice na e.fen.length nc] := hR ▸ Bv (T := 37) (cs := [.slice fa e.frm.length fc, .slice da e.dn.length dc, .slice (some ⟨ob, oo, none⟩) e.ord.length oc, .slice na e.fen.length nc]) (by simp) rfl (by simp)
 clear hR
 replace bW := bW.mono aC
 replace aQ := IsX.mono (Aa.le_trans ap aC) aQ
 replace am := am.mono aC
 have bf : ∀ k (hk : k < e.ord.length), ∃ a' c', rd N ob (oo + k) 1 [.slice a' e.ord[k].length c'] ∧ rdS N 1 a' e.ord[k].length (e.ord[k].flatMap ei) := fun k hk => by
  obtain ⟨a', c', h1, _, h2⟩ := bA k hk
  rw [Nat.mul_one] at h1
  exact ⟨a', c', h1.mono (Aa.le_trans ap aC), h2.mono (Aa.le_trans ap aC)⟩
 clear aI aH hk bA bJ bu
 repeat' first
   | refine EV.seq ?_
   | refine rg ?_
   | (refine xm ?_; try refine nx ?_)
   | exact ⟨⟩
   | fail
 refine Con.callS (G1 := []) (Oe p _ bW (by omega) e _ aQ aw.fl fun i hi => (hx.fr i hi).1) ?_
 rintro v M2 G2 bE (⟨aK, rfl⟩ | ⟨_, rv, lv, rfl, gy, fj⟩)
 ·rw [fZ] at aK; cases aK
 refine EV.keepS [] ?_
 generalize hR : M2.add _ = N2
 have cJ : N.le N2 := hR ▸ Aa.le_trans bE (Aa.le_add _ _)
 have qf : Sl N2 1 ei rv (rkW p e).r := gy.mono (hR ▸ Aa.le_add _ _)
 have qg : Sl N2 1 ei lv (rkW p e).w := fj.mono (hR ▸ Aa.le_add _ _)
 clear hR
 replace au := au.mono cJ
 have cv := au.pt 2 1 (by omega) rfl
 simp only [Nat.zero_add] at cv
 replace am := am.mono cJ
 have bf : ∀ k (hk : k < e.ord.length), ∃ a' c', rd N2 ob (oo + k) 1 [.slice a' e.ord[k].length c'] ∧ rdS N2 1 a' e.ord[k].length (e.ord[k].flatMap ei) := fun k hk => by
  obtain ⟨a', c', h1, h2⟩ := bf k hk
  exact ⟨a', c', h1.mono cJ, h2.mono cJ⟩
 rw [← ac]
 have gb : (rkW p e).r.length = p.length := aG.r
 have cF : (rkW p e).w.length = p.length := aG.l
 generalize rkW p e = W at *
 obtain ⟨ra, rc, rfl, dm⟩ := qf
 obtain ⟨wa, wc, rfl, fS⟩ := qg
 clear gy fj bE aC ap
 repeat' first
   | refine EV.seq ?_
   | refine EV.block ?_
   | refine rg ?_
   | exact ⟨⟩
   | fail
 refine EV.loopTo (fun x : Nat × Vec => ([(3, pv xb 0), (5, .slice pa p.length pc), (6, .slice ra W.r.length rc), (7, .slice wa W.w.length wc), (9, osv x.2 (A6 p W x.1).length), (10, vi x.1)], N2, osg 3 x.2 ((A6 p W x.1).map vi)))
  (fun x => x.1 ≤ p.length ∧ E6 1 x.2 (A6 p W x.1).length ((A6 p W x.1).map vi)) (fun x => p.length - x.1) (0, none) rfl ⟨Nat.zero_le _, rfl, rfl⟩ ?env1 (by simp [osg]) ?_
 case env1 =>
  exact eE
 rintro ⟨i, ov⟩ ⟨hi, aP⟩ ih
 dsimp only at hi aP ih ⊢
 refine EV.seq ?_
 refine EV.seq ?_
 repeat' first
   | refine EV.skip ?_
   | refine rg ?_
   | (refine cX (fun h => ?_) (fun h => ?_) <;> try exact Ah h)
   | (refine EV.exit rfl ?_)
   | exact ⟨⟩
   | fail
 ·have aA : i < p.length := by omega
  obtain ⟨pb, po, rfl, hat⟩ := Sl.at (enc := Hf) (fun _ => rfl) (by decide) am (by omega)
  obtain ⟨rb, ro, rfl, fq⟩ := Sl.at (sz := 1) (enc := ei) (fun _ => rfl) (by decide) dm (by omega)
  have eC := hat i aA
  rw [← B8 aA] at eC
  have cE : rd N2 pb (po + i * 6 + 1) 5 [vi (evAt p i).op.kind, vi (evAt p i).op.loc, vi (evAt p i).op.v, vi (evAt p i).op.w, vi (evAt p i).op.ord] := eC.pt 1 5 (by omega) rfl
  have eX : rd N2 rb (ro + i) 1 [vi (W.r[i]?.getD 0)] := B6 fq i (by omega)
  have rD : (i : Int) < W.r.length := by omega
  have jj := Cm p W i
  have bH : A6 p W (i + 1) = A6 p W i ++ if (evAt p i).reads then [W.r[i]?.getD 0] else [] := rfl
  have cQ := fun G => I6 (M := N2.add G) (evAt p i).op
  rw [H3 (de i aA)] at cQ
  repeat' first
    | refine EV.seq ?_
    | refine EV.skip ?_
    | refine EV.block ?_
    | refine EV.inBlock ?_
    | refine rg ?_
    | (refine Aq.call (cQ _) ?_; try refine nx ?_)
    | (refine cX (fun h => ?_) (fun h => ?_) <;> try exact Ah h)
    | (with_reducible intro b; try refine nx ?_)
    | (refine And.intro (by omega) ?_)
    | (refine xm ?_; try refine nx ?_)
    | exact ⟨⟩
    | fail
  ·rw [if_pos (by assumption)] at bH
   refine ⟨[vi (W.r[i]?.getD 0)], Or.inr ⟨b, 0, rfl, Ap 0 rfl rfl (by simp)⟩, by simp [B2, Ct, Value.oneCell'], Or.inl ⟨ov, _, rfl, _, aP, _, PullL.p, ?_, ?_, ?_⟩⟩
   ·simp only [maxLen]; omega
   ·omega
   intro o2 bD _
   (refine nx ?_; try with_reducible exact ⟨⟩)
   repeat' first
     | refine EV.inBlock ?_
     | refine rg ?_
     | exact ⟨⟩
     | fail
   have ih3 := ih (i + 1, o2) ⟨by dsimp only; omega, by rw [bH, List.length_append, List.map_append]; exact bD⟩ (by dsimp only; omega)
   dsimp only at ih3
   rw [bH, List.length_append, List.map_append, show List.map vi [W.r[i]?.getD 0] = [vi (W.r[i]?.getD 0)] from rfl] at ih3
   refine EV.toS ih3 ?_
   exact eE
  ·rw [if_neg (by simp_all), List.append_nil] at bH
   have ih3 := ih (i + 1, ov) ⟨by dsimp only; omega, by rw [bH]; exact aP⟩ (by dsimp only; omega)
   dsimp only at ih3
   rw [bH] at ih3
   refine EV.toS ih3 ?_
   exact eE
 ·have bM : i = p.length := by omega
  subst bM
  clear ih
  repeat' first
    | refine EV.seq ?_
    | refine EV.block ?_
    | refine rg ?_
    | exact ⟨⟩
    | fail
  have pF := Cm p W p.length
  generalize hR : A6 p W p.length = R at *
  refine EV.loopTo (fun x : Nat × Vec => ([(3, pv xb 0), (7, .slice wa W.w.length wc), (9, osv x.2 (R ++ (e.ord.take x.1).map (Bm W)).length), (11, vi x.1)], N2, osg 3 x.2 ((R ++ (e.ord.take x.1).map (Bm W)).map vi)))
   (fun x => x.1 ≤ e.ord.length ∧ E6 1 x.2 (R ++ (e.ord.take x.1).map (Bm W)).length ((R ++ (e.ord.take x.1).map (Bm W)).map vi)) (fun x => e.ord.length - x.1) (0, ov) rfl ⟨Nat.zero_le _, by simpa using aP⟩ ?env2 (by simp) ?_
  case env2 =>
   simp only [List.take_zero, List.map_nil, List.append_nil]
   exact eE
  rintro ⟨k, o1⟩ ⟨hk, bF⟩ ih
  dsimp only at hk bF ih ⊢
  refine EV.seq ?_
  refine EV.seq ?_
  repeat' first
    | refine EV.skip ?_
    | refine rg ?_
    | (refine cX (fun h => ?_) (fun h => ?_) <;> try exact Ah h)
    | (refine EV.exit rfl ?_)
    | exact ⟨⟩
    | fail
  ·have a8 : k < e.ord.length := by omega
   obtain ⟨la, lc, aW, aS⟩ := bf k a8
   obtain ⟨hin, jj⟩ := hx.oin _ (List.getElem_mem a8)
   have kj : R ++ (e.ord.take (k + 1)).map (Bm W) = (R ++ (e.ord.take k).map (Bm W)) ++ [Bm W e.ord[k]] := by
    rw [List.take_succ_eq_append_getElem a8, List.map_append, List.append_assoc]; rfl
   have bK : (R ++ (e.ord.take k).map (Bm W)).length ≤ 35 := by simp; omega
   have ih3 := fun o2 h => ih (k + 1, o2) ⟨by dsimp only; omega, h⟩ (by dsimp only; omega)
   dsimp only at ih3
   rw [kj, List.length_append, List.map_append] at ih3
   have hlo : Bm W e.ord[k] = if e.ord[k].length = 0 then 0 else W.w[(Ad e.ord[k] (e.ord[k].length - 1)).toNat]?.getD 0 := rfl
   generalize R ++ (e.ord.take k).map (Bm W) = Q at *
   generalize e.ord[k] = l at *
   clear ih
   refine EV.seq ?_
   refine EV.block ?_
   refine EV.seq ?_
   repeat' first
     | refine rg ?_
     | exact ⟨⟩
     | fail
   refine EV.seq (EV.thru (fun ρ' M' G' => M' = N2 ∧ (∀ q ∈ [(3, pv xb 0), (7, .slice wa W.w.length wc), (9, osv o1 Q.length), (11, vi k), (12, vi (Bm W l))], get ρ' q.1 = some q.2) ∧
    G' = osg 3 o1 (Q.map vi)) ?_ ?_)
   ·intro k' key
    clear ih3
    rw [hlo] at key
    by_cases gH : l.length = 0
    ·rw [if_pos gH] at key
     repeat' first
       | refine EV.seq ?_
       | refine EV.skip ?_
       | refine rg ?_
       | (refine cX (fun h => ?_) (fun h => ?_) <;> try exact Ah h)
       | (refine And.intro (by omega) ?_)
       | (refine xn ?_; try refine nx ?_)
       | exact ⟨⟩
       | fail
     refine EV.reS (key _ _ _ ⟨rfl, ?_, rfl⟩)
     exact eE
    ·rw [if_neg gH] at key
     obtain ⟨lb, lo, rfl, ay⟩ := Sl.at (sz := 1) (enc := ei) (fun _ => rfl) (by decide) aS (by omega)
     have be := B6 ay (l.length - 1) (by omega)
     have pG := D5 hin (k := l.length - 1) (by omega)
     have jk : 0 < p.length := by omega
     obtain ⟨wb, wo, rfl, gr⟩ := Sl.at (sz := 1) (enc := ei) (fun _ => rfl) (by decide) fS (by omega)
     have gJ := B6 gr (Ad l (l.length - 1)).toNat (by omega)
     simp only [Ad] at gJ
     change rd N2 wb _ 1 [vi (W.w[(Ad l (l.length - 1)).toNat]?.getD 0)] at gJ
     have qz : Ad l (l.length - 1) < (W.w.length : Int) := by omega
     have aq : IntKind.i64.wrap ((l.length : Int) - 1) = ((l.length - 1 : Nat) : Int) := (w64 (by omega) (by omega)).trans (by omega)
     have dM : (((l.length - 1 : Nat) : Int)) < (l.length : Int) := by omega
     clear ay gr
     repeat' first
       | refine EV.seq ?_
       | (refine EV.reg ?_; (conv => (arg 2; whnf)); (repeat first | refine nx ?_ | simp only [aq]))
       | (refine cX (fun h => ?_) (fun h => ?_) <;> try exact Ah h)
       | (refine And.intro (by omega) ?_)
       | ((first | refine xm ?_ | refine xn ?_ | fail); (repeat first | refine nx ?_ | simp only [aq]))
       | fail
     refine EV.reS (key _ _ _ ⟨rfl, ?_, rfl⟩)
     exact eE
   rintro ρ2 M2 G2 ⟨e0, hq, e2⟩
   rw [e0, e2]
   clear e0 e2
   refine EV.to ?_ hq (List.Sublist.refl _)
   clear hq hlo
   generalize Bm W l = lw at *
   repeat' first
     | refine rg ?_
     | (with_reducible intro b; try refine nx ?_)
     | exact ⟨⟩
     | fail
   refine ⟨[vi lw], Or.inr ⟨b, 0, rfl, Ap 0 rfl rfl (by simp)⟩, by simp [B2, Ct, Value.oneCell'], Or.inl ⟨o1, _, rfl, _, bF, _, PullL.p, ?_, ?_, ?_⟩⟩
   ·simp only [maxLen]; omega
   ·omega
   intro o2 bD _
   (refine nx ?_; try with_reducible exact ⟨⟩)
   repeat' first
     | refine EV.inBlock ?_
     | refine rg ?_
     | exact ⟨⟩
     | fail
   have ih4 := ih3 o2 bD
   rw [show List.map vi [lw] = [vi lw] from rfl] at ih4
   refine EV.toS ih4 ?_
   exact eE
  ·have dY : k = e.ord.length := by omega
   subst dY
   rw [List.take_length] at bF ⊢
   repeat' first
     | refine EV.seq ?_
     | refine rg ?_
     | exact ⟨⟩
     | fail
   (refine rt Q76_ok ?_; try with_reducible exact ⟨⟩)
   exact ⟨o1, bF, rfl, rfl⟩
theorem Ry (ts : List (List OpV)) (s : Value) (hs : Em M 5 Bc s ts) (aY : A7 ts = 0) (e : Exec) (v : Value) (hv : IsX M v e) (aw : Shape (Al ts) e) (al : Sg (Al ts) e) :
  Con Tryz.prog 21 #[.agg #[s], v] M [] fun u M' _ => Sl M' 1 ei u (Aw (Al ts) e) :=
 (Rx ts s hs aY e v hv aw al).frzOut.mono fun u M' G' ⟨M0, G0, h1, ov, h2, h3, h4⟩ => by
  subst h1 h3 h4
  exact Rh (T := 3) h2 (fun q hq => hq)
end
end Go.EV

namespace Go.EV
open Go.Proofs
section
variable {M : Aa}
theorem Ty (ts : List (List OpV)) (s : Value) (hs : Em M 5 Bc s ts) (aY : A7 ts = 0) (e : Exec) (v : Value) (hv : IsX M v e) (aw : Shape (Al ts) e) (x y : Nat) (dh : x < 16) (nK : y < 16) :
  Con Tryz.prog 29 #[.agg #[s], v, vi x, vi y] M [] fun u _ _ => u = vb (A1 (U5 (Al ts) e) x y) := by
 have aI := hs
 have aQ := hv
 have gA := F8 aY
 have hp := Hu aY
 have hm := E0 ts
 obtain ⟨a, c, vs, rfl, hl, aH, hk⟩ := hs
 obtain ⟨f, d, o, n, rfl, ⟨fa, fc, rfl, _⟩, ⟨da, dc, rfl, _⟩, ⟨oa, oc, ovs, rfl, _, _, _⟩, ⟨na, nc, rfl, _⟩⟩ := hv
 refine Con.enter Q72_ok (args := [.agg #[.slice a ts.length c], .agg #[.slice fa e.frm.length fc, .slice da e.dn.length dc, .slice oa e.ord.length oc, .slice na e.fen.length nc], vi x, vi y]) (by simp [Q72]) fun w0 => ?_
 simp only [Q72, A5]
 refine EV.seq ?_
 repeat' first
   | refine rg ?_
   | (with_reducible intro b; try refine nx ?_)
   | exact ⟨⟩
   | fail
 obtain ⟨xb, rfl⟩ : ∃ x, x = b := ⟨_, rfl⟩
 obtain ⟨lb, rfl⟩ : ∃ x, x = b := ⟨_, rfl⟩
 refine EV.keepS [] ?_
 generalize hR : M.add _ = N
 have aC : M.le N := hR ▸ Aa.le_add _ _
 have au : rd N xb 0 4 [.slice fa e.frm.length fc, .slice da e.dn.length dc, .slice oa e.ord.length oc, .slice na e.fen.length nc] := hR ▸ Bv (T := 37) (cs := [.slice fa e.frm.length fc, .slice da e.dn.length dc, .slice oa e.ord.length oc, .slice na e.fen.length nc]) (by simp) rfl (by simp)
 have dH : rd N lb 0 1 [.slice a ts.length c] := hR ▸ Bv (T := 24) (cs := [.slice a ts.length c]) (by simp) rfl (by simp)
 clear hR
 replace aI := Em.mono aC aI
 replace aQ := IsX.mono aC aQ
 have hx := aw.xok (.inr trivial)
 have ax : (Al ts).length ≤ 16 := by omega
 have cP := S8 ax hm aw
 have f3 : e.fen.length ≤ 16 := by have := hx.fin.2; omega
 have kG : RelOk 16 (U5 (Al ts) e) := (unionR_ok (thrR_ok ax) (unionR_ok (meetsR_ok ax) (turnsR_ok cP))).close
 have eY := fun G => (show Con _ _ _ (N.add G) _ _ from Eh (M := N.add G) ts _ (Em.mono (Aa.le_add _ _) aI) aY)
 have gD := fun (N' : Aa) (h : N.le N') (w : Value) (hw : Sl N' 6 Hf w (Al ts)) => (show Aq _ _ _ N' _ from Lo (M := N') (Al ts) _ hw ax hp.ord e _ (IsX.mono h aQ) aw.fl aw.dl (fun i hi => (hx.fr i hi).1) f3 cP)
 generalize U5 (Al ts) e = q at *
 obtain ⟨gN, e1⟩ := kG.get dh
 have bP := kG.at (show 16 ≤ 32 by omega) x
 rw [e1] at bP
 have cU : q[x] < 2 ^ 64 := Nat.lt_of_lt_of_le bP (by decide)
 have an := H1 (b := y) cU (by omega)
 have fO : IntKind.u64.wrap (y : Int) = (y : Int) := Bd (by omega)
 have h9 : ¬ ((y : Int) < 0) := by omega
 have hh : A1 q x y = q[x].testBit y := by simp only [A1, e1]
 rw [hh]
 refine EV.seq ?_
 refine EV.any (t := Bc1) [] (List.Sublist.refl _) ?_
 simp only [Ao, As, Am, Au, reduceIte, Nat.reduceEqDiff]
 repeat' first
   | ((first | refine zo (fun lq aB => ?_) | refine zl ?_ | fail); (repeat first | refine nz ?_ | simp only [fO, h9]))
   | (refine Sa (by first | with_reducible assumption | rfl) (fun tq aE => ?_) (fun tq aE => ?_) <;> (repeat first | refine nz ?_ | simp only [fO, h9]))
   | exact zn
   | (refine xm ?_; (repeat first | refine nz ?_ | simp only [fO, h9]))
   | fail
 refine Con.callS (G1 := []) (Eh ts _ aI aY) ?_
 rintro v M1 G1 ap gY
 refine ⟨ap, by simp, ?_⟩
 repeat' first
   | (refine zl ?_; (repeat first | refine nz ?_ | simp only [fO, h9]))
   | refine zq (fun lq tq aB aE => ?_)
   | (refine Sa (by first | with_reducible assumption | rfl) (fun tq aE => ?_) (fun tq aE => ?_) <;> (repeat first | refine nz ?_ | simp only [fO, h9]))
   | exact zn
   | fail
 refine Aq.call (gD _ (Aa.le_trans ap (Aa.le_add _ _)) _ (gY.mono (Aa.le_add _ _))) ?_
 repeat' first
   | (refine zo (fun lq aB => ?_); (repeat first | refine nz ?_ | simp only [fO, h9]))
   | refine zq (fun lq tq aB aE => ?_)
   | (refine And.intro (by omega) ?_)
   | (refine And.intro (Aa.le_refl _) (And.intro (A8 ?_) ?_); focus ((repeat' first | exact List.Sublist.refl _ | exact List.nil_sublist _ | exact List.sublist_append_left _ _ | refine List.Sublist.cons_cons _ ?_ | refine List.Sublist.append_left ?_ _ | refine List.sublist_append_of_sublist_right ?_ | refine List.Sublist.cons _ ?_); done); (repeat first | refine nz ?_ | simp only [fO, h9]))
   | fail
 have uJ : (q.map vw)[x]? = some (vw q[x]) := by rw [List.getElem?_map, List.getElem?_eq_getElem gN]; rfl
 rw [uJ]
 repeat' first
   | ((first | refine zo (fun lq aB => ?_) | refine zl ?_ | fail); (repeat first | refine nz ?_ | simp only [fO, h9, Cb, an]))
   | refine zf ?_
   | fail
 (refine rt Q72_ok ?_; try with_reducible exact ⟨⟩)
end
end Go.EV

namespace Go.EV
open Go.Proofs
def bfB (p : List Ev) (e : Exec) (i j : Nat) : Bool := A1 (Ek p e) i j
section
variable {M : Aa}
set_option maxHeartbeats 2000000 in
theorem I9 (ts : List (List OpV)) (s : Value) (hs : Em M 5 Bc s ts) (hb : Sized ts) (e : Exec) (v : Value) (hv : IsX M v e) (hz : XSz e) (x y : Int) :
  Con Tryz.prog 27 #[.agg #[s], v, vi x, vi y] M [] fun u _ _ => (A7 ts ≠ 0 ∧ u = .tuple #[vb false, vi (A7 ts)]) ∨
   (A7 ts = 0 ∧ (((B7 (Al ts) e ≠ 0 ∨ x < 0 ∨ (Al ts).length ≤ x ∨ y < 0 ∨ (Al ts).length ≤ y) ∧ u = .tuple #[vb false, vi 1]) ∨
    ((B7 (Al ts) e = 0 ∧ 0 ≤ x ∧ x < (Al ts).length ∧ 0 ≤ y ∧ y < (Al ts).length) ∧ u = .tuple #[vb (bfB (Al ts) e x.toNat y.toNat), vi 0]))) := by
 have aI := hs
 have aQ := hv
 obtain ⟨ta, tc, vs, rfl, hl, aH, hk⟩ := hs
 obtain ⟨f, d, o, n, rfl, ⟨fa, fc, rfl, _⟩, ⟨da, dc, rfl, _⟩, ⟨oa, oc, ovs, rfl, _, _, _⟩, ⟨na, nc, rfl, _⟩⟩ := hv
 refine Con.enter Q0_ok (args := [.agg #[.slice ta ts.length tc], .agg #[.slice fa e.frm.length fc, .slice da e.dn.length dc, .slice oa e.ord.length oc, .slice na e.fen.length nc], vi x, vi y]) (by simp [Q0]) fun w0 => ?_
 simp only [Q0, A5]
 repeat' first
   | refine EV.seq ?_
   | refine rg ?_
   | ((first | with_reducible intro b | refine xrA rfl ?_ | fail); try refine nx ?_)
   | exact ⟨⟩
   | fail
 refine Con.callS (G1 := []) (Up ts _ aI hb) ?_
 rintro v M1 G1 ap ⟨rfl, (⟨hne, rfl⟩ | ⟨aY, s', rfl, bo⟩)⟩
 ·simp only [wpS, wpA, Ka, push_cast, Int.cast_ofNat_Int, reduceIte, Nat.reduceEqDiff, reduceCtorEq, Nat.reduceAdd, Nat.reduceSub, Nat.reduceMul, Int.reduceToNat, Nat.reduceLeDiff]
  repeat' first
    | refine EV.seq ?_
    | (refine EV.reg ?_; (conv => (arg 2; whnf)); (repeat first | refine nx ?_ | simp only [hne]))
    | (refine cX (fun h => ?_) (fun h => ?_) <;> try exact Ah h)
    | fail
  (refine rt Q0_ok ?_; try with_reducible exact ⟨⟩)
  first | exact .inl hne | exact .inl ⟨hne, rfl⟩ | exact hne | simp [hne]
 ·have hp := Hu aY
  have gA := F8 aY
  have m4 := fun G => Qd (M := M1.add G) (Al ts) _ (bo.mono (Aa.le_add _ _)) hp (E0 ts) (L1 aY) e _ (IsX.mono (Aa.le_trans ap (Aa.le_add _ _)) aQ) hz
  have iM := bo
  obtain ⟨pa, pc, rfl, am⟩ := iM
  (refine nx ?_; try with_reducible exact ⟨⟩)
  repeat' first
    | refine EV.seq ?_
    | refine EV.skip ?_
    | refine rg ?_
    | (refine Aq.call (m4 _) ?_; try refine nx ?_)
    | with_reducible assumption
    | (refine A0.merge ?_ (fun hc K' hK => ?_) ?_; rotate_left)
    | (refine cX (fun h => ?_) (fun h => ?_) <;> try exact Ah h)
    | (refine xrA rfl ?_; try refine nx ?_)
    | exact ⟨⟩
    | fail
  ·(refine rt Q0_ok ?_; try with_reducible exact ⟨⟩)
   refine .inr ⟨aY, .inl ?_⟩
   omega
  ·have eT : B7 (Al ts) e = 0 := h.1.1.1.1
   have hin : 0 ≤ x ∧ x < (Al ts).length ∧ 0 ≤ y ∧ y < (Al ts).length := by omega
   have hx := execsP_ok hp ((Kp hp (E0 ts)).1 eT)
   obtain ⟨i, rfl⟩ : ∃ i : Nat, x = i := ⟨x.toNat, by omega⟩
   obtain ⟨j, rfl⟩ : ∃ j : Nat, y = j := ⟨y.toNat, by omega⟩
   have ae := beforeP_ok hx
   refine Con.callS (G1 := []) (Mt (Al ts) _ bo hp e _ (IsX.mono ap aQ) hx) ?_
   rintro v2 M2 G2 bE ⟨rb, rfl, rfl⟩
   (refine nx ?_; try with_reducible exact ⟨⟩)
   have aA : i < (Al ts).length := by omega
   obtain ⟨fB, eb1⟩ := ae.get aA
   have cR := ae.at (show (Al ts).length ≤ 32 by omega) i
   rw [eb1] at cR
   have uK : bfB (Al ts) e i j = (Ek (Al ts) e)[i].testBit j := by simp only [bfB, A1, eb1]
   repeat' first
     | fail
   refine Aq.call (Js (j := j) (Ca (f := vu) fB) aA (by omega) (by omega) cR) ?_
   repeat' first
     | fail
   (refine rt Q0_ok ?_; try with_reducible exact ⟨⟩)
   refine .inr ⟨aY, .inr ⟨⟨eT, by omega, by omega, by omega, by omega⟩, ?_⟩⟩
   rw [uK]
end
end Go.EV

namespace Go.EV
open Go.Proofs
section
variable {M : Aa}
set_option maxHeartbeats 1000000 in
theorem Tz (ts : List (List OpV)) (s : Value) (hs : Em M 5 Bc s ts) (hb : Sized ts) (e : Exec) (f d o n : Value) (hv : IsX M (.agg #[f, d, o, n]) e) (hz : XSz e) (x y : Int) :
  Con Tryz.prog 7 #[.agg #[s, f, d, o, n, vi x, vi y]] M [] fun u _ _ => u = vb true := by
 have aI := hs
 have aQ := hv
 obtain ⟨a, c, vs, rfl, hl, aH, hk⟩ := hs
 obtain ⟨_, _, _, _, e0, ⟨fa, fc, rfl, _⟩, ⟨da, dc, rfl, _⟩, ⟨oa, oc, ovs, rfl, _, _, _⟩, ⟨na, nc, rfl, _⟩⟩ := hv
 cases e0
 refine Con.enter Q59_ok (args := [.agg #[.slice a ts.length c, .slice fa e.frm.length fc, .slice da e.dn.length dc, .slice oa e.ord.length oc, .slice na e.fen.length nc, vi x, vi y]]) (by simp [Q59]) fun w0 => ?_
 simp only [Q59, A5]
 refine EV.seq ?_
 repeat' first
   | refine rg ?_
   | (with_reducible intro b; try refine nx ?_)
   | exact ⟨⟩
   | fail
 obtain ⟨cb, rfl⟩ : ∃ x, x = b := ⟨_, rfl⟩
 refine EV.seq (EV.thru (fun ρ' M' G' => ∃ lb xb, M' = M ∧ (∀ q ∈ [(2, vb false), (3, pv lb 0), (4, pv xb 0), (5, vi x), (6, vi y)], get ρ' q.1 = some q.2) ∧ rd (M.add G') lb 0 1 [.slice a ts.length c] ∧ rd (M.add G') xb 0 4 [.slice fa e.frm.length fc, .slice da e.dn.length dc, .slice oa e.ord.length oc, .slice na e.fen.length nc]) ?_ ?_)
 ·intro k' key
  refine EV.any (t := Ax0) [(cb, Cl 58 [.slice a ts.length c, .slice fa e.frm.length fc, .slice da e.dn.length dc, .slice oa e.ord.length oc, .slice na e.fen.length nc, vi x, vi y])] (List.Sublist.refl _) ?_
  simp only [Ao, As, Am, Au, reduceIte, Nat.reduceEqDiff]
  repeat' first
    | ((first | refine zo (fun lq aB => ?_) | refine zl ?_ | fail); try refine nz ?_)
    | refine zq (fun lq tq aB aE => ?_)
    | (refine Sa (by first | with_reducible assumption | rfl) (fun tq aE => ?_) (fun tq aE => ?_) <;> try refine nz ?_)
    | exact zn
    | refine zf ?_
    | ((first | with_reducible intro b | refine xrA rfl ?_ | refine xiA rfl ?_ | refine xw ?_ | refine And.intro (Aa.le_refl _) (And.intro (A8 ?_) ?_); focus ((repeat' first | exact List.Sublist.refl _ | exact List.nil_sublist _ | exact List.sublist_append_left _ _ | refine List.Sublist.cons_cons _ ?_ | refine List.Sublist.append_left ?_ _ | refine List.sublist_append_of_sublist_right ?_ | refine List.Sublist.cons _ ?_); done) | fail); try refine nz ?_)
    | exact ⟨⟩
    | fail
  ·refine key _ _ _ ⟨?lb, ?xb, rfl, ?e1, ?e2, ?e3⟩
   case e1 =>
    exact eE
   ·exact Bv (T := 24) (cs := [.slice a ts.length c]) (by simp) rfl (by simp)
   ·exact Bv (T := 45) (cs := [.slice fa e.frm.length fc, .slice da e.dn.length dc, .slice oa e.ord.length oc, .slice na e.fen.length nc]) (by simp) rfl (by simp)
  ·refine key _ _ _ ⟨?lb2, ?xb2, rfl, ?e12, ?e22, ?e32⟩
   case e12 =>
    exact eE
   ·exact Bv (T := 24) (cs := [.slice a ts.length c]) (by simp) rfl (by simp)
   ·exact Bv (T := 45) (cs := [.slice fa e.frm.length fc, .slice da e.dn.length dc, .slice oa e.ord.length oc, .slice na e.fen.length nc]) (by simp) rfl (by simp)
 ·rintro ρ' M' G' ⟨lb, xb, e0, hρ, dH, au⟩
  rw [e0]
  clear e0
  refine EV.to (G' := G') (ρ' := [(2, vb false), (3, pv lb 0), (4, pv xb 0), (5, vi x), (6, vi y)]) ?_ hρ (List.Sublist.refl _)
  refine EV.keepS [] ?_
  generalize hR : M.add G' = N at *
  have aC : M.le N := hR ▸ Aa.le_add _ _
  clear hR
  replace aI := Em.mono aC aI
  replace aQ := IsX.mono aC aQ
  refine EV.seq ?_
  refine EV.seq ?_
  repeat' first
    | refine rg ?_
    | exact ⟨⟩
    | fail
  refine Con.callS (G1 := []) Au8 ?_
  rintro v1 M1 G1 ap rfl
  refine EV.keepS [] ?_
  generalize hR : M1.add _ = N1
  have mp : N.le N1 := hR ▸ Aa.le_trans ap (Aa.le_add _ _)
  clear hR ap
  replace au := au.mono mp
  replace dH := dH.mono mp
  replace aI := Em.mono mp aI
  replace aQ := IsX.mono mp aQ
  clear aH hk aC mp
  repeat' first
    | refine EV.skip ?_
    | (refine cX (fun h => ?_) (fun h => ?_) <;> try exact Ah h)
    | fail
  refine EV.seq ?_
  repeat' first
    | refine rg ?_
    | (refine xm ?_; try refine nx ?_)
    | exact ⟨⟩
    | fail
  refine Con.callS (G1 := []) (Tu ts _ aI hb e _ aQ hz) ?_
  rintro v2 M2 G2 bE (⟨hne, rfl⟩ | ⟨aY, mq⟩)
  ·refine EV.keepS [] ?_
   generalize hR : M2.add _ = N2
   have cJ : N1.le N2 := hR ▸ Aa.le_trans bE (Aa.le_add _ _)
   clear hR bE
   replace au := au.mono cJ
   replace dH := dH.mono cJ
   replace aI := Em.mono cJ aI
   replace aQ := IsX.mono cJ aQ
   refine EV.seq ?_
   repeat' first
     | refine rg ?_
     | (refine xm ?_; try refine nx ?_)
     | exact ⟨⟩
     | fail
   refine Con.callS (G1 := []) (I9 ts _ aI hb e _ aQ hz x y) ?_
   rintro v3 M3 G3 eL (⟨_, rfl⟩ | ⟨aY, _⟩)
   ·refine EV.keepS [] ?_
    generalize hR : M3.add _ = N3
    have gE : N2.le N3 := hR ▸ Aa.le_trans eL (Aa.le_add _ _)
    clear hR eL
    replace dH := dH.mono gE
    replace aI := Em.mono gE aI
    have fK := fun G => Gu (M := N3.add G) ts _ (aI.mono (Aa.le_add _ _)) hb
    repeat' first
      | refine EV.seq ?_
      | refine rg ?_
      | (refine Aq.call (fK _) ?_; try refine nx ?_)
      | with_reducible assumption
      | (refine A0.merge ?_ (fun hc K' hK => ?_) ?_; rotate_left)
      | (refine cX (fun h => ?_) (fun h => ?_) <;> try exact Ah h)
      | (refine xm ?_; try refine nx ?_)
      | exact ⟨⟩
      | fail
    (refine rt Q59_ok ?_; try with_reducible exact ⟨⟩)
    simp
   ·exact absurd aY hne
  have hp := Hu aY
  have hm := E0 ts
  have gA := F8 aY
  rcases mq with ⟨hf, rfl⟩ | ⟨hf, r, rfl, hr⟩
  · -- it breaks a condition
   refine EV.keepS [] ?_
   generalize hR : M2.add _ = N2
   have cJ : N1.le N2 := hR ▸ Aa.le_trans bE (Aa.le_add _ _)
   clear hR bE
   replace au := au.mono cJ
   replace dH := dH.mono cJ
   replace aI := Em.mono cJ aI
   replace aQ := IsX.mono cJ aQ
   refine EV.seq ?_
   repeat' first
     | refine rg ?_
     | (refine xm ?_; try refine nx ?_)
     | exact ⟨⟩
     | fail
   refine Con.callS (G1 := []) (I9 ts _ aI hb e _ aQ hz x y) ?_
   rintro v3 M3 G3 eL (⟨hne, _⟩ | ⟨_, ⟨_, rfl⟩ | ⟨⟨eT, _⟩, _⟩⟩)
   ·exact absurd aY hne
   rotate_left
   ·exact absurd eT hf
   refine EV.keepS [] ?_
   generalize hR : M3.add _ = N3
   have gE : N2.le N3 := hR ▸ Aa.le_trans eL (Aa.le_add _ _)
   clear hR eL
   replace au := au.mono gE
   replace dH := dH.mono gE
   replace aI := Em.mono gE aI
   replace aQ := IsX.mono gE aQ
   have fK := fun G => Gu (M := N3.add G) ts _ (aI.mono (Aa.le_add _ _)) hb
   have bU := fun G => Oh (M := N3.add G) ts _ (aI.mono (Aa.le_add _ _)) aY e _ (IsX.mono (Aa.le_add _ _) aQ) hz
   rw [aY] at fK
   repeat' first
     | refine EV.seq ?_
     | refine EV.skip ?_
     | refine rg ?_
     | ((first | refine Aq.call (bU _) ?_ | refine Aq.call (fK _) ?_ | fail); try refine nx ?_)
     | with_reducible assumption
     | (refine A0.merge ?_ (fun hc K' hK => ?_) ?_; rotate_left)
     | (refine cX (fun h => ?_) (fun h => ?_) <;> try exact Ah h)
     | (refine xm ?_; try refine nx ?_)
     | exact ⟨⟩
     | fail
   (refine rt Q59_ok ?_; try with_reducible exact ⟨⟩)
   simp
  ·have he := (Kp hp hm).1 hf
   obtain ⟨aw, _, mr⟩ := (Rg hp hm).1 he
   have al := Gp.rfOk mr.round
   refine EV.keepS [] ?_
   generalize hR : M2.add _ = N2
   have cJ : N1.le N2 := hR ▸ Aa.le_trans bE (Aa.le_add _ _)
   have aS : Sl N2 1 ei r (Aw (Al ts) e) := hr.mono (hR ▸ Aa.le_add _ _)
   clear hR bE
   replace au := au.mono cJ
   replace dH := dH.mono cJ
   replace aI := Em.mono cJ aI
   replace aQ := IsX.mono cJ aQ
   refine EV.seq ?_
   repeat' first
     | refine rg ?_
     | (refine xm ?_; try refine nx ?_)
     | exact ⟨⟩
     | fail
   refine Con.callS (G1 := []) (I9 ts _ aI hb e _ aQ hz x y) ?_
   rintro v3 M3 G3 eL hB
   obtain ⟨is, f, uL, uM⟩ : ∃ is f, v3 = .tuple #[vb is, vi f] ∧ (((x < 0 ∨ (Al ts).length ≤ x ∨ y < 0 ∨ (Al ts).length ≤ y) ∧ is = false ∧ f = 1) ∨ (0 ≤ x ∧ x < (Al ts).length ∧ 0 ≤ y ∧ y < (Al ts).length ∧ is = bfB (Al ts) e x.toNat y.toNat ∧ f = 0)) := by
    rcases hB with ⟨hne, _⟩ | ⟨_, ⟨h1, rfl⟩ | ⟨⟨_, h1, h2, h3, h4⟩, rfl⟩⟩
    ·exact absurd aY hne
    ·refine ⟨_, _, rfl, .inl ⟨?_, rfl, rfl⟩⟩
     rcases h1 with h1 | h1
     ·exact absurd hf h1
     ·exact h1
    ·exact ⟨_, _, rfl, .inr ⟨h1, h2, h3, h4, rfl, rfl⟩⟩
   subst uL
   clear hB
   refine EV.keepS [] ?_
   generalize hR : M3.add _ = N3
   have gE : N2.le N3 := hR ▸ Aa.le_trans eL (Aa.le_add _ _)
   replace aS := aS.mono gE
   clear hR eL
   replace au := au.mono gE
   replace dH := dH.mono gE
   replace aI := Em.mono gE aI
   replace aQ := IsX.mono gE aQ
   have fK := fun G => Gu (M := N3.add G) ts _ (aI.mono (Aa.le_add _ _)) hb
   have bU := fun G => Oh (M := N3.add G) ts _ (aI.mono (Aa.le_add _ _)) aY e _ (IsX.mono (Aa.le_add _ _) aQ) hz
   rw [aY] at fK
   rw [hf] at bU
   repeat' first
     | refine EV.seq ?_
     | refine EV.skip ?_
     | refine rg ?_
     | ((first | refine Aq.call (bU _) ?_ | refine Aq.call (fK _) ?_ | fail); try refine nx ?_)
     | (refine cX (fun h => ?_) (fun h => ?_) <;> try exact Ah h)
     | (refine xm ?_; try refine nx ?_)
     | exact ⟨⟩
     | fail
   have gF := aw.xok (.inr trivial)
   have bG : (Aw (Al ts) e).length ≤ 100 := by
    rw [Aw, List.length_append, List.length_map, aw.ol]
    have := Cm (Al ts) (An (Al ts) e.frm) (Al ts).length
    omega
   refine Con.callS (G1 := []) (Ry ts _ aI aY e _ aQ aw al) ?_
   rintro v4 M4 G4 dZ fw
   have mt := fun G => Sy (M := M4.add G) _ _ _ _ ((aS.mono dZ).mono (Aa.le_add _ _)) (fw.mono (Aa.le_add _ _)) (by omega) (by omega)
   refine Aq.call (mt _) ?_
   rw [show decide (Aw (Al ts) e = Aw (Al ts) e) = true from decide_eq_true rfl]
   (refine nx ?_; try with_reducible exact ⟨⟩)
   repeat' first
     | refine EV.skip ?_
     | (refine A0.intro (fun hc => ?_) (fun hc => ?_) <;> try simp only [ne_eq, Bool.not_true, Bool.not_false, not_true_eq_false, not_false_eq_true, reduceCtorEq] at hc <;> try (exfalso; first | exact hc | omega | (simp at hc; done)))
     | (refine cX (fun h => ?_) (fun h => ?_) <;> try exact Ah h)
     | fail
   refine EV.keepS [] ?_
   generalize hR : M4.add _ = N4
   have d6 : N3.le N4 := hR ▸ Aa.le_trans dZ (Aa.le_add _ _)
   clear hR dZ fw aS mt
   replace au := au.mono d6
   replace dH := dH.mono d6
   replace aI := Em.mono d6 aI
   replace aQ := IsX.mono d6 aQ
   have qh := fun G => (show Aq _ _ _ (N4.add G) _ from U7 (M := N4.add G) ts _ (aI.mono (Aa.le_add _ _)) aY)
   refine EV.seq ?_
   repeat' first
     | refine rg ?_
     | ((first | refine Aq.call (qh _) ?_ | refine xm ?_ | fail); try refine nx ?_)
     | exact ⟨⟩
     | fail
   rcases uM with ⟨ac, rfl, rfl⟩ | ⟨h1, h2, h3, h4, rm, rfl⟩
   ·refine EV.seq ?_
    refine EV.seq ?_
    repeat' first
      | refine rg ?_
      | with_reducible assumption
      | (refine A0.merge ?_ (fun hc K' hK => ?_) ?_; rotate_left)
      | (refine cX (fun h => ?_) (fun h => ?_) <;> try exact Ah h)
      | exact ⟨⟩
      | fail
    ·repeat' first
      | refine EV.seq ?_
      | refine rg ?_
      | with_reducible assumption
      | (refine A0.merge ?_ (fun hc K' hK => ?_) ?_; rotate_left)
      | exact ⟨⟩
      | fail
     (refine rt Q59_ok ?_; try with_reducible exact ⟨⟩)
     try simp
   ·have uN : x < 16 := by omega
    obtain ⟨i, rfl⟩ : ∃ i : Nat, x = i := ⟨x.toNat, by omega⟩
    obtain ⟨j, rfl⟩ : ∃ j : Nat, y = j := ⟨y.toNat, by omega⟩
    have ax : (Al ts).length ≤ 16 := by omega
    have lT : bfB (Al ts) e i j = A1 (U5 (Al ts) e) i j := by
     rw [Bool.eq_iff_iff, L3 ax hm aw al]
     exact Gn hm gF al
    rw [Int.toNat_natCast, Int.toNat_natCast, lT] at rm
    subst rm
    have gD := fun G => (show Aq _ _ _ (N4.add G) _ from Ty (M := N4.add G) ts _ (aI.mono (Aa.le_add _ _)) aY e _ (IsX.mono (Aa.le_add _ _) aQ) aw i j (by omega) (by omega))
    refine EV.seq ?_
    refine EV.seq ?_
    repeat' first
      | refine EV.skip ?_
      | refine rg ?_
      | with_reducible assumption
      | (refine A0.merge ?_ (fun hc K' hK => ?_) ?_; rotate_left)
      | (refine cX (fun h => ?_) (fun h => ?_) <;> try exact Ah h)
      | exact ⟨⟩
      | fail
    ·repeat' first
      | refine EV.seq ?_
      | refine rg ?_
      | (refine Aq.call (gD _) ?_; try refine nx ?_)
      | with_reducible assumption
      | (refine A0.merge ?_ (fun hc K' hK => ?_) ?_; rotate_left)
      | (refine xm ?_; try refine nx ?_)
      | exact ⟨⟩
      | fail
     (refine rt Q59_ok ?_; try with_reducible exact ⟨⟩)
     try simp
end
end Go.EV

namespace Go.EV
open Go.Proofs
variable {P : Program} {f : FuncId} {args : Array Value}
def Dr (w : World) : Aa := fun b o => w.heap[b]? = some o
theorem Aa1 {w w' : World} {M0 M : Aa} {G : Own} (h : EV.St w [] M0 M G w') : w.keptBut w' (fun _ => False) := by
 refine ⟨h.os, h.output, fun i hi => ?_⟩
 have e := h.frame i hi (by simp)
 rw [e]
 cases w.heap[i]? with
 | none => rfl
 | some o => cases o <;> simp
theorem Con.at {w : World} {Φ : Value → Aa → Own → Prop} (h : Con P f args (Dr w) [] Φ) : Calls P f args w fun e w' => ∃ v, e = .returned v ∧ (∃ M' G', Φ v M' G') ∧ w.keptBut w' (fun _ => False) ∧ w.heap.size ≤ w'.heap.size := by
 intro cs
 obtain ⟨e, w', fr, ⟨v, he, M', G', h1, h2⟩, r⟩ := h.2 w (St.enter (G := []) (fun b o hb => hb) (by simp) (by simp) (by simp)) cs
 exact ⟨e, w', fr, ⟨v, he, ⟨M', G', h2⟩, Aa1 h1, h1.size⟩, r⟩
theorem T0 {H : Type} {enc : TypeId × Value → H} {f : Func} {s : ChangeSpec} {apart fresh ir : Bool} {W W' : World} {args : Array Value} {v : Value} {ds gs : List (DataW H)} {before pa pv : List MemPlace}
  (hW : DataW.Whole enc P f.params.toList s.vars apart W args.toList ds gs before)
  (aD : ∀ (b : Nat) (sp : Nat → Bool) (hd : Bool), DataW.TrodAll enc P W' b sp hd f.resultTypes.toList (v.resultList f.resultTypes.size) (s.fn H (ds ++ gs)).results [])
  (iv : ∀ sp : Nat → Bool, (∀ p ∈ before, sp p.block = true) → DataW.TrodAll enc P W' 0 sp true f.params.toList args.toList (s.fn H (ds ++ gs)).args pa)
  (mu : ∀ sp : Nat → Bool, (∀ p ∈ before, sp p.block = true) → DataW.TrodVars enc P W' sp s.vars (s.fn H (ds ++ gs)).vars pv)
  (hps : before = pa ++ pv) (hk : W.keptBut W' (fun _ => False)) :
  s.post enc P f apart fresh ir false W args v W' := by
 have du : ∀ p ∈ before, (fun b => decide (b < W.heap.size)) p.block = true := fun p hp => by simpa using hW.lt p hp
 exact ⟨ds, gs, before, [], pa, pv, hW, aD _ _ _, iv _ du, mu _ du, World.keptBut_mono (fun p hp => hp.elim) hk, fun h => by cases h⟩
end Go.EV

namespace Go.EV
open Go.Proofs
section
variable {H : Type} {enc : TypeId × Value → H} {P : Program} {W : World} {base : Nat} {sp : Nat → Bool} {held : Bool}
theorem J6 {α β : Type} {f : α → Option β} : ∀ {l : List α} {r : List β}, l.mapM f = some r → r.length = l.length ∧ ∀ i (h : i < l.length), ∃ y, f l[i] = some y ∧ r[i]? = some y
 | [], r, h => by simp at h; subst h; simp
 | x :: l, r, h => by
  simp only [List.mapM_cons, Option.bind_eq_bind, Option.pure_def, Option.bind_eq_some_iff] at h
  obtain ⟨y, hy, r', bj, e⟩ := h
  cases e
  obtain ⟨h1, h2⟩ := J6 bj
  refine ⟨by simp [h1], fun i hi => ?_⟩
  cases i with
  | zero => exact ⟨y, hy, rfl⟩
  | succ i => exact h2 i (by simpa using hi)
theorem Ww {a : Addr} {n : Nat} {cs : List Value} (h : W.cells? base a n = some cs) (hn : 0 < n) : ∃ b off, a = ⟨b, off, none⟩ ∧ rd (Dr W) b off n cs := by
 unfold World.cells? at h
 split at h
 ·obtain ⟨h1, h2⟩ := J6 h
  rw [List.length_range] at h1
  obtain ⟨ab, ao, sa⟩ := a
  have mw : sa = none := by
   obtain ⟨y, hy, _⟩ := h2 0 (by simpa using hn)
   simp only [List.getElem_range, World.cell?, Addr.add] at hy
   cases sa with
   | none => rfl
   | some s => exfalso; revert hy; simp; split <;> simp
  subst mw
  refine ⟨ab, ao, rfl, ?_⟩
  have f4 : ∀ i, i < n → ∃ y, W.cell? ⟨ab, ao + i, none⟩ = some y ∧ cs[i]? = some y := fun i hi => by
   obtain ⟨y, hy, e⟩ := h2 i (by simpa using hi)
   rw [List.getElem_range, Eo] at hy
   exact ⟨y, hy, e⟩
  cases hb : W.heap[ab]? with
  | none => obtain ⟨y, hy, _⟩ := f4 0 hn; simp [World.cell?, hb] at hy
  | some ob =>
   cases ob with
   | cells c T fz =>
    have hc : ∀ i, i < n → c[ao + i]? = cs[i]? := fun i hi => by
     obtain ⟨y, hy, e⟩ := f4 i hi
     simp [World.cell?, hb] at hy
     rw [hy, e]
    have aj : ao + n ≤ c.size := by
     obtain ⟨y, hy, e⟩ := f4 (n - 1) (by omega)
     have h3 := hc (n - 1) (by omega)
     rw [e] at h3
     have := (Array.getElem?_eq_some_iff.1 h3).1
     omega
    refine ⟨c, T, fz, hb, aj, ?_⟩
    apply List.ext_getElem?
    intro i
    rw [List.getElem?_take]
    by_cases hi : i < n
    ·rw [if_pos hi, List.getElem?_drop, ← hc i hi]; simp
    ·rw [if_neg hi, List.getElem?_eq_none (by omega)]
   | _ => obtain ⟨y, hy, _⟩ := f4 0 hn; simp [World.cell?, hb] at hy
 ·cases h
theorem Av3 {b off n k : Nat} {xs ys : List Value} (h1 : rd (Dr W) b off n xs) (h2 : rd (Dr W) b (off + n) k ys) : rd (Dr W) b off (n + k) (xs ++ ys) := by
 obtain ⟨c, T, fz, e1, l1, rfl⟩ := h1
 obtain ⟨c', T', fz', e2, l2, rfl⟩ := h2
 have : (Obj.cells c T fz) = Obj.cells c' T' fz' := Option.some.inj (e1.symm.trans e2)
 cases this
 refine ⟨c, T, fz, e1, by omega, ?_⟩
 rw [← List.drop_drop, List.take_add]
theorem Av4 {α : Type} {e' : α → List Value} {sz b off : Nat} (cL : ∀ z, (e' z).length = sz) : ∀ (zs : List α), 0 < zs.length → (∀ i (h : i < zs.length), rd (Dr W) b (off + i * sz) sz (e' zs[i])) → rd (Dr W) b off (zs.length * sz) (zs.flatMap e') := by
 intro zs
 induction zs generalizing off with
 | nil => intro h; exact absurd h (by simp)
 | cons z zs ih =>
  intro _ hr
  have h0 := hr 0 (by simp)
  simp only [Nat.zero_mul, Nat.add_zero, List.getElem_cons_zero] at h0
  cases hz : zs with
  | nil => simpa [hz] using h0
  | cons z' zs' =>
   have h1 := ih (off := off + sz) (by rw [hz]; simp) (fun i hi => by
    have := hr (i + 1) (by simpa using hi)
    rw [Nat.succ_mul] at this
    rw [show off + sz + i * sz = off + (i * sz + sz) by omega]
    simpa using this)
   have := Av3 h0 h1
   rw [hz] at this
   simpa [Nat.succ_mul, Nat.add_comm, Nat.add_left_comm] using this
theorem O6 {e : TypeId} {ds : List (DataW H)} (h : (DataW.weightsAll P e ds).all (· ≤ reachBytes) = true) : ∀ d ∈ ds, (d.weights P e).all (· ≤ reachBytes) = true := by
 induction ds with
 | nil => intro d hd; cases hd
 | cons d ds ih =>
  rw [DataW.weightsAll, List.all_append, Bool.and_eq_true] at h
  intro d' hd
  rcases List.mem_cons.1 hd with rfl | hd
  ·exact h.1
  ·exact ih h.2 d' hd
theorem J7 {α : Type} {e' : α → List Value} {Q : α → Prop} {t e : TypeId} {sz m : Nat} {v : Value} {x : DataW H × List MemPlace} (ht : P.underlying t = some (.slice e)) (hc : P.cellsOf e = sz) (hpos : 0 < sz) (ed : 0 < P.bytesOf e) (cL : ∀ z, (e' z).length = sz)
  (h : DataW.trod enc P W base sp held m t [v] = some x) (hw : (x.1.weights P t).all (· ≤ reachBytes) = true)
  (fV : ∀ m cs y, DataW.trod enc P W base sp held m e cs = some y → (y.1.weights P e).all (· ≤ reachBytes) = true → ∃ z, cs = e' z ∧ Q z) :
  ∃ (zs : List α) (a : Option Addr) (c : Nat), v = .slice a zs.length c ∧ rdS (Dr W) sz a zs.length (zs.flatMap e') ∧ zs.length ≤ reachBytes ∧ ∀ z ∈ zs, Q z := by
 cases m with
 | zero => simp [DataW.trod] at h
 | succ m =>
  unfold DataW.trod at h
  rw [ht] at h
  split at h <;> (try (cases h; done)) <;> (try (rename_i hu _ _; cases hu; done)) <;> (try (rename_i hu _; cases hu; done)) <;> (try (rename_i hu; cases hu; done))
  ·rename_i hv
   simp only [List.cons.injEq, and_true] at hv
   exact ⟨[], none, 0, hv, .inl ⟨by simp, rfl⟩, Nat.zero_le _, fun z hz => by cases hz⟩
  ·rename_i e0 a len cap hu hv
   cases hu
   simp only [List.cons.injEq, and_true] at hv
   subst hv
   split at h
   ·rename_i jW
    simp only [Option.bind_eq_some_iff] at h
    obtain ⟨elems, he, h⟩ := h
    obtain ⟨rest, _, h⟩ := Option.map_eq_some_iff.1 h
    subst h
    obtain ⟨iu, jh⟩ := J6 he
    rw [List.length_range] at iu
    rw [hc] at jh
    dsimp only at hw
    unfold DataW.weights at hw
    rw [ht] at hw
    dsimp only at hw
    rw [List.all_cons, Bool.and_eq_true, List.all_append, Bool.and_eq_true] at hw
    obtain ⟨aq, dM, _⟩ := hw
    have dH : len ≤ reachBytes := by
     have h1 : (elems.length + rest.length) * P.bytesOf e ≤ reachBytes := by simpa using aq
     have h2 : elems.length * 1 ≤ (elems.length + rest.length) * P.bytesOf e := Nat.mul_le_mul (by omega) ed
     omega
    have hz : ∀ i : Fin len, ∃ z, W.cells? base (a.add (i.1 * sz)) sz = some (e' z) ∧ Q z := fun i => by
     obtain ⟨y, hy, dj⟩ := jh i.1 (by simp)
     rw [List.getElem_range] at hy
     simp only [Option.bind_eq_some_iff] at hy
     obtain ⟨cs, cy, hy⟩ := hy
     have lA : y ∈ elems := List.mem_of_getElem? dj
     obtain ⟨z, rfl, hq⟩ := fV _ _ _ hy (O6 dM y.1 (List.mem_map.2 ⟨y, lA, rfl⟩))
     exact ⟨z, cy, hq⟩
    obtain ⟨zs, hzs⟩ : ∃ zs, zs = List.ofFn fun i : Fin len => Classical.choose (hz i) := ⟨_, rfl⟩
    have aG : zs.length = len := by rw [hzs]; simp
    have hall : ∀ i (h : i < zs.length), W.cells? base (a.add (i * sz)) sz = some (e' zs[i]) ∧ Q zs[i] := fun i hi => by
     subst hzs
     simp only [List.getElem_ofFn]
     exact Classical.choose_spec (hz ⟨i, by simpa using hi⟩)
    refine ⟨zs, some a, cap, by rw [aG], ?_, by omega, fun z uO => ?_⟩
    ·by_cases h0 : zs.length = 0
     ·refine .inl ⟨by rw [h0]; simp, ?_⟩
      rw [List.length_eq_zero_iff.1 h0]; rfl
     ·obtain ⟨b, off, fD, _⟩ := Ww (hall 0 (by omega)).1 hpos
      rw [Nat.zero_mul] at fD
      have my : a = ⟨b, off, none⟩ := by rw [← fD]; simp [Addr.add]
      refine .inr ⟨b, off, by rw [my], Av4 cL zs (by omega) fun i hi => ?_⟩
      obtain ⟨b', off', mz, hr⟩ := Ww (hall i hi).1 hpos
      rw [my, Eo] at mz
      cases mz
      exact hr
    ·obtain ⟨i, hi, rfl⟩ := List.mem_iff_getElem.1 uO
     exact (hall i hi).2
   ·cases h
theorem Aa2 {t : TypeId} {m : Nat} {cs : List Value} {x : DataW H × List MemPlace} (ht : P.underlying t = some (.int .i64)) (h : DataW.trod enc P W base sp held m t cs = some x) : ∃ n, cs = [vi n] := by
 cases m with
 | zero => simp [DataW.trod] at h
 | succ m =>
  unfold DataW.trod at h
  rw [ht] at h
  split at h <;> (try (cases h; done)) <;> (try (rename_i hu _ _; cases hu; done)) <;> (try (rename_i hu _; cases hu; done)) <;> (try (rename_i hu; cases hu; done))
  rename_i k1 k2 n1 hu
  cases hu
  split at h
  ·rename_i hk
   obtain ⟨rfl, _⟩ := hk
   exact ⟨n1, rfl⟩
  ·cases h
theorem Vk {W' : World} (hf : ∀ b, b < W.heap.size → W'.heap[b]? = W.heap[b]?) {p : MemPlace} (hp : p.block < W.heap.size) : W.sameAt W' p := by
 cases p with
 | cell b off => simp only [World.sameAt, World.cell?, hf b hp]
 | map b => exact hf b hp
theorem Lq {W' : World} (K : Kids P (· < P.types.size)) (aN : ∀ {t e : TypeId}, t < P.types.size → P.underlying t = some (.slice e) → 0 < P.cellsOf e) (hf : ∀ b, b < W.heap.size → W'.heap[b]? = W.heap[b]?) {sp' : Nat → Bool} :
  ∀ {ts : List TypeId} {vs : List Value} {ds : List (DataW H)} {ps : List MemPlace}, (∀ t ∈ ts, t < P.types.size) → DataW.TrodAll enc P W 0 (fun _ => true) true ts vs ds ps → (∀ p ∈ ps, p.block < W.heap.size) → (∀ p ∈ ps, sp' p.block = true) → DataW.TrodAll enc P W' 0 sp' true ts vs ds ps
 | [], [], [], ps, _, h, _, _ => h
 | t :: ts, v :: vs, d :: ds, ps, iW, h, hb, hs => by
  obtain ⟨p, q, ⟨m, h1⟩, h2, rfl⟩ := h
  refine ⟨p, q, ⟨m, DataW.trod_stays K aN (fun h => by cases h) (iW t (by simp)) h1 (fun r hr => Vk hf (hb r (by simp [hr]))) (fun r hr => hs r (by simp [hr]))⟩, ?_, rfl⟩
  exact Lq K aN hf (fun t ht => iW t (by simp [ht])) h2 (fun r hr => hb r (by simp [hr])) (fun r hr => hs r (by simp [hr]))
theorem Con.at2 {f : FuncId} {args : Array Value} {Φ : Value → Aa → Own → Prop} (h : Con P f args (Dr W) [] Φ) : Calls P f args W fun e W' => ∃ v, e = .returned v ∧ (∃ M' G', Φ v M' G') ∧ W.keptBut W' (fun _ => False) ∧ ∀ b, b < W.heap.size → W'.heap[b]? = W.heap[b]? := by
 intro cs
 obtain ⟨e, w', fr, ⟨v, he, M', G', h1, h2⟩, r⟩ := h.2 W (St.enter (G := []) (fun b o hb => hb) (by simp) (by simp) (by simp)) cs
 exact ⟨e, w', fr, ⟨v, he, ⟨M', G', h2⟩, Aa1 h1, fun b hb => h1.frame b hb (by simp)⟩, r⟩
end
end Go.EV

namespace Go.EV
open Go.Proofs Go.ChangeShapes
theorem Ja {α β : Type} (f : α → β) : ∀ zs : List α, zs.flatMap (fun z => [f z]) = zs.map f
 | [] => rfl
 | z :: zs => by rw [List.flatMap_cons, Ja f zs]; rfl
section
variable {H : Type} {enc : TypeId × Value → H} {W : World} {sp : Nat → Bool} {held : Bool}
theorem Oi : (Tryz.prog).cellsOf 3 = 1 := by kernel_rfl
theorem Wx : (Tryz.prog).cellsOf 83 = 5 := by kernel_rfl
theorem Aa3 : (Tryz.prog).cellsOf 70 = 1 := by kernel_rfl
theorem Aa4 : (Tryz.prog).cellsOf 22 = 1 := by kernel_rfl
theorem T1 : (Tryz.prog).cellsOf 24 = 1 := by kernel_rfl
theorem Ae9 : 0 < (Tryz.prog).bytesOf 83 := of_decide_eq_true (by kernel_rfl)
theorem Aa5 : 0 < (Tryz.prog).bytesOf 70 := of_decide_eq_true (by kernel_rfl)
theorem Aa6 : 0 < (Tryz.prog).bytesOf 3 := of_decide_eq_true (by kernel_rfl)
set_option maxRecDepth 100000 in
theorem Ey6 {m : Nat} {cs : List Value} {y : DataW H × List MemPlace} (h : DataW.trod enc Tryz.prog W 0 sp held m 83 cs = some y) : ∃ o : OpV, cs = Bc o ∧ True := by
 obtain ⟨xs, n, _, _, hl, gN, hf⟩ := DataW.trod_struct Tryz.underlying83 h
 rw [Wx] at hl
 have uP : xs.length = 5 := gN
 have key : ∀ i : Nat, ∀ f : Field, i < 5 → (show Array Field from _)[i]? = some f → f.type = 3 → ∃ k, ((cs.drop f.offset).take 1) = [vi k] := fun i f hi e ht => by
  have h1 := hf i f e
  rw [ht, Oi] at h1
  obtain ⟨y, hy⟩ : ∃ y, xs[i]? = some y := ⟨xs[i], List.getElem?_eq_getElem (by omega)⟩
  rw [hy] at h1
  exact Aa2 Tryz.underlying3 h1
 obtain ⟨k0, e0⟩ := key 0 _ (by decide) rfl rfl
 obtain ⟨k1, e1⟩ := key 1 _ (by decide) rfl rfl
 obtain ⟨k2, e2⟩ := key 2 _ (by decide) rfl rfl
 obtain ⟨k3, e3⟩ := key 3 _ (by decide) rfl rfl
 obtain ⟨k4, e4⟩ := key 4 _ (by decide) rfl rfl
 match cs, hl with
 | [c0, c1, c2, c3, c4], _ =>
  refine ⟨⟨k0, k1, k2, k3, k4⟩, ?_, trivial⟩
  simp at e0 e1 e2 e3 e4
  simp [e0, e1, e2, e3, e4]
set_option maxRecDepth 100000 in
theorem Cs4 {m : Nat} {cs : List Value} {y : DataW H × List MemPlace} (hl : cs.length = 1) (h : DataW.trod enc Tryz.prog W 0 sp held m 70 cs = some y) (hw : (y.1.weights Tryz.prog 70).all (· ≤ reachBytes) = true) :
  ∃ z : Value × List OpV, cs = [z.1] ∧ Sl (Dr W) 5 Bc z.1 z.2 ∧ z.2.length ≤ reachBytes := by
 match cs, hl with
 | [v], _ =>
  obtain ⟨zs, a, c, rfl, h1, h2, _⟩ := J7 (e' := Bc) (Q := fun _ => True) Tryz.underlying70 Wx (by decide) Ae9 (fun _ => rfl) h hw (fun m cs y hy _ => Ey6 hy)
  exact ⟨(_, zs), rfl, ⟨a, c, rfl, h1⟩, h2⟩
set_option maxRecDepth 100000 in
theorem Ix {t e : TypeId} {m : Nat} {cs : List Value} {y : DataW H × List MemPlace} (ht : (Tryz.prog).underlying t = some (.slice e)) (h : DataW.trod enc Tryz.prog W 0 sp held m t cs = some y) : cs.length = 1 := by
 cases m with
 | zero => simp [DataW.trod] at h
 | succ m =>
  unfold DataW.trod at h
  rw [ht] at h
  split at h <;> (try (cases h; done)) <;> (try (rename_i hu _ _; cases hu; done)) <;> (try (rename_i hu _; cases hu; done)) <;> (try (rename_i hu; cases hu; done)) <;> rfl
set_option maxRecDepth 100000 in
theorem Aa7 {m : Nat} {cs : List Value} {y : DataW H × List MemPlace} (h : DataW.trod enc Tryz.prog W 0 sp held m 24 cs = some y) (hw : (y.1.weights Tryz.prog 24).all (· ≤ reachBytes) = true) :
  ∃ s ts, cs = [s] ∧ Em (Dr W) 5 Bc s ts ∧ ts.length ≤ reachBytes ∧ ∀ t ∈ ts, t.length ≤ reachBytes := by
 obtain ⟨y0, n, rfl, hl, h0⟩ := ChangeShapes.trod_struct1 Tryz.underlying24 h
 rw [T1] at hl
 match cs, hl with
 | [s], _ =>
  unfold DataW.weights at hw
  rw [Tryz.underlying24] at hw
  simp only [List.map_cons, List.map_nil, DataW.weightsEach, List.append_nil] at hw
  have h1 : DataW.trod enc Tryz.prog W 0 sp held n 22 [s] = some y0 := by
   have := h0
   rw [show (Tryz.prog).cellsOf (Field.type _) = 1 from Aa4] at this
   exact this
  obtain ⟨zs, a, c, rfl, h2, h3, h4⟩ := J7 (e' := fun z : Value × List OpV => [z.1]) (Q := fun z => Sl (Dr W) 5 Bc z.1 z.2 ∧ z.2.length ≤ reachBytes) Tryz.underlying22 Aa3 (by decide) Aa5 (fun _ => rfl) h1 hw (fun m cs y hy fO => Cs4 (Ix Tryz.underlying70 hy) hy fO)
  refine ⟨_, zs.map (·.2), rfl, ⟨a, c, zs.map (·.1), by simp, by simp, ?_, ?_⟩, by simpa using h3, ?_⟩
  ·have e : zs.flatMap (fun z : Value × List OpV => [z.1]) = zs.map (·.1) := Ja _ zs
   rw [e] at h2
   rw [List.length_map]
   exact h2
  ·intro i hi aA
   simp only [List.getElem_map]
   exact (h4 _ (List.getElem_mem _)).1
  ·intro t ht
   obtain ⟨z, hz, rfl⟩ := List.mem_map.1 ht
   exact (h4 z hz).2
end
set_option maxRecDepth 100000 in
theorem Fe5 : Kids Tryz.prog (· < (Tryz.prog).types.size) := kids_rows (by kernel_rfl) (by kernel_rfl)
set_option maxRecDepth 100000 in
theorem Af0 : ((List.range (Tryz.prog).types.size).all fun t => match (Tryz.prog).underlying t with | some (.slice e) => decide (0 < (Tryz.prog).cellsOf e) | _ => true) = true := by kernel_rfl
theorem Aa8 {t e : TypeId} (ht : t < (Tryz.prog).types.size) (h : (Tryz.prog).underlying t = some (.slice e)) : 0 < (Tryz.prog).cellsOf e := by
 have := List.all_eq_true.1 Af0 t (List.mem_range.2 ht)
 rw [h] at this
 simpa using this
end Go.EV

namespace Go.EV
open Go.Proofs Go.ChangeShapes
section
variable {H : Type} {enc : TypeId × Value → H} {P : Program} {W : World} {base : Nat} {sp : Nat → Bool} {held : Bool}
theorem X0 {t e : TypeId} {m : Nat} {v : Value} {x : DataW H × List MemPlace} (ht : P.underlying t = some (.slice e))
  (h : DataW.trod enc P W base sp held m t [v] = some x) (hw : (x.1.weights P t).all (· ≤ reachBytes) = true) : ∃ a n c, v = .slice a n c ∧ n ≤ c ∧ n * P.bytesOf e ≤ reachBytes := by
 cases m with
 | zero => simp [DataW.trod] at h
 | succ m =>
  unfold DataW.trod at h
  rw [ht] at h
  split at h <;> (try (cases h; done)) <;> (try (rename_i hu _ _; cases hu; done)) <;> (try (rename_i hu _; cases hu; done)) <;> (try (rename_i hu; cases hu; done))
  ·rename_i hv
   simp only [List.cons.injEq, and_true] at hv
   exact ⟨none, 0, 0, hv, Nat.le_refl _, by simp⟩
  ·rename_i e0 a len cap hu hv
   cases hu
   simp only [List.cons.injEq, and_true] at hv
   subst hv
   split at h
   ·rename_i jW
    simp only [Option.bind_eq_some_iff] at h
    obtain ⟨elems, he, h⟩ := h
    obtain ⟨rest, _, h⟩ := Option.map_eq_some_iff.1 h
    subst h
    obtain ⟨iu, jh⟩ := J6 he
    rw [List.length_range] at iu
    dsimp only at hw
    unfold DataW.weights at hw
    rw [ht] at hw
    dsimp only at hw
    rw [List.all_cons, Bool.and_eq_true, List.all_append, Bool.and_eq_true] at hw
    obtain ⟨aq, dM, _⟩ := hw
    have h1 : (elems.length + rest.length) * P.bytesOf e ≤ reachBytes := by simpa using aq
    refine ⟨_, _, _, rfl, ?_, ?_⟩
    ·exact jW.2.1
    ·rw [← iu]
     exact Nat.le_trans (Nat.mul_le_mul_right _ (Nat.le_add_right _ _)) h1
   ·cases h
theorem Av5 {t : TypeId} {m : Nat} {cs : List Value} {x : DataW H × List MemPlace} (ht : P.underlying t = some .bool) (h : DataW.trod enc P W base sp held m t cs = some x) : ∃ n, cs = [vb n] := by
 cases m with
 | zero => simp [DataW.trod] at h
 | succ m =>
  unfold DataW.trod at h
  rw [ht] at h
  split at h <;> (try (cases h; done)) <;> (try (rename_i hu _ _; cases hu; done)) <;> (try (rename_i hu _; cases hu; done)) <;> (try (rename_i hu; cases hu; done))
  exact ⟨_, rfl⟩
end
section
variable {H : Type} {enc : TypeId × Value → H} {W : World} {sp : Nat → Bool} {held : Bool}
theorem X1 : (Tryz.prog).cellsOf 4 = 1 := by kernel_rfl
theorem Kr : (Tryz.prog).cellsOf 34 = 1 := by kernel_rfl
theorem Vl : (Tryz.prog).cellsOf 35 = 1 := by kernel_rfl
theorem Vm : (Tryz.prog).cellsOf 26 = 1 := by kernel_rfl
theorem Qe : (Tryz.prog).cellsOf 45 = 4 := by kernel_rfl
theorem X2 : 0 < (Tryz.prog).bytesOf 4 := of_decide_eq_true (by kernel_rfl)
theorem X3 : 0 < (Tryz.prog).bytesOf 34 := of_decide_eq_true (by kernel_rfl)
theorem X4 : (Tryz.prog).bytesOf 3 = 8 := by kernel_rfl
theorem Rz {m : Nat} {v : Value} {x : DataW H × List MemPlace} (h : DataW.trod enc Tryz.prog W 0 sp held m 34 [v] = some x) (hw : (x.1.weights Tryz.prog 34).all (· ≤ reachBytes) = true) :
  ∃ zs : List Int, SlC (Dr W) 1 ei v zs ∧ zs.length * 8 ≤ reachBytes := by
 obtain ⟨zs, a, c, rfl, h1, h2, _⟩ := J7 (e' := ei) (Q := fun _ => True) Tryz.underlying34 Oi (by decide) Aa6 (fun _ => rfl) h hw (fun m cs y hy _ => by obtain ⟨n, rfl⟩ := Aa2 Tryz.underlying3 hy; exact ⟨n, rfl, trivial⟩)
 obtain ⟨a', n', c', e1, h3, h4⟩ := X0 Tryz.underlying34 h hw
 cases e1
 rw [X4] at h4
 exact ⟨zs, ⟨a, c, rfl, h3, h1⟩, h4⟩
theorem Af1 {m : Nat} {v : Value} {x : DataW H × List MemPlace} (h : DataW.trod enc Tryz.prog W 0 sp held m 35 [v] = some x) (hw : (x.1.weights Tryz.prog 35).all (· ≤ reachBytes) = true) :
  ∃ zs : List Bool, Sl (Dr W) 1 eb v zs ∧ zs.length ≤ reachBytes := by
 obtain ⟨zs, a, c, rfl, h1, h2, _⟩ := J7 (e' := eb) (Q := fun _ => True) Tryz.underlying35 X1 (by decide) X2 (fun _ => rfl) h hw (fun m cs y hy _ => by obtain ⟨n, rfl⟩ := Av5 Tryz.underlying4 hy; exact ⟨n, rfl, trivial⟩)
 exact ⟨zs, ⟨a, c, rfl, h1⟩, h2⟩
set_option maxRecDepth 100000 in
theorem Af2 {m : Nat} {v : Value} {x : DataW H × List MemPlace} (h : DataW.trod enc Tryz.prog W 0 sp held m 26 [v] = some x) (hw : (x.1.weights Tryz.prog 26).all (· ≤ reachBytes) = true) :
  ∃ zs : List (List Int), C7 (Dr W) 1 ei v zs ∧ zs.length ≤ reachBytes ∧ ∀ l ∈ zs, l.length * 8 ≤ reachBytes := by
 obtain ⟨zs, a, c, rfl, h2, h3, h4⟩ := J7 (e' := fun z : Value × List Int => [z.1]) (Q := fun z => SlC (Dr W) 1 ei z.1 z.2 ∧ z.2.length * 8 ≤ reachBytes) Tryz.underlying26 Kr (by decide) X3 (fun _ => rfl) h hw (fun m cs y hy fO => by
  match cs, Ix Tryz.underlying34 hy with
  | [w], _ =>
   obtain ⟨zs, h1, h2⟩ := Rz hy fO
   exact ⟨(w, zs), rfl, h1, h2⟩)
 refine ⟨zs.map (·.2), ⟨a, c, zs.map (·.1), by simp, by simp, ?_, ?_⟩, by simpa using h3, ?_⟩
 ·have e : zs.flatMap (fun z : Value × List Int => [z.1]) = zs.map (·.1) := Ja _ zs
  rw [e] at h2
  rw [List.length_map]
  exact h2
 ·intro i hi aA
  simp only [List.getElem_map]
  exact (h4 _ (List.getElem_mem _)).1
 ·intro t ht
  obtain ⟨z, hz, rfl⟩ := List.mem_map.1 ht
  exact (h4 z hz).2
set_option maxRecDepth 100000 in
theorem Av6 {m : Nat} {cs : List Value} {y : DataW H × List MemPlace} (h : DataW.trod enc Tryz.prog W 0 sp held m 45 cs = some y) (hw : (y.1.weights Tryz.prog 45).all (· ≤ reachBytes) = true) :
  ∃ e, IsX (Dr W) (.agg cs.toArray) e ∧ XSz e := by
 obtain ⟨xs, n, _, e, hl, gN, hf⟩ := DataW.trod_struct Tryz.underlying45 h
 subst e
 rw [Qe] at hl
 have jX : xs.length = 4 := gN
 have qj : reachBytes ≤ 140737488355328 := by decide
 match xs, jX with
 | [y0, y1, y2, y3], _ =>
  have h0 := hf 0 _ rfl
  have h1 := hf 1 _ rfl
  have h2 := hf 2 _ rfl
  have h3 := hf 3 _ rfl
  match cs, hl with
  | [c0, c1, c2, c3], _ =>
   have k0 : DataW.trod enc Tryz.prog W 0 sp held n 34 [c0] = some y0 := by
    rw [show (Tryz.prog).cellsOf (Field.type _) = 1 from Kr] at h0; exact h0
   have k1 : DataW.trod enc Tryz.prog W 0 sp held n 35 [c1] = some y1 := by
    rw [show (Tryz.prog).cellsOf (Field.type _) = 1 from Vl] at h1; exact h1
   have k2 : DataW.trod enc Tryz.prog W 0 sp held n 26 [c2] = some y2 := by
    rw [show (Tryz.prog).cellsOf (Field.type _) = 1 from Vm] at h2; exact h2
   have k3 : DataW.trod enc Tryz.prog W 0 sp held n 34 [c3] = some y3 := by
    rw [show (Tryz.prog).cellsOf (Field.type _) = 1 from Kr] at h3; exact h3
   unfold DataW.weights at hw
   rw [Tryz.underlying45] at hw
   simp only [List.map_cons, List.map_nil, DataW.weightsEach, List.all_append, Bool.and_eq_true] at hw
   obtain ⟨w0, w1, w2, w3, _⟩ := hw
   obtain ⟨f, gS, nT⟩ := Rz k0 w0
   obtain ⟨d, kg, iJ⟩ := Af1 k1 w1
   obtain ⟨o, bF, bD, pH⟩ := Af2 k2 w2
   obtain ⟨g, iz, un⟩ := Rz k3 w3
   exact ⟨⟨f, d, o, g⟩, ⟨c0, c1, c2, c3, rfl, gS.sl, kg, bF, iz.sl⟩, ⟨by dsimp only; omega, by dsimp only; omega, by dsimp only; omega, by dsimp only; omega, fun l hl => Nat.le_trans (pH l hl) qj⟩⟩
end
end Go.EV
