/- Part of the proof of a statement about executions of litmus programs: walks and laws. -/
import Derived.Test.YtmgnpoleilcjoaaGreatVPae
import Derived.Test.YtmgnpoleilcjoaaGreatVPad
import Derived.Shelf.SortG.Plain
import Derived.Shelf.SortG.SortNone
import Derived.Shelf.SlGeneric
import Derived.Ground.SlgnProg
import Derived.Test.YtmgnpoleilcjoaaGreatVPac
import Derived.Test.YtmgnpoleilcjoaaGreatProg
import Derived.Test.YtmgnpoleilcjoaaGreatVPab
import Derived.WalkKit
import Derived.ProofKit
import Derived.OpenShut
import Derived.ChangeStays
import Derived.ChangeBears
import Derived.HandedShaped
import Derived.Test.YtmgnpoleilcjoaaGreatRows
set_option maxRecDepth 8000
set_option linter.unusedSimpArgs false
set_option linter.unusedVariables false
set_option linter.unusedSectionVars false
namespace Go.EV
open Go.Proofs
abbrev rkG (s : Rk) (rb lb kb fb : Nat) : Own :=
 [(fb, Cl 4 (s.f.map vb)), (kb, Cl 4 (s.k.map vb)), (lb, Cl 3 (s.l.map vi)), (rb, Cl 3 (s.r.map vi))]
theorem Ad2 {p : List Ev} {i : Nat} {s : Rk} {n : Nat} (h : s.Len n) : (Ps p i s).Len n := by
 unfold Ps
 refine ⟨h.r, ?_, h.k, by simp [h.f]⟩
 show List.length (if _ then _ else _) = n
 split
 ·simp [h.l]
 ·split <;> simp [h.l]
theorem Pu {p : List Ev} {f : List Int} {i : Nat} {s : Rk} {n : Nat} (h : s.Len n) : (Cn p f i s).Len n := by
 unfold Cn
 split
 ·exact h
 ·have h1 : (Bt f i s).Len n := ⟨by unfold Bt; dsimp only; split <;> simp [h.r], h.l, by simp [Bt, h.k], h.f⟩
  unfold Fm
  split
  ·exact ⟨h1.r, by simp [h1.l], h1.k, by simp [h1.f]⟩
  ·exact h1
theorem F0 {g : Nat → Rk → Rk} {n : Nat} (hg : ∀ i s, s.Len n → (g i s).Len n) : ∀ m {s : Rk}, s.Len n → (Af g m s).Len n
 | 0, _, h => h
 | m + 1, _, h => hg m _ (F0 hg m h)
theorem Ad3 (n : Nat) : (⟨List.replicate n 0, List.replicate n 0, List.replicate n false, List.replicate n false⟩ : Rk).Len n := ⟨by simp, by simp, by simp, by simp⟩
set_option maxHeartbeats 4000000 in
theorem La {C : Cx Tryz.prog} {k : List RItem} {p : List Ev} {N : Aa} {pb po pc xb rb lb kb fb r a : Nat} {t : Rk} (hp : p.length ≤ 16) (ha' : a < p.length)
  (hpc : rd N pb (po + a * 6) 6 (H5 (evAt p a))) (hls : t.Len p.length) (hk : (evAt p a).op.kind = 2)
  (ih4 : EV C [0, 1, 3, 4, 5, 6, 7, 8, 9, 10, 11, 12, 13, 14, 45] k [(0, .slice (some ⟨pb, po, none⟩) p.length pc), (3, pv xb 0), (7, A8 rb p.length p.length), (8, A8 lb p.length p.length), (9, A8 kb p.length p.length), (10, A8 fb p.length p.length), (13, vi r), (14, vi (a + 1 : Nat))] N (rkG (Fm p a t) rb lb kb fb)) :
  EV C [0, 1, 3, 4, 5, 6, 7, 8, 9, 10, 11, 12, 13, 14, 45] (.code (.any U5) :: .code (.reg Ye) :: .inBlock 6 :: .code (.reg Yf) :: k)
   [(0, .slice (some ⟨pb, po, none⟩) p.length pc), (3, pv xb 0), (7, A8 rb p.length p.length), (8, A8 lb p.length p.length), (9, A8 kb p.length p.length), (10, A8 fb p.length p.length), (13, vi r), (14, vi a)] N (rkG t rb lb kb fb) := by
 have hvv : rd N pb (po + a * 6 + 1 + 2) 1 [vi (evAt p a).op.v] := hpc.pt 3 1 (by omega) rfl
 have hlr := hls.r
 have hll := hls.l
 have hlk := hls.k
 have hlf := hls.f
 have hir : a < t.r.length := by omega
 have hil : a < t.l.length := by omega
 have hif : a < t.f.length := by omega
 have eR : t.r[a]?.getD 0 = t.r[a] := by rw [List.getElem?_eq_getElem hir]; rfl
 rw [Fm, if_pos hk, eR] at ih4
 refine EV.any (t := U5) [(rb, Cl 3 (t.r.map vi))] (List.Sublist.cons _ (List.Sublist.cons _ (List.Sublist.cons _ (List.Sublist.refl _)))) ?_
 simp only [Am, Au, Al, As, reduceIte, Nat.reduceEqDiff]
 repeat' first
   | ((first | refine zo (fun lq hlq => ?_) | refine zl ?_ | refine Exists.intro _ (And.intro (B4 (f := vi) hir) ?_) | fail); try refine nz ?_)
   | (refine Ea (by first | with_reducible assumption | rfl) (fun tq htq => ?_) (fun tq htq => ?_) <;> try refine nz ?_)
   | exact zn
   | (refine And.intro (by omega) ?_)
   | ((first | refine xm ?_ | refine xw ?_ | fail); try refine nz ?_)
   | exact ⟨⟩
   | fail
 refine ⟨by rw [List.length_map]; omega, ?_⟩
 rw [Ao vi t.l hil]
 repeat' first
   | (refine zl ?_; try refine nz ?_)
   | refine zq (fun lq tq hlq htq => ?_)
   | refine zf ?_
   | exact ⟨⟩
   | fail
 repeat' first
   | refine EV.inBlock ?_
   | (refine EV.reg ?_; (conv => (arg 2; whnf)); (repeat first | refine nx ?_ | simp only [Ao, List.length_map, hlf, ha']))
   | (refine And.intro (by omega) ?_)
   | (refine xw ?_; (repeat first | refine nx ?_ | simp only [Ao, List.length_map, hlf, ha']))
   | fail
 refine EV.to ih4 ?_ (List.Sublist.refl _)
 exact eE
set_option maxHeartbeats 4000000 in
theorem Qz {C : Cx Tryz.prog} {k : List RItem} {p : List Ev} {e : Exec} {N : Aa} {pa : Option Addr} {pc xb rb lb kb fb r a : Nat} {t : Rk} {fa : Option Addr} {fc : Nat} (hp : p.length ≤ 16) (ha' : a < p.length) (hfl : e.frm.length = p.length) (hfx : ∀ i, i < p.length → Ae e i < p.length)
  (hx0 : rd N xb 0 1 [.slice fa e.frm.length fc])
  (hfrs : ∀ b, b < p.length → ∃ fb fo, fa = some ⟨fb, fo, none⟩ ∧ rd N fb (fo + b) 1 [vi (Ae e b)])
  (hlocs : ∀ b, b < p.length → ∃ pb po, pa = some ⟨pb, po, none⟩ ∧ rd N pb (po + b * 6) 6 (H5 (evAt p b)))
  (hls : t.Len p.length)
  (ih4 : EV C [0, 1, 3, 4, 5, 6, 7, 8, 9, 10, 11, 12, 13, 14, 45] k [(0, .slice pa p.length pc), (3, pv xb 0), (7, A8 rb p.length p.length), (8, A8 lb p.length p.length), (9, A8 kb p.length p.length), (10, A8 fb p.length p.length), (13, vi r), (14, vi (a + 1 : Nat))] N (rkG (Cn p e.frm a t) rb lb kb fb)) :
  EV C [0, 1, 3, 4, 5, 6, 7, 8, 9, 10, 11, 12, 13, 14, 45] (.code (.seq (.block 6 (.seq (.seq (.reg Af0) (.cond (.t 95) (.exit 6) .skip)) (.seq (.reg Af1) (.seq (.seq (.reg Af2) (.cond (.t 104) (.reg Af3) .skip)) (.seq (.reg Af4) (.cond (.t 122) (.seq (.any U5) (.reg Ye)) .skip)))))) (.reg Yf)) :: k)
   [(0, .slice pa p.length pc), (3, pv xb 0), (7, A8 rb p.length p.length), (8, A8 lb p.length p.length), (9, A8 kb p.length p.length), (10, A8 fb p.length p.length), (13, vi r), (14, vi a)] N (rkG t rb lb kb fb) := by
 obtain ⟨pb, po, rfl, hpc⟩ := hlocs a ha'
 obtain ⟨qb, qo, rfl, hfc⟩ := hfrs a ha'
 have hux := hfx a ha'
 have hkd : rd N pb (po + a * 6 + 1 + 0) 1 [vi (evAt p a).op.kind] := hpc.pt 1 1 (by omega) rfl
 have hvv : rd N pb (po + a * 6 + 1 + 2) 1 [vi (evAt p a).op.v] := hpc.pt 3 1 (by omega) rfl
 simp only [Nat.add_zero] at hkd
 rw [Cn] at ih4
 have hlr := hls.r
 have hll := hls.l
 have hlk := hls.k
 have hlf := hls.f
 have hir : a < t.r.length := by omega
 have hil : a < t.l.length := by omega
 have hik : a < t.k.length := by omega
 have hif : a < t.f.length := by omega
 have eK : t.K a = t.k[a] := by rw [Rk.K, List.getElem?_eq_getElem hik]; rfl
 have efr : Bs e.frm a = Ae e a := rfl
 rw [eK, efr] at ih4
 refine EV.seq ?_
 refine EV.block ?_
 cases hK : t.k[a] with
 | true =>
  rw [hK, if_pos (by simp)] at ih4
  repeat' first
    | refine EV.seq ?_
    | (refine EV.reg ?_; (conv => (arg 2; whnf)); (repeat first | refine nx ?_ | simp only [hK]))
    | (refine Exists.intro _ (And.intro (B4 (f := vb) hik) ?_); (repeat first | refine nx ?_ | simp only [hK]))
    | (refine Az.intro (fun hc => ?_) (fun hc => ?_) <;> try simp only [ne_eq, Bool.not_true, Bool.not_false, not_true_eq_false, not_false_eq_true, reduceCtorEq] at hc <;> try (exfalso; first | exact hc | omega | (simp at hc; done)))
    | (refine cX (fun h => ?_) (fun h => ?_) <;> try exact Ah h)
    | (refine EV.exit rfl ?_)
    | (refine And.intro (by omega) ?_)
    | fail
  refine EV.to ih4 ?_ (List.Sublist.refl _)
  exact eE
 | false =>
  rw [hK, Bool.false_or] at ih4
  by_cases h0 : 0 ≤ Ae e a
  ·obtain ⟨u, hu⟩ : ∃ u : Nat, Ae e a = u := ⟨(Ae e a).toNat, by omega⟩
   rw [hu] at hfc hux
   have huf : u < t.f.length := by omega
   have hul : u < t.l.length := by omega
   have h0t : decide ((0 : Int) ≤ (u : Int)) = true := decide_eq_true (by omega)
   have eF : t.F u = t.f[u] := by rw [Rk.F, List.getElem?_eq_getElem huf]; rfl
   rw [hu, h0t, Bool.true_and, Int.toNat_natCast, eF] at ih4
   cases hF : t.f[u] with
   | false =>
    rw [hF, if_pos (by simp)] at ih4
    repeat' first
      | refine EV.seq ?_
      | (refine EV.reg ?_; (conv => (arg 2; whnf)); (repeat first | refine nx ?_ | simp only [hK, hF, h0t]))
      | with_reducible assumption
      | ((first | refine Exists.intro _ (And.intro (B4 (f := vb) huf) ?_) | refine Exists.intro _ (And.intro (B4 (f := vb) hik) ?_) | fail); (repeat first | refine nx ?_ | simp only [hK, hF, h0t]))
      | (refine Az.merge ?_ (fun hc K' hK => ?_) ?_; rotate_left)
      | (refine cX (fun h => ?_) (fun h => ?_) <;> try exact Ah h)
      | (refine EV.exit rfl ?_)
      | (refine And.intro (by omega) ?_)
      | ((first | refine xm ?_ | refine xn ?_ | fail); (repeat first | refine nx ?_ | simp only [hK, hF, h0t]))
      | fail
    refine EV.to ih4 ?_ (List.Sublist.refl _)
    exact eE
   | true =>
    rw [hF, if_neg (by simp)] at ih4
    have eR : Bt e.frm a t = { t with k := t.k.set a true, r := t.r.set a t.l[u] } := by
     unfold Bt
     rw [efr, hu, if_pos (by omega), Int.toNat_natCast, List.getElem?_eq_getElem hul]; rfl
    rw [eR] at ih4
    repeat' first
      | refine EV.seq ?_
      | refine EV.skip ?_
      | refine EV.inBlock ?_
      | (refine EV.reg ?_; (conv => (arg 2; whnf)); (repeat first | refine nx ?_ | simp only [hK, hF, h0t, Ao, List.length_map, hlr, hll, hlk, hlf, ha']))
      | with_reducible assumption
      | ((first | refine Exists.intro _ (And.intro (B4 (f := vi) hul) ?_) | refine Exists.intro _ (And.intro (B4 (f := vb) huf) ?_) | refine Exists.intro _ (And.intro (B4 (f := vb) hik) ?_) | fail); (repeat first | refine nx ?_ | simp only [hK, hF, h0t, Ao, List.length_map, hlr, hll, hlk, hlf, ha']))
      | (refine Az.merge ?_ (fun hc K' hK => ?_) ?_; rotate_left)
      | (refine cX (fun h => ?_) (fun h => ?_) <;> try exact Ah h)
      | (refine And.intro (by omega) ?_)
      | ((first | refine xm ?_ | refine xn ?_ | fail); (repeat first | refine nx ?_ | simp only [hK, hF, h0t, Ao, List.length_map, hlr, hll, hlk, hlf, ha']))
      | (refine xw ?_; (repeat first | refine nx ?_ | simp only [hK, hF, h0t, Ao, List.length_map, hlr, hll, hlk, hlf, ha']))
      | fail
    ·refine EV.to (La (t := { t with k := t.k.set a true, r := t.r.set a t.l[u] }) hp ha' hpc ⟨by simp [hlr], hll, by simp [hlk], hlf⟩ (by assumption) ih4) ?_ (List.Sublist.refl _)
     exact eE
    ·rw [Fm, if_neg (by assumption)] at ih4
     refine EV.to ih4 ?_ (List.Sublist.refl _)
     exact eE
  ·have h0f : decide ((0 : Int) ≤ Ae e a) = false := decide_eq_false h0
   have eR : Bt e.frm a t = { t with k := t.k.set a true } := by
    unfold Bt
    rw [efr, if_neg h0]
   rw [h0f, Bool.false_and, if_neg (by simp), eR] at ih4
   repeat' first
     | refine EV.seq ?_
     | refine EV.skip ?_
     | refine EV.inBlock ?_
     | (refine EV.reg ?_; (conv => (arg 2; whnf)); (repeat first | refine nx ?_ | simp only [hK, h0f, Ao, List.length_map, hlr, hll, hlk, hlf, ha']))
     | (refine Exists.intro _ (And.intro (B4 (f := vb) hik) ?_); (repeat first | refine nx ?_ | simp only [hK, h0f, Ao, List.length_map, hlr, hll, hlk, hlf, ha']))
     | (refine Az.intro (fun hc => ?_) (fun hc => ?_) <;> try simp only [ne_eq, Bool.not_true, Bool.not_false, not_true_eq_false, not_false_eq_true, reduceCtorEq] at hc <;> try (exfalso; first | exact hc | omega | (simp at hc; done)))
     | (refine cX (fun h => ?_) (fun h => ?_) <;> try exact Ah h)
     | (refine And.intro (by omega) ?_)
     | ((first | refine xm ?_ | refine xn ?_ | fail); (repeat first | refine nx ?_ | simp only [hK, h0f, Ao, List.length_map, hlr, hll, hlk, hlf, ha']))
     | (refine xw ?_; (repeat first | refine nx ?_ | simp only [hK, h0f, Ao, List.length_map, hlr, hll, hlk, hlf, ha']))
     | fail
   ·refine EV.to (La (t := { t with k := t.k.set a true }) hp ha' hpc ⟨hlr, hll, by simp [hlk], hlf⟩ (by assumption) ih4) ?_ (List.Sublist.refl _)
    exact eE
   ·rw [Fm, if_neg (by assumption)] at ih4
    refine EV.to ih4 ?_ (List.Sublist.refl _)
    exact eE
end Go.EV

namespace Go.EV
open Go.Proofs
section
variable {M : Aa}
set_option maxHeartbeats 4000000 in
theorem Ik (p : List Ev) (s : Value) (hs : Sl M 6 H5 s p) (hp : p.length ≤ 16) (e : Exec) (v : Value) (hv : IsX M v e) (hfl : e.frm.length = p.length) (hfx : ∀ i, i < p.length → Ae e i < p.length) :
  Con Tryz.prog 43 #[s, v] M [] fun u M' G' => ∃ rb lb kb, u = .tuple #[A8 rb p.length p.length, A8 lb p.length p.length, A8 kb p.length p.length] ∧ (Bl p e.frm).Len p.length ∧ 
   G' = [(kb, Cl 4 ((Bl p e.frm).k.map vb)), (lb, Cl 3 ((Bl p e.frm).l.map vi)), (rb, Cl 3 ((Bl p e.frm).r.map vi))] := by
 obtain ⟨pa, pc, rfl, hpr⟩ := hs
 obtain ⟨f, d, o, n, rfl, ⟨fa, fc, rfl, hrf⟩, ⟨da, dc, rfl, hrd⟩, ⟨oa, oc, ovs, rfl, hol, hro, hko⟩, ⟨na, nc, rfl, _⟩⟩ := hv
 refine Con.enter Q83_ok (args := [.slice pa p.length pc, .agg #[.slice fa e.frm.length fc, .slice da e.dn.length dc, .slice oa e.ord.length oc, .slice na e.fen.length nc]]) (by simp [Q83]) fun w0 => ?_
 simp only [Q83, A3]
 repeat' first
   | refine EV.seq ?_
   | refine EV.block ?_
   | (refine EV.reg ?_; (conv => (arg 2; whnf)); (repeat first | refine nx ?_ | simp only [A1]))
   | (with_reducible intro b; (repeat first | refine nx ?_ | simp only [A1]))
   | (refine And.intro (by omega) ?_)
   | fail
 obtain ⟨fb, rfl⟩ : ∃ x, x = b := ⟨_, rfl⟩
 obtain ⟨kb, rfl⟩ : ∃ x, x = b := ⟨_, rfl⟩
 obtain ⟨lb, rfl⟩ : ∃ x, x = b := ⟨_, rfl⟩
 obtain ⟨rb, rfl⟩ : ∃ x, x = b := ⟨_, rfl⟩
 obtain ⟨xb, rfl⟩ : ∃ x, x = b := ⟨_, rfl⟩
 refine EV.frz [(xb, Cl 37 [.slice fa e.frm.length fc, .slice da e.dn.length dc, .slice oa e.ord.length oc, .slice na e.fen.length nc])] ?_
 generalize hR : M.add _ = N
 have hMN : M.le N := hR ▸ Aa.le_add _ _
 have hxb : rd N xb 0 4 [.slice fa e.frm.length fc, .slice da e.dn.length dc, .slice oa e.ord.length oc, .slice na e.fen.length nc] := hR ▸ An 0 rfl rfl (by simp)
 clear hR
 have hx0 := hxb.pt 0 1 (by omega) rfl
 simp only [Nat.zero_add] at hx0
 have hpr' := hpr.mono hMN
 have hfrs : ∀ b, b < p.length → ∃ fb fo, fa = some ⟨fb, fo, none⟩ ∧ rd N fb (fo + b) 1 [vi (Ae e b)] := fun b hb => by
  obtain ⟨fb, fo, e1, hat⟩ := Sl.at (sz := 1) (enc := ei) (fun _ => rfl) (by decide) hrf (by omega)
  exact ⟨fb, fo, e1, (Cd hat b (by omega)).mono hMN⟩
 have hlocs : ∀ b, b < p.length → ∃ pb po, pa = some ⟨pb, po, none⟩ ∧ rd N pb (po + b * 6) 6 (H5 (evAt p b)) := fun b hb => by
  obtain ⟨pb, po, e1, hat⟩ := Sl.at (sz := 6) (enc := H5) (fun _ => rfl) (by decide) hpr' (by omega)
  have := hat b hb
  rw [← B5 hb] at this
  exact ⟨pb, po, e1, this⟩
 clear hro hko hrf hpr hpr' hrd
 have hl0 : ∀ m, (Af (Ps p) m ⟨List.replicate p.length 0, List.replicate p.length 0, List.replicate p.length false, List.replicate p.length false⟩).Len p.length := fun m => F0 (fun i s h => Ad2 h) m (Ad3 _)
 refine EV.loopTo (fun a : Nat => ([(0, .slice pa p.length pc), (3, pv xb 0), (7, A8 rb p.length p.length), (8, A8 lb p.length p.length), (9, A8 kb p.length p.length), (10, A8 fb p.length p.length), (11, vi a)], N, rkG (Af (Ps p) a ⟨List.replicate p.length 0, List.replicate p.length 0, List.replicate p.length false, List.replicate p.length false⟩) rb lb kb fb)) (fun a => a ≤ p.length) (fun a => p.length - a) 0 rfl (Nat.zero_le _) ?env1 ?sub1 ?_
 case env1 =>
  exact eE
 case sub1 =>
  simp only [rkG, Af, List.map_replicate]
  exact List.Sublist.refl _
 intro a ha ih
 dsimp only at ha ih ⊢
 refine EV.seq ?_
 refine EV.seq ?_
 repeat' first
   | refine EV.skip ?_
   | refine rg ?_
   | (refine cX (fun h => ?_) (fun h => ?_) <;> try exact Ah h)
   | (refine EV.exit rfl ?_)
   | exact ⟨⟩
   | fail
 ·have ha' : a < p.length := by omega
  have hls := hl0 a
  have ih2 := ih (a + 1) (by omega) (by omega)
  simp only [Af] at ih2
  generalize Af (Ps p) a ⟨List.replicate p.length 0, List.replicate p.length 0, List.replicate p.length false, List.replicate p.length false⟩ = s at *
  obtain ⟨pb, po, rfl, hpc⟩ := hlocs a ha'
  have hlc : rd N pb (po + a * 6 + 1) 5 [vi (evAt p a).op.kind, vi (evAt p a).op.loc, vi (evAt p a).op.v, vi (evAt p a).op.w, vi (evAt p a).op.ord] := hpc.pt 1 5 (by omega) rfl
  have e1 : Ps p a s = ⟨s.r, if (evAt p a).op.kind = 1 then s.l.set a (evAt p a).op.v else if (evAt p a).op.kind = 3 ∨ (evAt p a).op.kind = 4 then s.l.set a (evAt p a).op.w else s.l, s.k, s.f.set a (!decide ((evAt p a).op.kind = 2))⟩ := by simp [Ps]
  rw [e1] at ih2
  clear e1
  generalize (evAt p a).op = o at *
  have hlf := hls.f
  have hll := hls.l
  have hif : a < s.f.length := by omega
  have hil : a < s.l.length := by omega
  repeat' first
    | refine EV.seq ?_
    | refine EV.skip ?_
    | refine EV.block ?_
    | refine EV.inBlock ?_
    | (refine EV.reg ?_; (conv => (arg 2; whnf)); (repeat first | refine nx ?_ | simp only [Ao, List.length_map, hlf, hll, ha']))
    | (refine cX (fun h => ?_) (fun h => ?_) <;> try exact Ah h)
    | (with_reducible intro b; (repeat first | refine nx ?_ | simp only [Ao, List.length_map, hlf, hll, ha']))
    | (refine And.intro (by omega) ?_)
    | ((first | refine xm ?_ | refine xiA rfl ?_ | fail); (repeat first | refine nx ?_ | simp only [Ao, List.length_map, hlf, hll, ha']))
    | (refine xw ?_; (repeat first | refine nx ?_ | simp only [Ao, List.length_map, hlf, hll, ha']))
    | fail
  all_goals
   first
    | rw [if_pos (show o.kind = 1 by assumption)] at ih2
    | rw [if_neg (show ¬ o.kind = 1 by assumption), if_pos (show o.kind = 3 ∨ o.kind = 4 by omega)] at ih2
    | rw [if_neg (show ¬ o.kind = 1 by assumption), if_neg (show ¬ (o.kind = 3 ∨ o.kind = 4) by omega)] at ih2
   refine EV.to ih2 ?_ (List.Sublist.cons _ (List.Sublist.refl _))
   exact eE
 ·have hae : a = p.length := by omega
  subst hae
  have hrk0 : Af (Ps p) p.length ⟨List.replicate p.length 0, List.replicate p.length 0, List.replicate p.length false, List.replicate p.length false⟩ = rk0 p := rfl
  have hlk0 : (rk0 p).Len p.length := hl0 p.length
  rw [hrk0]
  repeat' first
    | refine EV.seq ?_
    | refine EV.block ?_
    | refine rg ?_
    | exact ⟨⟩
    | fail
  obtain ⟨s0, hs0⟩ : ∃ x, x = rk0 p := ⟨_, rfl⟩
  rw [← hs0] at hlk0 ⊢
  have hl1 : ∀ m, (Af (fun _ s => Ib p e.frm s) m s0).Len p.length := fun m => F0 (fun i s h => F0 (fun i s h => Pu h) _ h) m hlk0
  refine EV.loopTo (fun r : Nat => ([(0, .slice pa p.length pc), (3, pv xb 0), (7, A8 rb p.length p.length), (8, A8 lb p.length p.length), (9, A8 kb p.length p.length), (10, A8 fb p.length p.length), (13, vi r)], N, rkG (Af (fun _ s => Ib p e.frm s) r s0) rb lb kb fb)) (fun r => r ≤ p.length + 1) (fun r => p.length + 1 - r) 0 rfl (Nat.zero_le _) ?env2 (List.Sublist.refl _) ?_
  case env2 =>
   exact eE
  intro r hr ih
  dsimp only at hr ih ⊢
  refine EV.seq ?_
  refine EV.seq ?_
  repeat' first
    | refine EV.skip ?_
    | refine rg ?_
    | (refine cX (fun h => ?_) (fun h => ?_) <;> try exact Ah h)
    | (refine EV.exit rfl ?_)
    | exact ⟨⟩
    | fail
  ·have hr' : r ≤ p.length := by omega
   have hls := hl1 r
   have ih2 := ih (r + 1) (by omega) (by omega)
   rw [show Af (fun _ s => Ib p e.frm s) (r + 1) s0 = Ib p e.frm (Af (fun _ s => Ib p e.frm s) r s0) from rfl] at ih2
   generalize Af (fun _ s => Ib p e.frm s) r s0 = s at *
   rw [Ib] at ih2
   have hl2 : ∀ m, (Af (Cn p e.frm) m s).Len p.length := fun m => F0 (fun i s h => Pu h) m hls
   repeat' first
     | refine EV.seq ?_
     | refine EV.block ?_
     | refine rg ?_
     | exact ⟨⟩
     | fail
   refine EV.loopTo (fun a : Nat => ([(0, .slice pa p.length pc), (3, pv xb 0), (7, A8 rb p.length p.length), (8, A8 lb p.length p.length), (9, A8 kb p.length p.length), (10, A8 fb p.length p.length), (13, vi r), (14, vi a)], N, rkG (Af (Cn p e.frm) a s) rb lb kb fb)) (fun a => a ≤ p.length) (fun a => p.length - a) 0 rfl (Nat.zero_le _) ?env3 (List.Sublist.refl _) ?_
   case env3 =>
    exact eE
   intro a ha ih3
   dsimp only at ha ih3 ⊢
   refine EV.seq ?_
   refine EV.seq ?_
   repeat' first
     | refine EV.skip ?_
     | refine EV.inBlock ?_
     | refine rg ?_
     | (refine cX (fun h => ?_) (fun h => ?_) <;> try exact Ah h)
     | (refine EV.exit rfl ?_)
     | exact ⟨⟩
     | fail
   ·have ha' : a < p.length := by omega
    have hls3 := hl2 a
    have ih4 := ih3 (a + 1) (by omega) (by omega)
    simp only [Af] at ih4
    generalize Af (Cn p e.frm) a s = t at *
    refine EV.to (Qz hp ha' hfl hfx hx0 hfrs hlocs hls3 ih4) ?_ (List.Sublist.refl _)
    exact eE
   ·have hae : a = p.length := by omega
    subst hae
    refine EV.to ih2 ?_ (List.Sublist.refl _)
    exact eE
  ·have hre : r = p.length + 1 := by omega
   subst hre
   have hfin : Af (fun _ s => Ib p e.frm s) (p.length + 1) s0 = Bl p e.frm := by subst_vars; rfl
   have hll := hl1 (p.length + 1)
   rw [hfin] at hll ⊢
   repeat' first
     | refine EV.seq ?_
     | refine rg ?_
     | exact ⟨⟩
     | fail
   refine EV.toS (G' := [(kb, Cl 4 ((Bl p e.frm).k.map vb)), (lb, Cl 3 ((Bl p e.frm).l.map vi)), (rb, Cl 3 ((Bl p e.frm).r.map vi))]) (ρ' := [(4, A8 rb p.length p.length), (5, A8 lb p.length p.length), (6, A8 kb p.length p.length)]) ?_ ?env9
   case env9 =>
    exact eE
   (refine rt Q83_ok ?_; try with_reducible exact ⟨⟩)
   exact ⟨_, _, _, rfl, hll, rfl⟩
end
end Go.EV

namespace Go.EV
open Go.Proofs
def Xc (p : List Ev) (e : Exec) : Bool := (List.range p.length).all fun a => (Bl p e.frm).K a
section
variable {M : Aa}
theorem Up (p : List Ev) (s : Value) (hs : Sl M 6 H5 s p) (hp : p.length ≤ 16) (e : Exec) (v : Value) (hv : IsX M v e) (hfl : e.frm.length = p.length) (hfx : ∀ i, i < p.length → Ae e i < p.length) :
  Con Tryz.prog 45 #[s, v] M [] fun u M' _ => (Xc p e = false ∧ u = .tuple #[.slice none 0 0, .slice none 0 0, vb false]) ∨
   (Xc p e = true ∧ ∃ rv lv, u = .tuple #[rv, lv, vb true] ∧ Sl M' 1 ei rv (Bl p e.frm).r ∧ Sl M' 1 ei lv (Bl p e.frm).l) := by
 have hs0 := hs
 have hv0 := hv
 obtain ⟨pa, pc, rfl, hpr⟩ := hs
 obtain ⟨f, d, o, n, rfl, ⟨fa, fc, rfl, hrf⟩, ⟨da, dc, rfl, hrd⟩, ⟨oa, oc, ovs, rfl, hol, hro, hko⟩, ⟨na, nc, rfl, _⟩⟩ := hv
 refine Con.enter Q73_ok (args := [.slice pa p.length pc, .agg #[.slice fa e.frm.length fc, .slice da e.dn.length dc, .slice oa e.ord.length oc, .slice na e.fen.length nc]]) (by simp [Q73]) fun w0 => ?_
 simp only [Q73, A3]
 repeat' first
   | refine EV.seq ?_
   | refine rg ?_
   | ((first | with_reducible intro b | refine xrA rfl ?_ | fail); try refine nx ?_)
   | exact ⟨⟩
   | fail
 refine Con.callS (G1 := []) (Ik p _ hs0 hp e _ hv0 hfl hfx) ?_
 rintro v M1 G1 hM1 ⟨rb, lb, kb, rfl, hlen, rfl⟩
 refine EV.keepS [] ?_
 generalize hR : M1.add _ = N
 have hMN : M.le N := hR ▸ Aa.le_trans hM1 (Aa.le_add _ _)
 have hkr : ∀ a, a < p.length → rd N kb a 1 [vb ((Bl p e.frm).K a)] := fun a ha => by
  have h1 : a < (Bl p e.frm).k.length := by rw [hlen.k]; exact ha
  have h2 := B4 (M := M1) (G := [(kb, Cl 4 ((Bl p e.frm).k.map vb)), (lb, Cl 3 ((Bl p e.frm).l.map vi)), (rb, Cl 3 ((Bl p e.frm).r.map vi))]) (b := kb) (f := vb) h1
  rw [Rk.K, List.getElem?_eq_getElem h1, Option.getD_some]
  rw [← hR]
  exact h2.mono (fun b o h => h.imp id fun h => List.mem_append_left _ h)
 have hlr := hlen.r
 have hll := hlen.l
 have hrr : Sl N 1 ei (A8 rb p.length p.length) (Bl p e.frm).r := ⟨some ⟨rb, 0, none⟩, p.length, by rw [hlr], .inr ⟨rb, 0, rfl, by
  rw [← hR, Av, hlr, Nat.mul_one]
  exact An 2 rfl (by rw [List.drop_zero, List.take_of_length_le (by rw [List.length_map, hlr]; exact Nat.le_refl _)]) (by rw [List.length_map, hlr]; omega)⟩⟩
 have hlw : Sl N 1 ei (A8 lb p.length p.length) (Bl p e.frm).l := ⟨some ⟨lb, 0, none⟩, p.length, by rw [hll], .inr ⟨lb, 0, rfl, by
  rw [← hR, Av, hll, Nat.mul_one]
  exact An 1 rfl (by rw [List.drop_zero, List.take_of_length_le (by rw [List.length_map, hll]; exact Nat.le_refl _)]) (by rw [List.length_map, hll]; omega)⟩⟩
 clear hR
 repeat' first
   | refine EV.seq ?_
   | refine EV.block ?_
   | refine rg ?_
   | exact ⟨⟩
   | fail
 refine EV.loopTo (fun a : Nat => ([(0, .slice pa p.length pc), (7, A8 rb p.length p.length), (8, A8 lb p.length p.length), (9, A8 kb p.length p.length), (10, vi a)], N, [])) (fun a => a ≤ p.length ∧ ∀ x, x < a → (Bl p e.frm).K x = true) (fun a => p.length - a) 0 rfl ⟨Nat.zero_le _, fun x hx => absurd hx (Nat.not_lt_zero _)⟩ ?env1 (List.nil_sublist _) ?_
 case env1 =>
  exact eE
 rintro a ⟨ha, hall⟩ ih
 dsimp only at ha hall ih ⊢
 refine EV.seq ?_
 refine EV.seq ?_
 repeat' first
   | refine EV.skip ?_
   | refine rg ?_
   | (refine cX (fun h => ?_) (fun h => ?_) <;> try exact Ah h)
   | (refine EV.exit rfl ?_)
   | exact ⟨⟩
   | fail
 ·have ha' : a < p.length := by omega
  have hka := hkr a ha'
  have ih2 := fun h => ih (a + 1) ⟨by omega, h⟩ (by omega)
  generalize hK : (Bl p e.frm).K a = y at *
  repeat' first
    | refine EV.seq ?_
    | refine EV.skip ?_
    | refine EV.block ?_
    | refine EV.inBlock ?_
    | refine rg ?_
    | (refine cX (fun h => ?_) (fun h => ?_) <;> try exact Ah h)
    | (refine And.intro (by omega) ?_)
    | (refine xm ?_; try refine nx ?_)
    | exact ⟨⟩
    | fail
  ·have hno : Xc p e = false := by
    unfold Xc
    rw [List.all_eq_false]
    exact ⟨a, List.mem_range.2 ha', by rw [hK]; simpa using h⟩
   (refine rt Q73_ok ?_; try with_reducible exact ⟨⟩)
   first | exact .inl hno | exact .inl ⟨hno, rfl⟩ | exact ⟨hno, rfl⟩
  ·have hy : y = true := by simpa using h
   refine EV.to (ih2 fun x hx => ?_) ?_ (List.Sublist.refl _)
   ·by_cases e1 : x = a
    ·rw [e1, hK]; exact hy
    ·exact hall x (by omega)
   ·exact eE
 ·have hyes : Xc p e = true := by
   unfold Xc
   rw [List.all_eq_true]
   intro x hx
   exact hall x (by have := List.mem_range.1 hx; omega)
  repeat' first
    | refine EV.seq ?_
    | refine rg ?_
    | exact ⟨⟩
    | fail
  (refine rt Q73_ok ?_; try with_reducible exact ⟨⟩)
  exact .inr ⟨hyes, _, _, rfl, hrr, hlw⟩
theorem Sz (p : List Ev) (s : Value) (hs : Sl M 6 H5 s p) (hp : p.length ≤ 16) (e : Exec) (v : Value) (hv : IsX M v e) (hdl : e.dn.length = p.length) (rv kv : Value) (hrv : Sl M 1 ei rv (Bl p e.frm).r) (hkv : Sl M 1 eb kv (Bl p e.frm).k) (hlen : (Bl p e.frm).Len p.length) :
  Aq Tryz.prog 44 #[s, v, rv, kv] M (vb ((List.range p.length).all (Iz p e))) := by
 obtain ⟨pa, pc, rfl, hpr⟩ := hs
 obtain ⟨ra, rc, rfl, hrr⟩ := hrv
 obtain ⟨ka, kc, rfl, hkr⟩ := hkv
 obtain ⟨f, d, o, n, rfl, ⟨fa, fc, rfl, hrf⟩, ⟨da, dc, rfl, hrd⟩, ⟨oa, oc, ovs, rfl, hol, hro, hko⟩, ⟨na, nc, rfl, _⟩⟩ := hv
 rw [hlen.r] at hrr
 rw [hlen.k] at hkr
 refine Con.enter Q89_ok (args := [.slice pa p.length pc, .agg #[.slice fa e.frm.length fc, .slice da e.dn.length dc, .slice oa e.ord.length oc, .slice na e.fen.length nc], .slice ra (Bl p e.frm).r.length rc, .slice ka (Bl p e.frm).k.length kc]) (by simp [Q89]) fun w0 => ?_
 simp only [Q89, A3]
 rw [hlen.r, hlen.k]
 repeat' first
   | refine EV.seq ?_
   | refine EV.block ?_
   | refine rg ?_
   | (with_reducible intro b; try refine nx ?_)
   | exact ⟨⟩
   | fail
 obtain ⟨xb, rfl⟩ : ∃ x, x = b := ⟨_, rfl⟩
 refine EV.frz [(xb, Cl 37 [.slice fa e.frm.length fc, .slice da e.dn.length dc, .slice oa e.ord.length oc, .slice na e.fen.length nc])] ?_
 generalize hR : M.add _ = N
 have hMN : M.le N := hR ▸ Aa.le_add _ _
 have hxb : rd N xb 0 4 [.slice fa e.frm.length fc, .slice da e.dn.length dc, .slice oa e.ord.length oc, .slice na e.fen.length nc] := hR ▸ An 0 rfl rfl (by simp)
 clear hR
 have hx1 := hxb.pt 1 1 (by omega) rfl
 simp only [Nat.zero_add] at hx1
 refine EV.loopTo (fun a : Nat => ([(0, .slice pa p.length pc), (2, .slice ra p.length rc), (3, .slice ka p.length kc), (5, pv xb 0), (8, vb false), (9, vi a)], N, [])) (fun a => a ≤ p.length ∧ ∀ x, x < a → Iz p e x = true) (fun a => p.length - a) 0 rfl ⟨Nat.zero_le _, fun x hx => absurd hx (Nat.not_lt_zero _)⟩ ?env1 (List.nil_sublist _) ?_
 case env1 =>
  exact eE
 rintro a ⟨ha, hall⟩ ih
 dsimp only at ha hall ih ⊢
 refine EV.seq ?_
 refine EV.seq ?_
 repeat' first
   | refine EV.skip ?_
   | refine rg ?_
   | (refine cX (fun h => ?_) (fun h => ?_) <;> try exact Ah h)
   | (refine EV.exit rfl ?_)
   | exact ⟨⟩
   | fail
 ·have ha' : a < p.length := by omega
  have ih2 := fun h => ih (a + 1) ⟨by omega, h⟩ (by omega)
  have hno : Iz p e a = false → (List.range p.length).all (Iz p e) = false := fun h => List.all_eq_false.2 ⟨a, List.mem_range.2 ha', by rw [h]; decide⟩
  have hex : Iz p e a = true → ∀ x, x < a + 1 → Iz p e x = true := fun h x hx => by
   by_cases e1 : x = a
   ·rw [e1]; exact h
   ·exact hall x (by omega)
  have hrr' : rdS N 1 ra (Bl p e.frm).r.length ((Bl p e.frm).r.flatMap ei) := by rw [hlen.r]; exact hrr.mono hMN
  have hkr' : rdS N 1 ka (Bl p e.frm).k.length ((Bl p e.frm).k.flatMap eb) := by rw [hlen.k]; exact hkr.mono hMN
  obtain ⟨pb, po, rfl, hpat⟩ := Sl.at (sz := 6) (enc := H5) (fun _ => rfl) (by decide) (hpr.mono hMN) (by omega)
  obtain ⟨rb, ro, rfl, hrat⟩ := Sl.at (sz := 1) (enc := ei) (fun _ => rfl) (by decide) hrr' (by rw [hlen.r]; omega)
  obtain ⟨kb, ko, rfl, hkat⟩ := Sl.at (sz := 1) (enc := eb) (fun _ => rfl) (by decide) hkr' (by rw [hlen.k]; omega)
  obtain ⟨db, dof, rfl, hdat⟩ := Sl.at (sz := 1) (enc := eb) (fun _ => rfl) (by decide) (hrd.mono hMN) (by omega)
  have hpc := hpat a ha'
  rw [← B5 ha'] at hpc
  have hlc : rd N pb (po + a * 6 + 1) 5 [vi (evAt p a).op.kind, vi (evAt p a).op.loc, vi (evAt p a).op.v, vi (evAt p a).op.w, vi (evAt p a).op.ord] := hpc.pt 1 5 (by omega) rfl
  have hra : rd N rb (ro + a) 1 [vi ((Bl p e.frm).R a)] := by
   have h1 : a < (Bl p e.frm).r.length := by rw [hlen.r]; exact ha'
   have := hrat a h1
   rw [Nat.mul_one] at this
   rw [Rk.R, List.getElem?_eq_getElem h1]; exact this
  have hka : rd N kb (ko + a) 1 [vb ((Bl p e.frm).K a)] := by
   have h1 : a < (Bl p e.frm).k.length := by rw [hlen.k]; exact ha'
   have := hkat a h1
   rw [Nat.mul_one] at this
   rw [Rk.K, List.getElem?_eq_getElem h1]; exact this
  have hda : rd N db (dof + a) 1 [vb (Bx e.dn a)] := by
   have := hdat a (by omega)
   rw [Nat.mul_one] at this
   rw [Bx, List.getElem?_eq_getElem (by omega)]; exact this
  have hwb : Iz p e a = (!(Bl p e.frm).K a || !((decide ((evAt p a).op.kind = 3) && (Bx e.dn a != decide ((Bl p e.frm).R a = (evAt p a).op.v))) || (decide ((evAt p a).op.kind = 4) && Bx e.dn a && decide ((Bl p e.frm).R a ≠ (evAt p a).op.v)))) := rfl
  rw [hwb] at hno hex
  generalize (evAt p a).op = o at *
  generalize (Bl p e.frm).R a = R at *
  generalize (Bl p e.frm).K a = K at *
  generalize Bx e.dn a = D at *
  refine EV.seq ?_
  refine EV.block ?_
  repeat' first
    | refine EV.seq ?_
    | refine EV.skip ?_
    | refine rg ?_
    | (refine cX (fun h => ?_) (fun h => ?_) <;> try exact Ah h)
    | (refine EV.exit rfl ?_)
    | (with_reducible intro b; try refine nx ?_)
    | (refine And.intro (by omega) ?_)
    | (refine xm ?_; try refine nx ?_)
    | (refine xw ?_; refine nx ?_)
    | exact ⟨⟩
    | fail
  ·refine EV.to (ih2 (hex (by simp_all))) ?_ (List.nil_sublist _)
   exact eE
  ·have hKt : K = true := by simpa using h
   subst hKt
   refine EV.any (t := Bf6) [(b, Cl 83 [vi o.kind, vi o.loc, vi o.v, vi o.w, vi o.ord])] (List.Sublist.refl _) ?_
   simp only [Am, Au, Al, As, reduceIte, Nat.reduceEqDiff]
   repeat' first
     | ((refine L3 (by first | with_reducible assumption | rfl) rfl ?_ (fun lq hlq hc => ?_) (fun lq hlq => ?_); rotate_left) <;> (try (exfalso; simp at hc; done)) <;> try refine nz ?_)
     | ((first | refine zo (fun lq hlq => ?_) | refine zl ?_ | fail); try refine nz ?_)
     | refine zf ?_
     | with_reducible rfl
     | (refine And.intro (by omega) ?_)
     | ((first | refine xm ?_ | refine xn ?_ | refine xiA rfl ?_ | fail); try refine nz ?_)
     | exact ⟨⟩
     | fail
   have hbn : (decide (o.kind = 3) && (D != decide (R = o.v)) || decide (o.kind = 4) && D && decide (R ≠ o.v)) = (decide (o.kind = 3) && !(D == decide (R = o.v)) || decide (o.kind = 4) && D && !decide (R = o.v)) := by
    simp [bne]
   rw [hbn] at hno hex
   generalize (decide (o.kind = 3) && !(D == decide (R = o.v)) || decide (o.kind = 4) && D && !decide (R = o.v)) = Y at *
   repeat' first
     | refine EV.seq ?_
     | refine EV.skip ?_
     | refine EV.inBlock ?_
     | refine rg ?_
     | (refine cX (fun h => ?_) (fun h => ?_) <;> try exact Ah h)
     | exact ⟨⟩
     | fail
   ·(refine rt Q89_ok ?_; try with_reducible exact ⟨⟩)
    rw [hno (by rw [h]; rfl)]
   ·refine EV.to (ih2 (hex (by rw [h]; rfl))) ?_ (List.nil_sublist _)
    exact eE
 ·have : (List.range p.length).all (Iz p e) = true := List.all_eq_true.2 fun x hx => hall x (by have := List.mem_range.1 hx; omega)
  repeat' first
    | refine EV.seq ?_
    | refine rg ?_
    | exact ⟨⟩
    | fail
  (refine rt Q89_ok ?_; try with_reducible exact ⟨⟩)
  rw [this]
end
end Go.EV

namespace Go.EV
open Go.Proofs
theorem At3 {p : List Ev} {e : Exec} {a : Nat} : EvR p e a ↔ (Eg (evAt p a).op = false → Ae e a = -2) ∧ (Eg (evAt p a).op = true → -1 ≤ Ae e a ∧ Ae e a < p.length) ∧ ((evAt p a).op.kind = 1 ∨ (evAt p a).op.kind = 2 → Bx e.dn a = true) ∧ (Cq (evAt p a).op = false → Bx e.dn a = false) ∧
  (Eg (evAt p a).op = true → 0 ≤ Ae e a → Bx e.dn (Ae e a).toNat = true ∧ (evAt p (Ae e a).toNat).op.loc = (evAt p a).op.loc ∧ Cq (evAt p (Ae e a).toNat).op = true) :=
 ⟨fun h => ⟨h.out, h.src, h.do1, h.do0, h.src2⟩, fun ⟨a, b, c, d, e⟩ => ⟨a, b, c, d, e⟩⟩
set_option maxHeartbeats 4000000 in
theorem Ra {C : Cx Tryz.prog} {k : List RItem} {p : List Ev} {e : Exec} {N : Aa} {pa : Option Addr} {pc xb : Nat} {fa da : Option Addr} {fc dc : Nat} (hp : p.length ≤ 16) (hkd : ∀ i, i < p.length → 0 ≤ (evAt p i).op.kind ∧ (evAt p i).op.kind ≤ 5) (hfl : e.frm.length = p.length) (hdl : e.dn.length = p.length)
  (hx0 : rd N xb 0 1 [.slice fa e.frm.length fc]) (hx1 : rd N xb 1 1 [.slice da e.dn.length dc])
  (hfrs : ∀ b, b < p.length → ∃ fb fo, fa = some ⟨fb, fo, none⟩ ∧ rd N fb (fo + b) 1 [vi (Ae e b)])
  (hdns : ∀ b, b < p.length → ∃ db dof, da = some ⟨db, dof, none⟩ ∧ rd N db (dof + b) 1 [vb (Bx e.dn b)])
  (hlocs : ∀ b, b < p.length → ∃ pb po, pa = some ⟨pb, po, none⟩ ∧ rd N pb (po + b * 6) 6 (H5 (evAt p b)))
  (hno : ¬ Shape p e → ∀ k ρ G, get ρ 4 = some (vb false) → EV C [0, 1, 3, 4, 5, 6, 7, 8, 9, 10, 11, 12, 13, 14, 15, 16] (.code .ret :: k) ρ N G)
  (key : (∀ a, a < p.length → EvR p e a) → EV C [0, 1, 3, 4, 5, 6, 7, 8, 9, 10, 11, 12, 13, 14, 15, 16] k [(0, .slice pa p.length pc), (3, pv xb 0), (4, vb false), (5, vi (Bi p).length)] N []) :
  EV C [0, 1, 3, 4, 5, 6, 7, 8, 9, 10, 11, 12, 13, 14, 15, 16] (.code (.loop Tx) :: .inBlock 0 :: k) [(6, vi 0), (0, .slice pa p.length pc), (3, pv xb 0), (4, vb false), (5, vi 0)] N [] := by
 refine EV.loopTo (fun a : Nat => ([(0, .slice pa p.length pc), (3, pv xb 0), (4, vb false), (5, vi (Cr a fun i => (evAt p i).strong).length), (6, vi a)], N, [])) (fun a => a ≤ p.length ∧ ∀ x, x < a → EvR p e x) (fun a => p.length - a) 0 rfl ⟨Nat.zero_le _, fun x hx => absurd hx (Nat.not_lt_zero _)⟩ ?env1 (List.nil_sublist _) ?_
 case env1 =>
  exact eE
 rintro a ⟨ha, hall⟩ ih
 dsimp only at ha hall ih ⊢
 refine EV.seq ?_
 refine EV.seq ?_
 repeat' first
   | refine EV.skip ?_
   | refine rg ?_
   | (refine cX (fun h => ?_) (fun h => ?_) <;> try exact Ah h)
   | (refine EV.exit rfl ?_)
   | exact ⟨⟩
   | fail
 ·have ha' : a < p.length := by omega
  have ih2 := fun h => ih (a + 1) ⟨by omega, h⟩ (by omega)
  have hex : EvR p e a → ∀ x, x < a + 1 → EvR p e x := fun h x hx => by
   by_cases e1 : x = a
   ·rw [e1]; exact h
   ·exact hall x (by omega)
  have hbad : ¬ EvR p e a → ∀ k ρ G, get ρ 4 = some (vb false) → EV C [0, 1, 3, 4, 5, 6, 7, 8, 9, 10, 11, 12, 13, 14, 15, 16] (.code .ret :: k) ρ N G := fun h => hno fun hs => h (hs.evR hkd ha')
  have hpl : (Cr a fun i => (evAt p i).strong).length ≤ a := Bw _ _
  rw [Hy] at ih2
  generalize (Cr a fun i => (evAt p i).strong) = L at *
  obtain ⟨pb, po, rfl, hpc⟩ := hlocs a ha'
  obtain ⟨fb, fo, rfl, hfc⟩ := hfrs a ha'
  obtain ⟨db, dof, rfl, hdc⟩ := hdns a ha'
  have hlc : rd N pb (po + a * 6 + 1) 5 [vi (evAt p a).op.kind, vi (evAt p a).op.loc, vi (evAt p a).op.v, vi (evAt p a).op.w, vi (evAt p a).op.ord] := hpc.pt 1 5 (by omega) rfl
  have hEv := At3 (p := p) (e := e) (a := a)
  have hstr : (evAt p a).strong = Np (evAt p a).op := rfl
  rw [hstr] at ih2
  generalize hoe : (evAt p a).op = o at *
  generalize hfe : Ae e a = f at *
  generalize hde : Bx e.dn a = D at *
  have hrds := fun G => Nq (M := N.add G) o
  have hwrs := fun G => K7 (M := N.add G) o
  have hfns := fun G => Nr (M := N.add G) o
  refine EV.seq ?_
  refine EV.block ?_
  refine EV.seq ?_
  repeat' first
    | refine rg ?_
    | (with_reducible intro b; try refine nx ?_)
    | (refine And.intro (by omega) ?_)
    | (refine xm ?_; try refine nx ?_)
    | (refine xw ?_; refine nx ?_)
    | exact ⟨⟩
    | fail
  refine EV.seq ?_
  repeat' first
    | refine rg ?_
    | (refine And.intro (by omega) ?_)
    | ((first | refine xm ?_ | refine xn ?_ | fail); try refine nx ?_)
    | exact ⟨⟩
    | fail
  refine EV.seq ?_
  repeat' first
    | refine EV.seq ?_
    | refine EV.skip ?_
    | refine rg ?_
    | with_reducible assumption
    | ((first | with_reducible refine Aq.call (hwrs _) ?_ | with_reducible refine Aq.call (hrds _) ?_ | fail); try refine nx ?_)
    | (refine Az.merge ?_ (fun hc K' hK => ?_) ?_; rotate_left)
    | (refine cX (fun h => ?_) (fun h => ?_) <;> try exact Ah h)
    | (refine And.intro (by omega) ?_)
    | ((first | refine xm ?_ | refine xn ?_ | refine xrA rfl ?_ | refine xiA rfl ?_ | fail); try refine nx ?_)
    | exact ⟨⟩
    | fail
  ·refine hbad (fun hE => ?_) _ _ _ rfl
   obtain ⟨g1, g2, g3, g4, _⟩ := hEv.1 hE
   clear hEv
   cases hr : Eg o <;> cases hw : Cq o <;> cases D <;> simp [hr, hw] at h g1 g2 g3 g4 <;> omega
  have hc : (Eg o = false → f = -2) ∧ (Eg o = true → -1 ≤ f ∧ f < p.length) ∧ (o.kind = 1 ∨ o.kind = 2 → D = true) ∧ (Cq o = false → D = false) := by
   clear hEv
   cases hr : Eg o <;> cases hw : Cq o <;> cases D <;> simp [hr, hw] at h ⊢ <;> omega
  refine EV.to (ρ' := [(0, .slice (some ⟨pb, po, none⟩) p.length pc), (3, pv xb 0), (4, vb false), (5, vi L.length), (6, vi a), (7, pv b 0), (8, vi f)]) ?_ ?env2 (List.Sublist.refl _)
  case env2 =>
   exact eE
  clear h
  obtain ⟨c1, c2, c3, c4⟩ := hc
  have hnext : EvR p e a → EV C [0, 1, 3, 4, 5, 6, 7, 8, 9, 10, 11, 12, 13, 14, 15, 16] (.code (.seq (.reg Ae7) (.cond (.t 139) (.reg Ae8) .skip)) :: .inBlock 1 :: .code (.reg Ae9) :: .inLoop Tx :: .inBlock 0 :: k) [(0, .slice (some ⟨pb, po, none⟩) p.length pc), (3, pv xb 0), (4, vb false), (5, vi L.length), (6, vi a), (7, pv b 0), (8, vi f)] N [(b, Cl 83 [vi o.kind, vi o.loc, vi o.v, vi o.w, vi o.ord])] := by
   intro hE
   have ih3 := ih2 (hex hE)
   clear ih ih2 hex hbad hno key hEv
   generalize Np o = y at *
   repeat' first
     | refine EV.seq ?_
     | refine EV.skip ?_
     | refine EV.inBlock ?_
     | refine rg ?_
     | (refine Aq.call (hfns _) ?_; try refine nx ?_)
     | (refine cX (fun h => ?_) (fun h => ?_) <;> try exact Ah h)
     | (refine xrA rfl ?_; try refine nx ?_)
     | exact ⟨⟩
     | fail
   ·rw [if_pos (by assumption)] at ih3
    simp only [List.length_append, List.length_cons, List.length_nil] at ih3
    refine EV.to ih3 ?_ (List.nil_sublist _)
    exact eE
   ·have hy : ¬ y = true := by simp_all
    rw [if_neg hy, List.append_nil] at ih3
    refine EV.to ih3 ?_ (List.nil_sublist _)
    exact eE
  cases hr : Eg o with
  | false =>
   simp only [hr] at hrds
   refine EV.any (t := U4) [(b, Cl 83 [vi o.kind, vi o.loc, vi o.v, vi o.w, vi o.ord])] (List.Sublist.refl _) ?_
   simp only [Am, Au, Al, As, reduceIte, Nat.reduceEqDiff]
   repeat' first
     | ((refine L3 (by first | with_reducible assumption | rfl) rfl ?_ (fun lq hlq hc => ?_) (fun lq hlq => ?_); rotate_left) <;> (try (exfalso; simp at hc; done)) <;> try refine nz ?_)
     | ((first | refine zo (fun lq hlq => ?_) | refine zl ?_ | refine Exists.intro _ (And.intro (hrds _) ?_) | fail); try refine nz ?_)
     | refine zf ?_
     | (refine xrA rfl ?_; try refine nz ?_)
     | exact false
     | exact ⟨⟩
     | fail
   repeat' first
     | refine EV.skip ?_
     | (refine cX (fun h => ?_) (fun h => ?_) <;> try exact Ah h)
     | fail
   refine EV.to (hnext (hEv.2 ⟨c1, c2, c3, c4, fun h => by rw [hr] at h; cases h⟩)) ?_ (List.Sublist.refl _)
   exact eE
  | true =>
   simp only [hr] at hrds
   obtain ⟨d1, d2⟩ := c2 hr
   by_cases h0 : 0 ≤ f
   ·obtain ⟨u, rfl⟩ : ∃ u : Nat, f = u := ⟨f.toNat, by omega⟩
    have hul : u < p.length := by omega
    obtain ⟨pb', po', e1, hpu⟩ := hlocs u hul
    obtain ⟨rfl, rfl⟩ : pb = pb' ∧ po = po' := by simpa using e1
    obtain ⟨db', dof', e2, hdu⟩ := hdns u hul
    obtain ⟨rfl, rfl⟩ : db = db' ∧ dof = dof' := by simpa using e2
    have hlu : rd N pb (po + u * 6 + 1) 5 [vi (evAt p u).op.kind, vi (evAt p u).op.loc, vi (evAt p u).op.v, vi (evAt p u).op.w, vi (evAt p u).op.ord] := hpu.pt 1 5 (by omega) rfl
    have hll : rd N pb (po + u * 6 + 1 + 1) 1 [vi (evAt p u).op.loc] := hpu.pt 2 1 (by omega) rfl
    have hwru := fun G => K7 (M := N.add G) (evAt p u).op
    have h0t : decide ((0 : Int) ≤ (u : Int)) = true := decide_eq_true h0
    rw [Int.toNat_natCast] at hEv
    generalize (evAt p u).op = q at *
    generalize hdu' : Bx e.dn u = Du at *
    refine EV.any (t := U4) [(b, Cl 83 [vi o.kind, vi o.loc, vi o.v, vi o.w, vi o.ord])] (List.Sublist.refl _) ?_
    simp only [Am, Au, Al, As, reduceIte, Nat.reduceEqDiff]
    repeat' first
      | ((refine L3 (by first | with_reducible assumption | rfl) rfl ?_ (fun lq hlq hc => ?_) (fun lq hlq => ?_); rotate_left) <;> (try (exfalso; simp at hc; done)) <;> (repeat first | refine nz ?_ | simp only [h0t]))
      | ((first | refine zo (fun lq hlq => ?_) | refine zl ?_ | refine Exists.intro _ (And.intro (hrds _) ?_) | refine Exists.intro _ (And.intro (hwru _) ?_) | fail); (repeat first | refine nz ?_ | simp only [h0t]))
      | refine zf ?_
      | with_reducible rfl
      | (refine And.intro (by omega) ?_)
      | ((first | refine xm ?_ | refine xn ?_ | refine xrA rfl ?_ | refine xiA rfl ?_ | fail); (repeat first | refine nz ?_ | simp only [h0t]))
      | fail
    obtain ⟨Y, hY⟩ : ∃ Y, (true && true && (!Du || !decide (q.loc = o.loc) || !Cq q)) = Y := ⟨_, rfl⟩
    rw [hY]
    repeat' first
      | refine EV.skip ?_
      | (refine cX (fun h => ?_) (fun h => ?_) <;> try exact Ah h)
      | fail
    ·refine EV.seq ?_
     repeat' first
       | refine rg ?_
       | exact ⟨⟩
       | fail
     refine hbad (fun hE => ?_) _ _ _ rfl
     obtain ⟨_, _, _, _, g5⟩ := hEv.1 hE
     obtain ⟨q1, q2, q3⟩ := g5 hr (by omega)
     simp [q1, q2, q3] at hY
     rw [hY] at h; cases h
    ·have hq : Du = true ∧ q.loc = o.loc ∧ Cq q = true := by
      rw [h] at hY
      simpa [and_assoc] using hY
     refine EV.to (hnext (hEv.2 ⟨c1, c2, c3, c4, fun _ _ => hq⟩)) ?_ (List.Sublist.refl _)
     exact eE
   ·have h0f : decide ((0 : Int) ≤ f) = false := decide_eq_false h0
    refine EV.any (t := U4) [(b, Cl 83 [vi o.kind, vi o.loc, vi o.v, vi o.w, vi o.ord])] (List.Sublist.refl _) ?_
    simp only [Am, Au, Al, As, reduceIte, Nat.reduceEqDiff]
    repeat' first
      | ((refine L3 (by first | with_reducible assumption | rfl) rfl ?_ (fun lq hlq hc => ?_) (fun lq hlq => ?_); rotate_left) <;> (try (exfalso; simp at hc; done)) <;> (repeat first | refine nz ?_ | simp only [h0f]))
      | ((first | refine zo (fun lq hlq => ?_) | refine zl ?_ | refine Exists.intro _ (And.intro (hrds _) ?_) | fail); (repeat first | refine nz ?_ | simp only [h0f]))
      | refine zf ?_
      | with_reducible rfl
      | (refine xrA rfl ?_; (repeat first | refine nz ?_ | simp only [h0f]))
      | exact false
      | fail
    repeat' first
      | refine EV.skip ?_
      | (refine cX (fun h => ?_) (fun h => ?_) <;> try exact Ah h)
      | fail
    refine EV.to (hnext (hEv.2 ⟨c1, c2, c3, c4, fun _ h => absurd h h0⟩)) ?_ (List.Sublist.refl _)
    exact eE
 ·have hae : a = p.length := by omega
  subst hae
  repeat' first
    | fail
  refine EV.to (key fun x hx => hall x hx) ?_ (List.Sublist.refl _)
  exact eE
end Go.EV

namespace Go.EV
open Go.Proofs
def marks (L : List Int) : List Bool := (List.range 16).map fun (i : Nat) => decide ((i : Int) ∈ L)
theorem S0 (L : List Int) : (marks L).length = 16 := by simp [marks]
theorem Ls {L : List Int} {u : Nat} (h : u < (marks L).length) : (marks L)[u] = decide ((u : Int) ∈ L) := by simp [marks]
theorem S1 {L : List Int} {u : Nat} (hu : u < 16) : (marks L).set u true = marks (L ++ [(u : Int)]) := by
 apply List.ext_getElem
 ·simp [marks]
 ·intro i h1 h2
  rw [List.getElem_set, Ls, Ls]
  by_cases hi : u = i
  ·subst hi; simp
  ·rw [if_neg hi]
   have : ¬ ((i : Int) = (u : Int)) := by omega
   simp [this]
theorem Zs : marks [] = List.replicate 16 false := by decide
theorem Xd {l : List Int} (h : l.Nodup) {i : Nat} (hi : i < l.length) : Ad l i ∉ l.take i := by
 have h1 : (l.take (i + 1)).Nodup := h.sublist (List.take_sublist _ _)
 rw [List.take_succ_eq_append_getElem hi, List.nodup_append] at h1
 intro hm
 rw [Ad, List.getElem?_eq_getElem hi, Option.getD_some] at hm
 exact h1.2.2 _ hm _ (List.mem_singleton.2 rfl) rfl
theorem Nv {l : List Int} {i : Nat} (hi : i < l.length) (h : (l.take i).Nodup) (hn : Ad l i ∉ l.take i) : (l.take (i + 1)).Nodup := by
 rw [Ad, List.getElem?_eq_getElem hi, Option.getD_some] at hn
 rw [List.take_succ_eq_append_getElem hi, List.nodup_append]
 refine ⟨h, by simp, fun x hx y hy e => ?_⟩
 rw [List.mem_singleton] at hy
 subst e hy
 exact hn hx
theorem B1 {l : List Int} {i : Nat} (hi : i < l.length) : l.take (i + 1) = l.take i ++ [Ad l i] := by
 rw [List.take_succ_eq_append_getElem hi, Ad, List.getElem?_eq_getElem hi]; rfl
theorem S2 {l : List Int} {i : Nat} (hi : i < l.length) : Ad l i ∈ l := by
 rw [Ad, List.getElem?_eq_getElem hi]; exact List.getElem_mem hi
set_option maxHeartbeats 4000000 in
theorem Rb {C : Cx Tryz.prog} {k : List RItem} {p : List Ev} {e : Exec} {N : Aa} {pa : Option Addr} {pc xb b9 : Nat} {na : Option Addr} {nc : Nat} (hp : p.length ≤ 16)
  (hx3 : rd N xb 3 1 [.slice na e.fen.length nc]) (hnl : e.fen.length ≤ 16)
  (hnat : rdS N 1 na e.fen.length (e.fen.flatMap ei))
  (hlocs : ∀ b, b < p.length → ∃ pb po, pa = some ⟨pb, po, none⟩ ∧ rd N pb (po + b * 6) 6 (H5 (evAt p b)))
  (hno : ¬ Shape p e → ∀ k ρ G, get ρ 4 = some (vb false) → EV C [0, 1, 3, 4, 5, 6, 7, 8, 9, 10, 11, 12, 13, 14, 15, 16] (.code .ret :: k) ρ N G)
  (key : e.fen.Nodup → (∀ x ∈ e.fen, x ∈ Bi p) → EV C [0, 1, 3, 4, 5, 6, 7, 8, 9, 10, 11, 12, 13, 14, 15, 16] k [(0, .slice pa p.length pc), (3, pv xb 0), (4, vb false), (9, pv b9 0)] N [(b9, Cl 141 ((marks e.fen).map vb))]) :
  EV C [0, 1, 3, 4, 5, 6, 7, 8, 9, 10, 11, 12, 13, 14, 15, 16] (.code (.loop Yd) :: .inBlock 2 :: k) [(10, vi 0), (0, .slice pa p.length pc), (3, pv xb 0), (4, vb false), (9, pv b9 0)] N [(b9, Cl 141 (List.replicate 16 (vb false)))] := by
 refine EV.loopTo (fun i : Nat => ([(0, .slice pa p.length pc), (3, pv xb 0), (4, vb false), (9, pv b9 0), (10, vi i)], N, [(b9, Cl 141 ((marks (e.fen.take i)).map vb))])) (fun i => i ≤ e.fen.length ∧ (e.fen.take i).Nodup ∧ ∀ x ∈ e.fen.take i, x ∈ Bi p) (fun i => e.fen.length - i) 0 rfl ⟨Nat.zero_le _, by simp, by simp⟩ ?env1 ?sub1 ?_
 case env1 =>
  exact eE
 case sub1 =>
  simp only [List.take_zero, Zs, List.map_replicate]
  exact List.Sublist.refl _
 rintro i ⟨hi, hnd, hall⟩ ih
 dsimp only at hi hnd hall ih ⊢
 refine EV.seq ?_
 refine EV.seq ?_
 repeat' first
   | refine EV.skip ?_
   | refine rg ?_
   | (refine cX (fun h => ?_) (fun h => ?_) <;> try exact Ah h)
   | (refine EV.exit rfl ?_)
   | (refine xn ?_; try refine nx ?_)
   | exact ⟨⟩
   | fail
 ·have hi' : i < e.fen.length := by omega
  have ih2 := fun h1 h2 => ih (i + 1) ⟨by omega, h1, h2⟩ (by omega)
  obtain ⟨nb, no, rfl, hat⟩ := Sl.at (sz := 1) (enc := ei) (fun _ => rfl) (by decide) hnat (by omega)
  have hnum := Cd hat i hi'
  have hbad : ¬ (0 ≤ Ad e.fen i ∧ Ad e.fen i < p.length ∧ Ad e.fen i ∉ e.fen.take i ∧ Np (evAt p (Ad e.fen i).toNat).op = true) → ∀ k ρ G, get ρ 4 = some (vb false) → EV C [0, 1, 3, 4, 5, 6, 7, 8, 9, 10, 11, 12, 13, 14, 15, 16] (.code .ret :: k) ρ N G := fun h => hno fun hs => h (by
   obtain ⟨w, e1, e2, e3⟩ := Iy.1 (hs.fen.mem_iff.1 (S2 hi'))
   refine ⟨by omega, by omega, Xd (hs.fen.nodup_iff.2 (Gr p)) hi', ?_⟩
   rw [e1, Int.toNat_natCast]; exact e3)
  have hgood : 0 ≤ Ad e.fen i → Ad e.fen i < p.length → Ad e.fen i ∉ e.fen.take i → Np (evAt p (Ad e.fen i).toNat).op = true → (e.fen.take (i + 1)).Nodup ∧ ∀ x ∈ e.fen.take (i + 1), x ∈ Bi p := fun h1 h2 h3 h4 => by
   refine ⟨Nv hi' hnd h3, fun x hx => ?_⟩
   rw [B1 hi'] at hx
   rcases List.mem_append.1 hx with hx | hx
   ·exact hall x hx
   ·rw [List.mem_singleton] at hx
    rw [hx]
    exact Iy.2 ⟨(Ad e.fen i).toNat, by omega, by omega, h4⟩
  rw [B1 hi'] at ih2 hgood
  generalize hfe : Ad e.fen i = f at *
  generalize e.fen.take i = L at *
  have hml := S0 L
  refine EV.seq ?_
  refine EV.block ?_
  refine EV.seq ?_
  repeat' first
    | refine rg ?_
    | (refine And.intro (by omega) ?_)
    | ((first | refine xm ?_ | refine xn ?_ | fail); try refine nx ?_)
    | exact ⟨⟩
    | fail
  refine EV.seq ?_
  refine EV.seq ?_
  by_cases h0 : f < 0
  ·have h0t : decide (f < 0) = true := decide_eq_true h0
   repeat' first
     | refine EV.seq ?_
     | (refine EV.reg ?_; (conv => (arg 2; whnf)); (repeat first | refine nx ?_ | simp only [h0t]))
     | (refine Az.intro (fun hc => ?_) (fun hc => ?_) <;> try simp only [ne_eq, Bool.not_true, Bool.not_false, not_true_eq_false, not_false_eq_true, reduceCtorEq] at hc <;> try (exfalso; first | exact hc | omega | (simp at hc; done)))
     | (refine cX (fun h => ?_) (fun h => ?_) <;> try exact Ah h)
     | fail
   exact hbad (fun h => by omega) _ _ _ rfl
  ·by_cases h1 : f < p.length
   ·obtain ⟨u, rfl⟩ : ∃ u : Nat, f = u := ⟨f.toNat, by omega⟩
    have h0f : decide ((u : Int) < 0) = false := decide_eq_false h0
    have h1f : decide ((p.length : Int) ≤ (u : Int)) = false := decide_eq_false (by omega)
    obtain ⟨pb, po, rfl, hpu⟩ := hlocs u (by omega)
    have hlu : rd N pb (po + u * 6 + 1) 5 [vi (evAt p u).op.kind, vi (evAt p u).op.loc, vi (evAt p u).op.v, vi (evAt p u).op.w, vi (evAt p u).op.ord] := hpu.pt 1 5 (by omega) rfl
    have hfns := fun G => Nr (M := N.add G) (evAt p u).op
    rw [Int.toNat_natCast] at hbad hgood
    generalize (evAt p u).op = o at *
    have hum : u < (marks L).length := by rw [hml]; omega
    have hma := Ls hum
    have hms := S1 (L := L) (show u < 16 by omega)
    repeat' first
      | refine EV.skip ?_
      | (refine EV.reg ?_; (conv => (arg 2; whnf)); (repeat first | refine nx ?_ | simp only [h0f, h1f]))
      | with_reducible assumption
      | (refine Az.merge ?_ (fun hc K' hK => ?_) ?_; rotate_left)
      | ((first | refine Exists.intro _ (And.intro (B4 (f := vb) hum) ?_) | refine Aq.call (hfns _) ?_ | fail); (repeat first | refine nx ?_ | simp only [h0f, h1f]))
      | (refine cX (fun h => ?_) (fun h => ?_) <;> try exact Ah h)
      | (refine And.intro (by omega) ?_)
      | (refine xm ?_; (repeat first | refine nx ?_ | simp only [h0f, h1f]))
      | (refine xw ?_; (repeat first | refine nx ?_ | simp only [h0f, h1f]))
      | fail
    ·refine EV.seq ?_
     repeat' first
       | refine rg ?_
       | exact ⟨⟩
       | fail
     refine hbad (fun hh => ?_) _ _ _ rfl
     obtain ⟨_, _, q1, q2⟩ := hh
     simp [hma, q1, q2] at h
    ·have hq : (u : Int) ∉ L ∧ Np o = true := by simpa [hma] using h
     refine ⟨by rw [List.length_map, hml]; omega, ?_⟩
     rw [Ao vb _ hum, hms]
     obtain ⟨n1, n2⟩ := hgood (by omega) h1 hq.1 hq.2
     repeat' first
       | refine EV.inBlock ?_
       | refine rg ?_
       | exact ⟨⟩
       | fail
     refine EV.to (ih2 n1 n2) ?_ (List.Sublist.refl _)
     exact eE
   ·have h0f : decide (f < 0) = false := decide_eq_false h0
    have h1t : decide ((p.length : Int) ≤ f) = true := decide_eq_true (by omega)
    repeat' first
      | refine EV.seq ?_
      | (refine EV.reg ?_; (conv => (arg 2; whnf)); (repeat first | refine nx ?_ | simp only [h0f, h1t]))
      | (refine Az.intro (fun hc => ?_) (fun hc => ?_) <;> try simp only [ne_eq, Bool.not_true, Bool.not_false, not_true_eq_false, not_false_eq_true, reduceCtorEq] at hc <;> try (exfalso; first | exact hc | omega | (simp at hc; done)))
      | (refine cX (fun h => ?_) (fun h => ?_) <;> try exact Ah h)
      | fail
    exact hbad (fun h => by omega) _ _ _ rfl
 ·have hie : i = e.fen.length := by omega
  subst hie
  rw [List.take_length] at hnd hall ⊢
  repeat' first
    | fail
  refine EV.to (key hnd hall) ?_ (List.Sublist.refl _)
  exact eE
end Go.EV

namespace Go.EV
open Go.Proofs
theorem Zt {o : List (List Int)} {k : Nat} (hk : k < o.length) : o.flatten = (o.take k).flatten ++ (o[k]?.getD [] ++ (o.drop (k + 1)).flatten) := by
 conv => lhs; rw [← List.take_append_drop k o, List.flatten_append, List.drop_eq_getElem_cons hk, List.flatten_cons]
 rw [List.getElem?_eq_getElem hk, Option.getD_some]
theorem Xe {F : List Int} {o : List (List Int)} {k i : Nat} (hk : k < o.length) : ((F ++ (o.take k).flatten) ++ (o[k]?.getD []).take i).Sublist (F ++ o.flatten) := by
 rw [Zt hk, List.append_assoc]
 exact (List.Sublist.refl _).append ((List.Sublist.refl _).append ((List.take_sublist _ _).trans (List.sublist_append_left _ _)))
theorem Ad4 {F : List Int} {o : List (List Int)} {k : Nat} (hk : k < o.length) : (F ++ (o.take k).flatten) ++ o[k]?.getD [] = F ++ (o.take (k + 1)).flatten := by
 rw [List.take_succ_eq_append_getElem hk, List.flatten_append, List.append_assoc, List.getElem?_eq_getElem hk]; simp
set_option maxHeartbeats 4000000 in
theorem Rc {C : Cx Tryz.prog} {k : List RItem} {p : List Ev} {e : Exec} {N : Aa} {pa da : Option Addr} {pc dc xb b9 ob oo oc : Nat} (hp : p.length ≤ 16) (hdl : e.dn.length = p.length) (hol : e.ord.length = 3) (hsz : ∀ l ∈ e.ord, l.length * 8 ≤ 140737488355328) (hev : ∀ a, a < p.length → EvR p e a)
  (hnf : e.fen.Nodup)
  (hx1 : rd N xb 1 1 [.slice da e.dn.length dc]) (hx2 : rd N xb 2 1 [.slice (some ⟨ob, oo, none⟩) e.ord.length oc])
  (hdns : ∀ b, b < p.length → ∃ db dof, da = some ⟨db, dof, none⟩ ∧ rd N db (dof + b) 1 [vb (Bx e.dn b)])
  (hlocs : ∀ b, b < p.length → ∃ pb po, pa = some ⟨pb, po, none⟩ ∧ rd N pb (po + b * 6) 6 (H5 (evAt p b)))
  (hords : ∀ k, k < 3 → ∃ a' c', rd N ob (oo + k) 1 [.slice a' (e.ord[k]?.getD []).length c'] ∧ rdS N 1 a' (e.ord[k]?.getD []).length ((e.ord[k]?.getD []).flatMap ei))
  (hno : ¬ Shape p e → ∀ k ρ G, get ρ 4 = some (vb false) → EV C [0, 1, 3, 4, 5, 6, 7, 8, 9, 10, 11, 12, 13, 14, 15, 16] (.code .ret :: k) ρ N G)
  (key : (e.fen ++ e.ord.flatten).Nodup → (∀ k : Nat, k < 3 → (e.ord[k]?.getD []).length = (W9 p e.dn k p.length).length) → (∀ k : Nat, k < 3 → ∀ x ∈ e.ord[k]?.getD [], x ∈ Ar p e.dn k) → EV C [0, 1, 3, 4, 5, 6, 7, 8, 9, 10, 11, 12, 13, 14, 15, 16] k [(0, .slice pa p.length pc), (3, pv xb 0)] N []) :
  EV C [0, 1, 3, 4, 5, 6, 7, 8, 9, 10, 11, 12, 13, 14, 15, 16] (.code (.loop Ty) :: .inBlock 4 :: k) [(12, vi 0), (0, .slice pa p.length pc), (3, pv xb 0), (4, vb false), (9, pv b9 0)] N [(b9, Cl 141 ((marks e.fen).map vb))] := by
 refine EV.loopTo (fun c : Nat => ([(0, .slice pa p.length pc), (3, pv xb 0), (4, vb false), (9, pv b9 0), (12, vi c)], N, [(b9, Cl 141 ((marks (e.fen ++ (e.ord.take c).flatten)).map vb))])) (fun c => c ≤ 3 ∧ (e.fen ++ (e.ord.take c).flatten).Nodup ∧ ∀ x : Nat, x < c → (e.ord[x]?.getD []).length = (W9 p e.dn x p.length).length ∧ ∀ y ∈ e.ord[x]?.getD [], y ∈ Ar p e.dn x) (fun c => 3 - c) 0 rfl ⟨Nat.zero_le _, by simpa using hnf, fun x hx => absurd hx (Nat.not_lt_zero _)⟩ ?env1 ?sub1 ?_
 case env1 =>
  exact eE
 case sub1 =>
  simp only [List.take_zero, List.flatten_nil, List.append_nil]
  exact List.Sublist.refl _
 rintro c ⟨hc, hnd, hall⟩ ih
 dsimp only at hc hnd hall ih ⊢
 refine EV.seq ?_
 refine EV.seq ?_
 repeat' first
   | refine EV.skip ?_
   | refine rg ?_
   | (refine cX (fun h => ?_) (fun h => ?_) <;> try exact Ah h)
   | (refine EV.exit rfl ?_)
   | exact ⟨⟩
   | fail
 ·have hc' : c < 3 := by omega
  have ih2 := fun h1 h2 => ih (c + 1) ⟨by omega, h1, h2⟩ (by omega)
  obtain ⟨la, lc, hrl, hrr⟩ := hords c hc'
  refine EV.seq ?_
  refine EV.block ?_
  refine EV.seq ?_
  repeat' first
    | refine rg ?_
    | exact ⟨⟩
    | fail
  refine EV.seq ?_
  refine EV.seq ?_
  repeat' first
    | refine EV.block ?_
    | refine rg ?_
    | exact ⟨⟩
    | fail
  refine EV.loopTo (fun a : Nat => ([(0, .slice pa p.length pc), (3, pv xb 0), (4, vb false), (9, pv b9 0), (12, vi c), (13, vi (W9 p e.dn c a).length), (14, vi a)], N, [(b9, Cl 141 ((marks (e.fen ++ (e.ord.take c).flatten)).map vb))])) (fun a => a ≤ p.length) (fun a => p.length - a) 0 rfl (Nat.zero_le _) ?env2 (List.Sublist.refl _) ?_
  case env2 =>
   exact eE
  intro a ha ih3
  dsimp only at ha ih3 ⊢
  refine EV.seq ?_
  refine EV.seq ?_
  repeat' first
    | refine EV.skip ?_
    | refine rg ?_
    | (refine cX (fun h => ?_) (fun h => ?_) <;> try exact Ah h)
    | (refine EV.exit rfl ?_)
    | exact ⟨⟩
    | fail
  ·have ha' : a < p.length := by omega
   have ih4 := ih3 (a + 1) (by omega) (by omega)
   have hll : (W9 p e.dn c a).length ≤ a := Bw _ _
   rw [show W9 p e.dn c (a + 1) = W9 p e.dn c a ++ (if Bx e.dn a && decide ((evAt p a).op.loc = (c : Int)) then [(a : Int)] else []) from Hy _ _] at ih4
   obtain ⟨pb, po, rfl, hpc⟩ := hlocs a ha'
   obtain ⟨db, dof, rfl, hdc⟩ := hdns a ha'
   have hlc : rd N pb (po + a * 6 + 1 + 1) 1 [vi (evAt p a).op.loc] := hpc.pt 2 1 (by omega) rfl
   generalize W9 p e.dn c a = L at *
   refine EV.seq ?_
   refine EV.block ?_
   repeat' first
     | refine EV.seq ?_
     | refine EV.skip ?_
     | refine EV.inBlock ?_
     | refine rg ?_
     | with_reducible assumption
     | (refine Az.merge ?_ (fun hc K' hK => ?_) ?_; rotate_left)
     | (refine cX (fun h => ?_) (fun h => ?_) <;> try exact Ah h)
     | (refine And.intro (by omega) ?_)
     | ((first | refine xm ?_ | refine xn ?_ | fail); try refine nx ?_)
     | exact ⟨⟩
     | fail
   ·rw [if_pos (by simpa using h)] at ih4
    simp only [List.length_append, List.length_cons, List.length_nil] at ih4
    refine EV.to ih4 ?_ (List.Sublist.refl _)
    exact eE
   ·rw [if_neg (by rw [Bool.not_eq_true, Bool.and_eq_false_iff]; simpa using h), List.append_nil] at ih4
    refine EV.to ih4 ?_ (List.Sublist.refl _)
    exact eE
  ·have hae : a = p.length := by omega
   subst hae
   repeat' first
     | fail
   have hwl := Zq hev (c : Int)
   have hck : c < e.ord.length := by omega
   have hln8 : (e.ord[c]?.getD []).length * 8 ≤ 140737488355328 := by
    rw [List.getElem?_eq_getElem hck, Option.getD_some]; exact hsz _ (List.getElem_mem hck)
   have hwlen : (W9 p e.dn c p.length).length ≤ p.length := Bw _ _
   have hlenbad : (e.ord[c]?.getD []).length ≠ (W9 p e.dn c p.length).length → ∀ k ρ G, get ρ 4 = some (vb false) → EV C [0, 1, 3, 4, 5, 6, 7, 8, 9, 10, 11, 12, 13, 14, 15, 16] (.code .ret :: k) ρ N G := fun h => hno fun hs => h (by rw [(hs.ord c hc').length_eq, hwl])
   have hbad : ∀ i, i < (e.ord[c]?.getD []).length → ¬ (Ad (e.ord[c]?.getD []) i ∈ Ar p e.dn c ∧ Ad (e.ord[c]?.getD []) i ∉ (e.fen ++ (e.ord.take c).flatten) ++ (e.ord[c]?.getD []).take i) → ∀ k ρ G, get ρ 4 = some (vb false) → EV C [0, 1, 3, 4, 5, 6, 7, 8, 9, 10, 11, 12, 13, 14, 15, 16] (.code .ret :: k) ρ N G := fun i hi h => hno fun hs => h (by
    refine ⟨(hs.ord c hc').mem_iff.1 (S2 hi), ?_⟩
    have h1 := hs.nodup.sublist (Xe (F := e.fen) (i := i + 1) hck)
    rw [B1 hi, ← List.append_assoc, List.nodup_append] at h1
    exact fun hm => h1.2.2 _ hm _ (List.mem_singleton.2 rfl) rfl)
   have hnx := Ad4 (F := e.fen) hck
   have hfinal : (e.ord[c]?.getD []).length = (W9 p e.dn c p.length).length → ((e.fen ++ (e.ord.take c).flatten) ++ e.ord[c]?.getD []).Nodup → (∀ y ∈ e.ord[c]?.getD [], y ∈ Ar p e.dn c) → EV C [0, 1, 3, 4, 5, 6, 7, 8, 9, 10, 11, 12, 13, 14, 15, 16] (.inLoop Ty :: .inBlock 4 :: k) [(0, .slice pa p.length pc), (3, pv xb 0), (4, vb false), (9, pv b9 0), (12, vi (c + 1 : Nat))] N [(b9, Cl 141 ((marks ((e.fen ++ (e.ord.take c).flatten) ++ e.ord[c]?.getD [])).map vb))] := fun h1 h2 h3 => by
    rw [hnx] at h2 ⊢
    refine ih2 h2 (fun x hx => ?_)
    by_cases e1 : x = c
    ·subst e1; exact ⟨h1, h3⟩
    ·exact hall x (by omega)
   generalize hO : e.ord[c]?.getD [] = O at *
   generalize hF : e.fen ++ (e.ord.take c).flatten = F at *
   generalize hL : W9 p e.dn c p.length = L at *
   clear ih ih2 hnx key hsz ih3
   refine EV.seq ?_
   refine EV.seq ?_
   repeat' first
     | refine EV.skip ?_
     | refine rg ?_
     | (refine cX (fun h => ?_) (fun h => ?_) <;> try exact Ah h)
     | (refine And.intro (by omega) ?_)
     | (refine xn ?_; try refine nx ?_)
     | exact ⟨⟩
     | fail
   ·refine EV.seq ?_
    repeat' first
      | refine rg ?_
      | exact ⟨⟩
      | fail
    refine hlenbad (fun h2 => ?_) _ _ _ rfl
    rw [h2] at h; simp at h
   ·have hlo : O.length = L.length := by
     have : ¬ ((O.length : Int) ≠ (L.length : Int)) := by simpa using h
     omega
    refine EV.seq ?_
    repeat' first
      | refine EV.block ?_
      | refine rg ?_
      | exact ⟨⟩
      | fail
    rw [← hlo]
    refine EV.loopTo (fun i : Nat => ([(0, .slice pa p.length pc), (3, pv xb 0), (4, vb false), (9, pv b9 0), (12, vi c), (13, vi O.length), (15, vi i)], N, [(b9, Cl 141 ((marks (F ++ O.take i)).map vb))])) (fun i => i ≤ O.length ∧ (F ++ O.take i).Nodup ∧ ∀ y ∈ O.take i, y ∈ Ar p e.dn c) (fun i => O.length - i) 0 rfl ⟨Nat.zero_le _, by simpa using hnd, by simp⟩ ?env3 ?sub3 ?_
    case env3 =>
     exact eE
    case sub3 =>
     simp only [List.take_zero, List.append_nil]
     exact List.Sublist.refl _
    rintro i ⟨hi, hndi, halli⟩ ih4
    dsimp only at hi hndi halli ih4 ⊢
    refine EV.seq ?_
    refine EV.seq ?_
    repeat' first
      | refine EV.skip ?_
      | refine EV.inBlock ?_
      | refine rg ?_
      | (refine cX (fun h => ?_) (fun h => ?_) <;> try exact Ah h)
      | (refine EV.exit rfl ?_)
      | exact ⟨⟩
      | fail
    ·have hi' : i < O.length := by omega
     have ih5 := fun h1 h2 => ih4 (i + 1) ⟨by omega, h1, h2⟩ (by omega)
     have hbad := hbad i hi'
     obtain ⟨wb, wo, rfl, hatl⟩ := Sl.at (sz := 1) (enc := ei) (fun _ => rfl) (by decide) hrr (by omega)
     have hnum := Cd hatl i hi'
     have hgood : Ad O i ∈ Ar p e.dn c → Ad O i ∉ F ++ O.take i → (F ++ O.take (i + 1)).Nodup ∧ ∀ y ∈ O.take (i + 1), y ∈ Ar p e.dn c := fun h1 h2 => by
      rw [B1 hi']
      refine ⟨?_, fun y hy => ?_⟩
      ·rw [← List.append_assoc, List.nodup_append]
       refine ⟨hndi, by simp, fun x hx y hy e1 => ?_⟩
       rw [List.mem_singleton] at hy
       subst e1 hy
       exact h2 hx
      ·rcases List.mem_append.1 hy with hy | hy
       ·exact halli y hy
       ·rw [List.mem_singleton] at hy; rw [hy]; exact h1
     rw [B1 hi', ← List.append_assoc] at ih5
     rw [B1 hi', ← List.append_assoc] at hgood
     generalize hfe : Ad O i = f at *
     generalize F ++ O.take i = K at *
     have hml := S0 K
     have hwi := @A7 p e.dn c f
     refine EV.seq ?_
     refine EV.block ?_
     refine EV.seq ?_
     repeat' first
       | refine rg ?_
       | (refine And.intro (by omega) ?_)
       | ((first | refine xm ?_ | refine xn ?_ | fail); try refine nx ?_)
       | exact ⟨⟩
       | fail
     refine EV.seq ?_
     refine EV.seq ?_
     by_cases h0 : f < 0
     ·have h0t : decide (f < 0) = true := decide_eq_true h0
      repeat' first
        | refine EV.seq ?_
        | (refine EV.reg ?_; (conv => (arg 2; whnf)); (repeat first | refine nx ?_ | simp only [h0t]))
        | (refine Az.intro (fun hc => ?_) (fun hc => ?_) <;> try simp only [ne_eq, Bool.not_true, Bool.not_false, not_true_eq_false, not_false_eq_true, reduceCtorEq] at hc <;> try (exfalso; first | exact hc | omega | (simp at hc; done)))
        | (refine cX (fun h => ?_) (fun h => ?_) <;> try exact Ah h)
        | fail
      exact hbad (fun h => by obtain ⟨w, hw, _⟩ := hwi.1 h.1; omega) _ _ _ rfl
     ·by_cases h1 : f < p.length
      ·obtain ⟨u, rfl⟩ : ∃ u : Nat, f = u := ⟨f.toNat, by omega⟩
       have h0f : decide ((u : Int) < 0) = false := decide_eq_false h0
       have h1f : decide ((p.length : Int) ≤ (u : Int)) = false := decide_eq_false (by omega)
       obtain ⟨pb, po, rfl, hpu⟩ := hlocs u (by omega)
       obtain ⟨db, dof, rfl, hdu⟩ := hdns u (by omega)
       have hll : rd N pb (po + u * 6 + 1 + 1) 1 [vi (evAt p u).op.loc] := hpu.pt 2 1 (by omega) rfl
       have hum : u < (marks K).length := by rw [hml]; omega
       have hma := Ls hum
       have hms := S1 (L := K) (show u < 16 by omega)
       have hiff : (u : Int) ∈ Ar p e.dn c ↔ Bx e.dn u = true ∧ (evAt p u).op.loc = (c : Int) := by
        rw [hwi]
        constructor
        ·rintro ⟨w, hw, _, _, q1, q2⟩
         have : u = w := by omega
         subst this; exact ⟨q1, q2⟩
        ·rintro ⟨q1, q2⟩
         refine ⟨u, rfl, by omega, ?_, q1, q2⟩
         intro h5
         have := (hev u (by omega)).do0 (by simp [Cq, h5])
         rw [this] at q1; cases q1
       repeat' first
         | refine EV.skip ?_
         | (refine EV.reg ?_; (conv => (arg 2; whnf)); (repeat first | refine nx ?_ | simp only [h0f, h1f]))
         | with_reducible assumption
         | (refine Az.merge ?_ (fun hc K' hK => ?_) ?_; rotate_left)
         | (refine Exists.intro _ (And.intro (B4 (f := vb) hum) ?_); (repeat first | refine nx ?_ | simp only [h0f, h1f]))
         | (refine cX (fun h => ?_) (fun h => ?_) <;> try exact Ah h)
         | (refine And.intro (by omega) ?_)
         | ((first | refine xm ?_ | refine xn ?_ | fail); (repeat first | refine nx ?_ | simp only [h0f, h1f]))
         | (refine xw ?_; (repeat first | refine nx ?_ | simp only [h0f, h1f]))
         | fail
       ·refine EV.seq ?_
        repeat' first
          | refine rg ?_
          | exact ⟨⟩
          | fail
        refine hbad (fun hh => ?_) _ _ _ rfl
        obtain ⟨q1, q2⟩ := hh
        obtain ⟨q3, q4⟩ := hiff.1 q1
        simp [hma, q2, q3, q4] at h
       ·have hq : ((u : Int) ∉ K ∧ Bx e.dn u = true) ∧ (evAt p u).op.loc = (c : Int) := by simpa [hma] using h
        refine ⟨by rw [List.length_map, hml]; omega, ?_⟩
        rw [Ao vb _ hum, hms]
        obtain ⟨n1, n2⟩ := hgood (hiff.2 ⟨hq.1.2, hq.2⟩) hq.1.1
        repeat' first
          | refine EV.inBlock ?_
          | refine rg ?_
          | exact ⟨⟩
          | fail
        refine EV.to (ih5 n1 n2) ?_ (List.Sublist.refl _)
        exact eE
      ·have h0f : decide (f < 0) = false := decide_eq_false h0
       have h1t : decide ((p.length : Int) ≤ f) = true := decide_eq_true (by omega)
       repeat' first
         | refine EV.seq ?_
         | (refine EV.reg ?_; (conv => (arg 2; whnf)); (repeat first | refine nx ?_ | simp only [h0f, h1t]))
         | (refine Az.intro (fun hc => ?_) (fun hc => ?_) <;> try simp only [ne_eq, Bool.not_true, Bool.not_false, not_true_eq_false, not_false_eq_true, reduceCtorEq] at hc <;> try (exfalso; first | exact hc | omega | (simp at hc; done)))
         | (refine cX (fun h => ?_) (fun h => ?_) <;> try exact Ah h)
         | fail
       exact hbad (fun h => by obtain ⟨w, hw, hw2, _⟩ := hwi.1 h.1; omega) _ _ _ rfl
    ·have hie : i = O.length := by omega
     subst hie
     rw [List.take_length] at hndi halli ⊢
     repeat' first
       | fail
     refine EV.to (hfinal hlo hndi halli) ?_ (List.Sublist.refl _)
     exact eE
 ·have hce : c = 3 := by omega
  subst hce
  rw [List.take_of_length_le (by omega)] at hnd
  repeat' first
    | fail
  refine EV.to (key hnd (fun k hk => (hall k hk).1) (fun k hk => (hall k hk).2)) ?_ (List.nil_sublist _)
  exact eE
end Go.EV

namespace Go.EV
open Go.Proofs
section
variable {P : Program}
def Oj {α : Type} (P : Program) (g : FuncId) (first caps : Array Value) (M : Aa) (L : List α) (El : α → Value → Aa → Prop) : Prop :=
 ∀ (l : Nat) (I : Nat → Aa → Own → Prop) (S : Aa → Own → Prop) (M1 : Aa) (G : Own), M.le M1 →
  (∀ i (h : i < L.length), ∀ M2 G2 v, M1.le M2 → I i M2 G2 → El L[i] v M2 → Kl P l #[v] M2 G2 fun b M3 G3 => (b = .bool true ∧ I (i + 1) M3 G3) ∨ (b = .bool false ∧ S M3 G3)) →
  I 0 M1 G → Con P g (first ++ #[yv l] ++ caps) M1 G fun _ M' G' => I L.length M' G' ∨ S M' G'
theorem Oj.mono {α : Type} {g : FuncId} {first caps : Array Value} {M M' : Aa} {L : List α} {El : α → Value → Aa → Prop} (h : Oj P g first caps M L El) (hM : M.le M') : Oj P g first caps M' L El :=
 fun l I S M1 G hle => h l I S M1 G (Aa.le_trans hM hle)
variable {α : Type} {C : Cx P} {V : List Nat} {k : List RItem} {ρ : Env} {M : Aa} {G : Own} {f : A} {ps : List Nat} {asg bd : RCode} {fv : Value} {g : FuncId} {first caps : Array Value}
theorem S3 {L : List α} {El : α → Value → Aa → Prop} (hit : Oj P g first caps M L El) (I : Nat → Aa → Own → Prop) (S : Code → Aa → Own → Prop)
  {l : Nat} {r : Loop} {fn : FuncId} {nt t : Nat} (hr : LoopIs P V r fn nt [t] asg bd ρ)
  (hbody : ∀ i (h : i < L.length) v M2 G2 w0 F, M.le M2 → I i M2 G2 → El L[i] v M2 → EV (Cx.rnd P l r fn nt w0 F M2 (I (i + 1)) S) V [.code asg, .begins, .code bd] ((t, v) :: ρ) M2 ((l, Obj.loop r) :: G2))
  {G0 : Own} (hI : I 0 M G0) :
  Con P g (first ++ #[yv l] ++ caps) M ((l, Obj.loop r) :: G0) fun _ M' G' => (∃ G1, G'.Perm ((l, Obj.loop r) :: G1) ∧ I L.length M' G1) ∨ (∃ c G1, G'.Perm ((l, Obj.loop { r with state := .done, pending := some c }) :: G1) ∧ S c M' G1) := by
 have := hit l (fun xs M2 G2 => ∃ G1, G2.Perm ((l, Obj.loop r) :: G1) ∧ I xs M2 G1) (fun M2 G2 => ∃ c G1, G2.Perm ((l, Obj.loop { r with state := .done, pending := some c }) :: G1) ∧ S c M2 G1) M ((l, Obj.loop r) :: G0) (Aa.le_refl _)
  ?_ ⟨G0, List.Perm.refl _, hI⟩
 ·exact this
 ·rintro i hi M2 G2 v hM2 ⟨G1, hp, h2⟩ hv
  have hy : Kl P l [v].toArray M2 ((l, Obj.loop r) :: G1) (U9 l r (I (i + 1)) S) :=
   Kl.enter (List.mem_cons_self ..) hr rfl fun w0 => hbody i hi v M2 G1 w0 _ hM2 h2 hv
  intro w hs
  obtain ⟨r', e1, e2, e3⟩ := hy w (by
   have hs' := hs.perm hp
   have : St w ((((l, Obj.loop r) :: G1)).map (·.1)) M2 M2 ((l, Obj.loop r) :: G1) w := St.enter hs'.agree hs'.own hs'.sep hs'.nodup
   exact this)
  refine ⟨r', e1, e2, e3.mono ?_⟩
  rintro b w' ⟨M', G', k1, k2⟩
  refine ⟨M', G', ?_, ?_⟩
  ·have hmem : ∀ b, b ∈ (((l, Obj.loop r) :: G1).map (·.1)) ↔ b ∈ G2.map (·.1) := fun b => ((hp.map (·.1)).mem_iff).symm
   exact ⟨k1.os, k1.tape, k1.output, k1.size, fun b hb hf => k1.frame b hb (fun h => hf ((hmem b).1 h)), k1.agree, k1.own, k1.sep, fun p hp' => (k1.new p hp').imp (hmem _).1 id, k1.nodup, k1.base,
    fun b o hm => (k1.fresh b o hm).imp id fun h => h.imp (hmem _).1 id⟩
  ·rcases k2 with ⟨rfl, G3, h3, h4⟩ | ⟨rfl, c, G3, h3, h4⟩
   ·exact .inl ⟨rfl, G3, h3, h4⟩
   ·exact .inr ⟨rfl, c, G3, h3, h4⟩
theorem EV.overX {L : List α} {El : α → Value → Aa → Prop} (hro : C.b.roundOf = none) (hfv : ev ρ f = some fv) (hfn : fn? fv = some (g, first, caps)) (hit : Oj P g first caps M L El)
  (I : Nat → Nat → Aa → Own → Prop) (S : Nat → Code → Aa → Own → Prop) {t : Nat}
  (hI : ∀ d, I d 0 M ((d, Obj.deferred (some [])) :: G))
  (hbody : ∀ l d (r : Loop), r.state = .ready → r.pending = none → ∀ i (h : i < L.length) v M2 G2 w0 F, M.le M2 → I d i M2 G2 → El L[i] v M2 →
   EV (Cx.rnd P l r C.b.fn C.nt w0 F M2 (I d (i + 1)) (S d)) V [.code asg, .begins, .code bd] ((t, v) :: ρ) M2 ((l, Obj.loop r) :: G2))
  (hend : ∀ d M' G', M.le M' → I d L.length M' G' → EV (C.marks [d]) V k ρ M' G')
  (hjump : ∀ d c M' G', M.le M' → S d c M' G' → Va (C.marks [d]) V k ρ c M' G') :
  EV C V (.code (.rangeF f [t] asg bd) :: k) ρ M G := by
 refine EV.rangeF hro hfv hfn fun l d r hr h1 h2 => ?_
 refine Con.callA (G2 := []) (S3 hit (I d) (S d) hr (fun i hi v M2 G2 w0 F => hbody l d r h1 h2 i hi v M2 G2 w0 F) (hI d)) (by simp) ?_
 rintro v M' G' hM' (⟨G1, hp, h3⟩ | ⟨c, G1, hp, h3⟩)
 ·refine ⟨r, G1, by simpa using hp, by rw [h1]; simp, ?_⟩
  rw [h2]; exact hend d M' G1 hM' h3
 ·refine ⟨_, G1, by simpa using hp, by simp, ?_⟩
  have := hjump d c M' G1 hM' h3
  cases c <;> first | exact this | exact this.elim
end
section
variable {M : Aa}
def ElN (x : Int) (v : Value) (_ : Aa) : Prop := v = vi x
set_option maxHeartbeats 4000000 in
theorem S4 (xs : List Int) (s : Value) (hs : Sl M 1 ei s xs) (hl : xs.length ≤ 281474976710656) {b : Nat} (hb : rd M b 0 1 [s]) : Oj Tryz.prog 168 #[] #[pv b 0] M xs ElN := by
 obtain ⟨a, c, rfl, hr⟩ := hs
 intro l I S M1 G hM1 hy hI
 have hb1 := hb.mono hM1
 have hr1 := hr.mono hM1
 refine Con.enter Q114_ok (args := [yv l, pv b 0]) (by simp [Cm7]) fun w0 => ?_
 simp only [Cm7, A3]
 repeat' first
   | refine EV.seq ?_
   | refine EV.block ?_
   | refine rg ?_
   | (refine xn ?_; try refine nx ?_)
   | exact ⟨⟩
   | fail
 refine EV.loopTo (fun x : Nat × Aa × Own => ([(0, yv l), (1, pv b 0), (5, .slice a xs.length c), (6, vi xs.length), (7, vi x.1)], x.2.1, x.2.2)) (fun x => x.1 ≤ xs.length ∧ M1.le x.2.1 ∧ I x.1 x.2.1 x.2.2) (fun x => xs.length - x.1) (0, M1, G) rfl ⟨Nat.zero_le _, Aa.le_refl _, hI⟩ ?env1 (List.Sublist.refl _) ?_
 case env1 =>
  exact eE
 rintro ⟨i, Mi, Gi⟩ ⟨hi, hMi, hIi⟩ ih
 dsimp only at hi hMi hIi ih ⊢
 repeat' first
   | refine EV.seq ?_
   | refine EV.skip ?_
   | refine EV.block ?_
   | refine rg ?_
   | (refine cX (fun h => ?_) (fun h => ?_) <;> try exact Ah h)
   | (refine EV.exit rfl ?_)
   | exact ⟨⟩
   | fail
 ·have hi' : i < xs.length := by omega
  obtain ⟨rb, ro, rfl, hat⟩ := Sl.at (sz := 1) (enc := ei) (fun _ => rfl) (by decide) hr1 (by omega)
  have hri := (hat i hi').mono hMi
  rw [Nat.mul_one] at hri
  repeat' first
    | refine EV.seq ?_
    | refine rg ?_
    | (refine And.intro (by omega) ?_)
    | (refine xm ?_; try refine nx ?_)
    | exact ⟨⟩
    | fail
  refine Kl.run (hy i hi' Mi Gi _ hMi hIi rfl) ?_
  rintro bv M2 G2 hM2 (⟨rfl, hI2⟩ | ⟨rfl, hS2⟩)
  ·repeat' first
    | refine EV.skip ?_
    | refine EV.inBlock ?_
    | refine rg ?_
    | (refine cX (fun h => ?_) (fun h => ?_) <;> try exact Ah h)
    | exact ⟨⟩
    | fail
   have ih3 := ih (i + 1, M2, G2) ⟨by dsimp only; omega, Aa.le_trans hMi hM2, hI2⟩ (by dsimp only; omega)
   dsimp only at ih3
   refine EV.to ih3 ?_ (List.Sublist.refl _)
   exact eE
  ·repeat' first
    | (refine cX (fun h => ?_) (fun h => ?_) <;> try exact Ah h)
    | fail
   (refine rt Q114_ok ?_; try with_reducible exact ⟨⟩)
   exact .inr hS2
 ·have hie : i = xs.length := by omega
  subst hie
  refine EV.done Q114_ok ?_
  (repeat first | refine nx ?_ | simp only [Cm7])
  exact .inl hIi
theorem Uq (xs : List Int) (s : Value) (hs : Sl M 1 ei s xs) (hl : xs.length ≤ 281474976710656) : Con Tryz.prog 157 #[s] M [] fun v M' G' => M.le M' ∧ G' = [] ∧ ∃ g caps, v = .func (.func g) #[] caps ∧ Oj Tryz.prog g #[] caps M' xs ElN := by
 have hs0 := hs
 obtain ⟨a, c, rfl, hr⟩ := hs
 refine Con.enter Q113_ok (args := [.slice a xs.length c]) (by simp [Eq7]) fun w0 => ?_
 simp only [Eq7, A3]
 repeat' first
   | refine EV.seq ?_
   | refine rg ?_
   | (with_reducible intro b; try refine nx ?_)
   | exact ⟨⟩
   | fail
 refine EV.keepS [] ?_
 generalize hR : M.add _ = N
 have hMN : M.le N := hR ▸ Aa.le_add _ _
 have hb : rd N b 0 1 [.slice a xs.length c] := hR ▸ Bz (T := 34) (cs := [.slice a xs.length c]) (by simp) rfl (by simp)
 clear hR
 (refine rt Q113_ok ?_; try with_reducible exact ⟨⟩)
 exact ⟨hMN, _, _, rfl, S4 xs _ (hs0.mono hMN) hl hb⟩
set_option maxHeartbeats 4000000 in
theorem Ol (xs : List Int) (hl : xs.length * 8 ≤ 140737488355328) {g : Nat} {caps : Array Value} (hit : Oj Tryz.prog g #[] caps M xs ElN) : Con Tryz.prog 172 #[.slice none 0 0, .func (.func g) #[] caps] M [] (Ag4 xs) := by
 refine Con.enter Q98_ok (args := [.slice none 0 0, .func (.func g) #[] caps]) (by simp [Q98]) fun w0 => ?_
 simp only [Q98, A3]
 repeat' first
   | refine EV.seq ?_
   | refine EV.block ?_
   | refine rg ?_
   | (with_reducible intro b; try refine nx ?_)
   | exact ⟨⟩
   | fail
 obtain ⟨sb, rfl⟩ : ∃ x, x = b := ⟨_, rfl⟩
 refine EV.overX rfl rfl rfl hit (fun d i M G' => ∃ ov : Vec, E7 1 ov i ((xs.take i).map vi) ∧ G'.Perm ((d, Obj.deferred (some [])) :: (sb, Cl 34 [osv ov i]) :: osg 3 ov ((xs.take i).map vi)))
  (fun d c M G' => False) ?_ ?_ ?_ ?_
 ·intro d
  exact ⟨none, ⟨rfl, rfl⟩, List.Perm.refl _⟩
 ·intro l d r hr1 hr2 i hi v M4 G4 w1 F hM4 ⟨ov, hov, hp4⟩ hel
  cases hel
  refine EV.permG ?_ (List.Perm.cons _ hp4)
  repeat' first
    | refine rg ?_
    | exact ⟨⟩
    | fail
  refine EV.rbegin hr1 ?_
  repeat' first
    | refine EV.block ?_
    | refine rg ?_
    | ((first | with_reducible intro b | refine xsA rfl ?_ | fail); try refine nx ?_)
    | exact ⟨⟩
    | fail
  refine ⟨[vi xs[i]], Or.inr ⟨_, 0, rfl, Bz (T := 3) (cs := [vi xs[i]]) (by simp) rfl (by simp)⟩, by simp [B6, C7, Value.oneCell'], Or.inl ⟨ov, _, rfl, _, hov, _, PullL.p, by simp only [maxLen]; omega, by omega, fun o2 ho2 hnn => ?_⟩⟩
  have e2 : (xs.take i).map vi ++ [vi xs[i]] = (xs.take (i + 1)).map vi := by rw [List.take_succ_eq_append_getElem hi, List.map_append]; rfl
  rw [e2] at ho2 ⊢
  simp only [List.cons_append, List.nil_append]
  repeat' first
    | refine EV.inBlock ?_
    | (refine xw ?_; refine nx ?_)
    | exact ⟨⟩
    | fail
  refine EV.reS (G' := (l, Obj.loop { r with state := .busy }) :: (d, Obj.deferred (some [])) :: (sb, Cl 34 [osv o2 (i + 1)]) :: osg 3 o2 ((xs.take (i + 1)).map vi)) ?_
  exact EV.rend hr1 hr2 (List.Perm.refl _) ⟨o2, ho2, List.Perm.refl _⟩
 ·rintro d M4 G4 hM4 ⟨ov, hov, hp4⟩
  rw [List.take_length] at hov hp4
  refine EV.permG ?_ hp4
  repeat' first
    | refine EV.seq ?_
    | refine EV.inBlock ?_
    | refine rg ?_
    | (refine xsA rfl ?_; try refine nx ?_)
    | exact ⟨⟩
    | fail
  refine EV.reS (G' := (d, Obj.deferred (some [])) :: osg 3 ov (xs.map vi)) ?_
  refine EV.retM Q98_ok (ms := [d]) (G1 := osg 3 ov (xs.map vi)) (List.Perm.refl _) ?_
  (repeat first | refine nx ?_ | simp only [Q98])
  exact ⟨ov, rfl, hov, rfl⟩
 ·intro d c M4 G4 hM4 h
  exact h.elim
theorem S5 (xs : List Int) (hl : xs.length * 8 ≤ 140737488355328) {g : Nat} {caps : Array Value} (hit : Oj Tryz.prog g #[] caps M xs ElN) : Con Tryz.prog 166 #[.func (.func g) #[] caps] M [] (Ag4 xs) := by
 refine Con.enter Q102_ok (args := [.func (.func g) #[] caps]) (by simp [Er6]) fun w0 => ?_
 simp only [Er6, A3]
 repeat' first
   | refine EV.seq ?_
   | refine rg ?_
   | exact ⟨⟩
   | fail
 refine Con.callS (G1 := []) (Ol xs hl hit) ?_
 rintro v1 M1 G1 hM1 ⟨o1, rfl, ho1, rfl⟩
 repeat' first
   | fail
 refine EV.reS (G' := osg 3 o1 (xs.map vi)) ?_
 (refine rt Q102_ok ?_; try with_reducible exact ⟨⟩)
 exact ⟨o1, rfl, ho1, rfl⟩
end
end Go.EV

namespace Go.EV
open Go.Proofs
variable {P : Program}
set_option maxHeartbeats 1000000 in
theorem Con.sortI {ρ : Go.Shelf.Ren} (L : SlLaysN.n53 P ρ) {M : Aa} (hgo : Xo P (ρ.f 53) = true) {b : Nat} {T : TypeId} {xs : List Int} {sp : List Value} {c : Nat} (hlen : xs.length < 4611686018427387904) :
  Con P (ρ.f 53) #[.slice (some ⟨b, 0, none⟩) xs.length c] M [(b, Cl T (xs.map (Value.int .i64) ++ sp))] fun v M' G' =>
   v = .tuple #[] ∧ M' = M ∧ G' = [(b, Cl T ((xs.mergeSort fun x y => decide (x ≤ y)).map (Value.int .i64) ++ sp))] := by
 refine ⟨hgo, fun w hs => ?_⟩
 have hb := hs.own (b, _) (List.mem_singleton_self ..)
 have hblt := hs.lt (List.mem_singleton_self ..)
 dsimp only at hb hblt
 have hH := R7 (Value.int .i64) hb
 have hsep : ∀ b' o, M b' o → b' ≠ b := fun b' o hm e => hs.sep _ (List.mem_singleton_self ..) o (e ▸ hm)
 refine (AnyG.slices_Sort_int L b 0 c xs w hH hblt hlen).mono ?_
 rintro e w' ⟨rfl, n, os, rfl⟩
 obtain ⟨d, hd⟩ : ∃ d, d = (xs.mergeSort fun x y => decide (x ≤ y)).toArray := ⟨_, rfl⟩
 rw [← hd]
 have hsz' : d.size = xs.length := by rw [hd]; simp
 have hdl : d.toList = xs.mergeSort fun x y => decide (x ≤ y) := by rw [hd]
 rw [← hdl]
 refine ⟨_, rfl, M, [(b, Cl T (d.toList.map (Value.int .i64) ++ sp))], ?_, rfl, rfl, rfl⟩
 have hrow := K4 (Value.int .i64) (Go.Sort.ahead w n) b d (T := T) (cs := xs.map (Value.int .i64) ++ sp) hb (by simp [hsz'])
 rw [hsz', List.drop_left' (by simp)] at hrow
 have hsize : w.heap.size ≤ (Go.Sort.grow (Go.Sort.putRow (Value.int .i64) (Go.Sort.ahead w n) b 0 d) os).heap.size := by
  show _ ≤ ((Go.Sort.putRow (Value.int .i64) (Go.Sort.ahead w n) b 0 d).heap ++ os).size
  rw [Array.size_append, Cz]; exact Nat.le_add_right _ _
 have hother : ∀ k, k < w.heap.size → k ≠ b → (Go.Sort.grow (Go.Sort.putRow (Value.int .i64) (Go.Sort.ahead w n) b 0 d) os).heap[k]? = w.heap[k]? := fun k hk hne => by
  show ((Go.Sort.putRow (Value.int .i64) (Go.Sort.ahead w n) b 0 d).heap ++ os)[k]? = _
  rw [Array.getElem?_append_left (by rw [Cz]; exact hk), Ho _ _ _ _ _ hne]; rfl
 have hat : (Go.Sort.grow (Go.Sort.putRow (Value.int .i64) (Go.Sort.ahead w n) b 0 d) os).heap[b]? = some (Cl T (d.toList.map (Value.int .i64) ++ sp)) := by
  show ((Go.Sort.putRow (Value.int .i64) (Go.Sort.ahead w n) b 0 d).heap ++ os)[b]? = _
  rw [Array.getElem?_append_left (by rw [Cz]; exact hblt)]; exact hrow
 refine ⟨rfl, ⟨rfl, Nat.le_add_right _ _⟩, rfl, hsize, fun k hk hf => hother k hk (fun e => hf (by simp [e])), fun k o hk => (hother k (hs.ltM hk) (hsep k o hk)).trans (hs.agree k o hk), ?_, ?_, ?_, by simp, Aa.le_refl _, fun k o hk => .inl hk⟩
 ·intro p hp; rw [List.mem_singleton] at hp; subst hp; exact hat
 ·intro p hp o hm; rw [List.mem_singleton] at hp; subst hp; exact hsep _ _ hm rfl
 ·intro p hp; rw [List.mem_singleton] at hp; subst hp; exact .inl (by simp)
theorem Con.sortINone {ρ : Go.Shelf.Ren} (L : SlLaysN.n53 P ρ) (hgo : Xo P (ρ.f 53) = true) {M : Aa} (p : Option Addr) (cap : Nat) :
  Con P (ρ.f 53) #[.slice p 0 cap] M [] fun v M' G' => v = .tuple #[] ∧ M' = M ∧ G' = [] := by
 refine ⟨hgo, fun w hs => (AnyG.slices_Sort_int_none L p cap w).mono ?_⟩
 rintro e w' ⟨rfl, rfl⟩
 exact ⟨_, rfl, M, [], hs, rfl, rfl, rfl⟩
end Go.EV

namespace Go.Proofs
open Go.Shelf Go.RowKit Go.Lib Go.Sort
def Tryz.sortInts_ren : Go.Shelf.Ren := ⟨fun | 53 => 167 | 64 => 126 | 63 => 173 | 78 => 150 | 79 => 151 | 70 => 176 | 71 => 177 | 72 => 178 | 73 => 179 | 74 => 180 | 75 => 181 | 59 => 182 | 76 => 183 | 77 => 184 | 88 => 186 | 89 => 161 | 90 => 162 | 91 => 187 | 92 => 188 | 68 => 152 | 96 => 189 | n => n, fun | 22 => 34 | 23 => 3 | 3 => 3 | 51 => 67 | 0 => 0 | 67 => 144 | 69 => 175 | 4 => 4 | 61 => 167 | 60 => 166 | 44 => 171 | 5 => 5 | 9 => 9 | 75 => 181 | 79 => 185 | 83 => 188 | 84 => 189 | n => n, fun | n => n⟩
theorem Tryz.sortInts : Go.Proofs.SlLaysN.n53 Tryz.prog Tryz.sortInts_ren := {
 mixed := by kernel_rfl
 f53 := ⟨Tryz.f167.name, by decide, Tryz.func167.trans (congrArg some (by kernel_rfl))⟩
 f59 := ⟨Tryz.f182.name, by decide, Tryz.func182.trans (congrArg some (by kernel_rfl))⟩
 f63 := ⟨Tryz.f173.name, by decide, Tryz.func173.trans (congrArg some (by kernel_rfl))⟩
 f64 := Tryz.func126.trans (congrArg some (by kernel_rfl))
 f68 := ⟨Tryz.f152.name, by decide, Tryz.func152.trans (congrArg some (by kernel_rfl))⟩
 f70 := ⟨Tryz.f176.name, by decide, Tryz.func176.trans (congrArg some (by kernel_rfl))⟩
 f71 := ⟨Tryz.f177.name, by decide, Tryz.func177.trans (congrArg some (by kernel_rfl))⟩
 f72 := ⟨Tryz.f178.name, by decide, Tryz.func178.trans (congrArg some (by kernel_rfl))⟩
 f73 := ⟨Tryz.f179.name, by decide, Tryz.func179.trans (congrArg some (by kernel_rfl))⟩
 f74 := ⟨Tryz.f180.name, by decide, Tryz.func180.trans (congrArg some (by kernel_rfl))⟩
 f75 := ⟨Tryz.f181.name, by decide, Tryz.func181.trans (congrArg some (by kernel_rfl))⟩
 f76 := ⟨Tryz.f183.name, by decide, Tryz.func183.trans (congrArg some (by kernel_rfl))⟩
 f77 := ⟨Tryz.f184.name, by decide, Tryz.func184.trans (congrArg some (by kernel_rfl))⟩
 f78 := Tryz.func150.trans (congrArg some (by kernel_rfl))
 f79 := Tryz.func151.trans (congrArg some (by kernel_rfl))
 f88 := ⟨Tryz.f186.name, by decide, Tryz.func186.trans (congrArg some (by kernel_rfl))⟩
 f89 := Tryz.func161.trans (congrArg some (by kernel_rfl))
 f90 := Tryz.func162.trans (congrArg some (by kernel_rfl))
 f91 := ⟨Tryz.f187.name, by decide, Tryz.func187.trans (congrArg some (by kernel_rfl))⟩
 f92 := ⟨Tryz.f188.name, by decide, Tryz.func188.trans (congrArg some (by kernel_rfl))⟩
 f96 := ⟨Tryz.f189.name, by decide, Tryz.func189.trans (congrArg some (by kernel_rfl))⟩
 t0 := Tryz.underlying0
 a0 := Tryz.isAgg0
 z0 := Tryz.sizeOf0
 v0 := Tryz.zeroValue0
 t3 := Tryz.underlying3
 a3 := Tryz.isAgg3
 z3 := Tryz.sizeOf3
 v3 := Tryz.zeroValue3
 t4 := Tryz.underlying4
 a4 := Tryz.isAgg4
 z4 := Tryz.sizeOf4
 v4 := Tryz.zeroValue4
 t5 := Tryz.underlying5
 a5 := Tryz.isAgg5
 z5 := Tryz.sizeOf5
 v5 := Tryz.zeroValue5
 t9 := Tryz.underlying9
 a9 := Tryz.isAgg9
 z9 := Tryz.sizeOf9
 v9 := Tryz.zeroValue9
 t22 := Tryz.underlying34
 a22 := Tryz.isAgg34
 z22 := Tryz.sizeOf34
 v22 := Tryz.zeroValue34
 t23 := Tryz.underlying3
 a23 := Tryz.isAgg3
 z23 := Tryz.sizeOf3
 v23 := Tryz.zeroValue3
 t44 := Tryz.underlying171
 a44 := Tryz.isAgg171
 z44 := Tryz.sizeOf171
 v44 := Tryz.zeroValue171
 t51 := Tryz.underlying67
 a51 := Tryz.isAgg67
 z51 := Tryz.sizeOf67
 v51 := Tryz.zeroValue67
 t60 := Tryz.underlying166
 a60 := Tryz.isAgg166
 z60 := Tryz.sizeOf166
 v60 := Tryz.zeroValue166
 t61 := Tryz.underlying167
 a61 := Tryz.isAgg167
 z61 := Tryz.sizeOf167
 v61 := Tryz.zeroValue167
 t67 := Tryz.underlying144
 a67 := Tryz.isAgg144
 z67 := Tryz.sizeOf144
 v67 := Tryz.zeroValue144
 t69 := Tryz.underlying175
 a69 := Tryz.isAgg175
 z69 := Tryz.sizeOf175
 v69 := Tryz.zeroValue175
 t75 := Tryz.underlying181
 a75 := Tryz.isAgg181
 z75 := Tryz.sizeOf181
 v75 := Tryz.zeroValue181
 t79 := Tryz.underlying185
 a79 := Tryz.isAgg185
 z79 := Tryz.sizeOf185
 v79 := Tryz.zeroValue185
 t83 := Tryz.underlying188
 a83 := Tryz.isAgg188
 z83 := Tryz.sizeOf188
 v83 := Tryz.zeroValue188
 t84 := Tryz.underlying189
 a84 := Tryz.isAgg189
 z84 := Tryz.sizeOf189
 v84 := Tryz.zeroValue189 }
end Go.Proofs
namespace Go.EV
open Go.Proofs
def Zu (a : List Int) : List Int := a.mergeSort fun x y => decide (x ≤ y)
theorem Rd (a : List Int) : (Zu a).Perm a := List.mergeSort_perm a _
theorem Nw (a : List Int) : (Zu a).length = a.length := (Rd a).length_eq
theorem At4 (a : List Int) : (Zu a).Pairwise (· ≤ ·) := by
 have := List.pairwise_mergeSort (le := fun x y : Int => decide (x ≤ y)) (fun a b c h1 h2 => by simp at *; omega) (fun a b => by simp; omega) a
 exact this.imp fun h => by simpa using h
theorem Jv : ∀ {l m : List Int}, l.Perm m → l.Pairwise (· ≤ ·) → m.Pairwise (· ≤ ·) → l = m
 | [], m, h, _, _ => (List.nil_perm.1 h).symm
 | a :: l, [], h, _, _ => absurd h.length_eq (by simp)
 | a :: l, b :: m, h, h1, h2 => by
  have h1' := List.pairwise_cons.1 h1
  have h2' := List.pairwise_cons.1 h2
  have hab : a = b := by
   have ha : a ∈ b :: m := h.mem_iff.1 (List.mem_cons_self ..)
   have hb : b ∈ a :: l := h.mem_iff.2 (List.mem_cons_self ..)
   rcases List.mem_cons.1 ha with ha | ha
   ·exact ha
   ·rcases List.mem_cons.1 hb with hb | hb
    ·exact hb.symm
    ·have := h1'.1 b hb
     have := h2'.1 a ha
     omega
  subst hab
  rw [Jv h.cons_inv h1'.2 h2'.2]
theorem V8 {a b : List Int} (hb : b.Pairwise (· < ·)) : Zu a = b ↔ a.Perm b := by
 constructor
 ·intro h; rw [← h]; exact (Rd a).symm
 ·intro h; exact Jv ((Rd a).trans h) (At4 a) (hb.imp fun h => by omega)
section
variable {M : Aa}
theorem Ur (xs : List Int) (hl : xs.length * 8 ≤ 140737488355328) {g : Nat} {caps : Array Value} (hit : Oj Tryz.prog g #[] caps M xs ElN) : Con Tryz.prog 156 #[.func (.func g) #[] caps] M [] (Ag4 (Zu xs)) := by
 refine Con.enter Q112_ok (args := [.func (.func g) #[] caps]) (by simp [Eq6]) fun w0 => ?_
 simp only [Eq6, A3]
 repeat' first
   | refine EV.seq ?_
   | refine rg ?_
   | exact ⟨⟩
   | fail
 refine Con.callS (G1 := []) (S5 xs hl hit) ?_
 rintro v1 M1 G1 hM1 ⟨o1, rfl, ho1, rfl⟩
 repeat' first
   | refine EV.seq ?_
   | refine rg ?_
   | exact ⟨⟩
   | fail
 rcases o1 with _ | ⟨rb, cap, sp⟩
 ·obtain ⟨h0, _⟩ := ho1
  have hx : xs = [] := List.length_eq_zero_iff.1 h0
  subst hx
  refine Con.callS (G1 := []) (Con.sortINone (P := Tryz.prog) (ρ := Tryz.sortInts_ren) (M := M1) Tryz.sortInts rfl none 0) ?_
  rintro v2 M2 G2 hM2 ⟨rfl, rfl, rfl⟩
  repeat' first
    | refine EV.seq ?_
    | refine rg ?_
    | exact ⟨⟩
    | fail
  refine EV.reS (G' := []) ?_
  (refine rt Q112_ok ?_; try with_reducible exact ⟨⟩)
  have h1 : Zu [] = [] := List.length_eq_zero_iff.1 (Nw [])
  rw [h1]
  exact ⟨none, rfl, ⟨rfl, rfl⟩, rfl⟩
 ·obtain ⟨h1, h2, h3, h4⟩ := ho1
  simp only [osg, Ht, Fo]
  refine Con.callS (G1 := [(rb, Cl 3 (xs.map vi ++ sp))]) (Con.sortI (P := Tryz.prog) (ρ := Tryz.sortInts_ren) (M := M1) Tryz.sortInts rfl (b := rb) (T := 3) (xs := xs) (sp := sp) (c := cap) (by omega)) ?_
  rintro v2 M2 G2 hM2 ⟨rfl, rfl, rfl⟩
  rw [show (xs.mergeSort fun x y => decide (x ≤ y)) = Zu xs from rfl]
  repeat' first
    | refine EV.seq ?_
    | refine rg ?_
    | exact ⟨⟩
    | fail
  refine EV.reS (G' := [(rb, Cl 3 ((Zu xs).map vi ++ sp))]) ?_
  (refine rt Q112_ok ?_; try with_reducible exact ⟨⟩)
  refine ⟨some (rb, cap, sp), by rw [Nw], ⟨by simp, by rw [List.length_append, List.length_map, Nw]; rw [List.length_append, List.length_map] at h2; omega, by rw [Nw]; exact h3, h4⟩, rfl⟩
theorem Us (xs ys : List Int) (s t : Value) (hs : Sl M 1 ei s xs) (ht : Sl M 1 ei t ys) (hb : xs.length ≤ 281474976710656) (hb2 : ys.length < 1000000) : Aq Tryz.prog 41 #[s, t] M (vb (decide (xs = ys))) := by
 by_cases hy : xs.length < 1000000
 ·exact O4 xs ys s t hs ht hy hb2
 obtain ⟨a, c, rfl, hrd⟩ := hs
 obtain ⟨a2, c2, rfl, hrd2⟩ := ht
 refine Con.enter Q107_ok (args := [.slice a xs.length c, .slice a2 ys.length c2]) (by simp [Bb3]) fun w0 => ?_
 simp only [Bb3, A3]
 repeat' first
   | refine EV.seq ?_
   | refine rg ?_
   | (refine cX (fun h => ?_) (fun h => ?_) <;> try exact Ah h)
   | exact ⟨⟩
   | fail
 (refine rt Q107_ok ?_; try with_reducible exact ⟨⟩)
 rw [decide_eq_false (by rintro rfl; exact hy hb2)]
theorem S6 (xs ys : List Int) (s t : Value) (hs : Sl M 1 ei s xs) (ht : Sl M 1 ei t ys) (hb : xs.length * 8 ≤ 140737488355328) (hb2 : ys.length < 1000000) : Aq Tryz.prog 134 #[s, t] M (vb (decide (Zu xs = ys))) := by
 refine Con.enter Q46_ok (args := [s, t]) (by simp [Q46]) fun w0 => ?_
 simp only [Q46, A3]
 have hv := Uq xs s hs (by omega)
 obtain ⟨a, c, rfl, hr⟩ := hs
 have ht0 := ht
 obtain ⟨a2, c2, rfl, hr2⟩ := ht
 repeat' first
   | refine EV.seq ?_
   | refine rg ?_
   | exact ⟨⟩
   | fail
 refine Con.callS (G1 := []) hv ?_
 rintro v1 M1 G1 hM1 ⟨_, rfl, g, caps, rfl, hit⟩
 repeat' first
   | fail
 refine Con.callS (G1 := []) (Ur xs hb hit) ?_
 rintro v2 M2 G2 hM2 ⟨o2, rfl, ho2, rfl⟩
 repeat' first
   | fail
 refine Aq.call (Us (Zu xs) ys _ _ ?_ ((ht0.mono (Aa.le_trans hM1 hM2)).mono (Aa.le_add _ _)) (by rw [Nw]; omega) hb2) ?_
 ·exact ⟨oad o2, Lt o2, rfl, by rw [Av]; exact D7 (T := 3) ho2 (fun q hq => by simpa using hq)⟩
 repeat' first
   | fail
 (refine rt Q46_ok ?_; try with_reducible exact ⟨⟩)
end
end Go.EV

namespace Go.EV
open Go.Proofs
def Zv (p : List Ev) (e : Exec) (i : Nat) : Bool :=
 if (evAt p i).reads = false then decide (Ae e i = -2) else
  decide (Ae e i = -1) || (decide (0 ≤ Ae e i) && (decide (Ae e i < p.length) && (Bx e.dn (Ae e i).toNat && (decide ((evAt p (Ae e i).toNat).op.kind ≠ 5) && decide ((evAt p (Ae e i).toNat).op.loc = (evAt p i).op.loc)))))
def okB (p : List Ev) (e : Exec) (i : Nat) : Bool :=
 if (evAt p i).op.kind = 1 ∨ (evAt p i).op.kind = 2 then Bx e.dn i else if (evAt p i).op.kind = 0 ∨ (evAt p i).op.kind = 5 then !Bx e.dn i else
 if (evAt p i).op.kind = 3 then !(Ap p e.frm).K i || (Bx e.dn i == decide ((Ap p e.frm).R i = (evAt p i).op.v)) else
 if (evAt p i).op.kind = 4 then !(Ap p e.frm).K i || (!Bx e.dn i || decide ((Ap p e.frm).R i = (evAt p i).op.v)) else true
structure Fit (p : List Ev) (e : Exec) : Prop where
 fl : e.frm.length = p.length
 dl : e.dn.length = p.length
 ol : e.ord.length = 3
 src : ∀ i, i < p.length → Zv p e i = true
 ok : ∀ i, i < p.length → okB p e i = true
 ord : ∀ k : Nat, k < 3 → (e.ord[k]?.getD []).Perm (Ar p e.dn k)
 fen : e.fen.Perm (Bi p)
theorem Zw {p : List Ev} {e : Exec} (hk : ∀ i, i < p.length → 0 ≤ (evAt p i).op.kind ∧ (evAt p i).op.kind ≤ 5) (h : Fit p e) : Shape p e := by
 refine ⟨h.fl, h.dl, h.ol, fun i hi h12 => ?_, fun i hi hd => ?_, fun i hi hr => ?_, fun i hi hr => ?_, h.ord, h.fen⟩
 ·have := h.ok i hi
  unfold okB at this
  rw [if_pos h12] at this; exact this
 ·have h1 := h.ok i hi
  have h2 := hk i hi
  unfold okB at h1
  apply Classical.byContradiction
  intro hn
  rw [if_neg (by omega), if_pos (by omega), hd] at h1
  cases h1
 ·have := h.src i hi
  unfold Zv at this
  rw [if_pos hr] at this; simpa using this
 ·have := h.src i hi
  unfold Zv at this
  rw [if_neg (by rw [hr]; decide)] at this
  simp only [Bool.or_eq_true, Bool.and_eq_true, decide_eq_true_eq] at this
  rcases this with h1 | ⟨h1, h2, h3, h4, h5⟩
  ·exact .inl h1
  ·exact .inr ⟨(Ae e i).toNat, by omega, by omega, h3, h5⟩
theorem Zx {p : List Ev} {e : Exec} (hk : ∀ i, i < p.length → 0 ≤ (evAt p i).op.kind ∧ (evAt p i).op.kind ≤ 5) : Fit p e ↔ Shape p e ∧ Qx p e := by
 constructor
 ·intro h
  have hs := Zw hk h
  refine ⟨hs, fun i x hx => ?_⟩
  obtain ⟨hi, hr⟩ := hx.lt
  have hK := Qw hs.fromOk hs.srcOk hi hr
  have h1 := hK.1.2 ⟨x, hx⟩
  have h2 := hK.2 x hx
  have h3 := h.ok i hi
  unfold okB at h3
  constructor
  ·intro k3
   rw [if_neg (by omega), if_neg (by omega), if_pos k3, h1, h2] at h3
   simp only [Bool.not_true, Bool.false_or, beq_iff_eq] at h3
   rw [h3, decide_eq_true_eq]
  ·intro k4 hd
   rw [if_neg (by omega), if_neg (by omega), if_neg (by omega), if_pos k4, h1, h2, hd] at h3
   simpa using h3
 ·rintro ⟨hs, hw⟩
  refine ⟨hs.fl, hs.dl, hs.ol, fun i hi => ?_, fun i hi => ?_, hs.ord, hs.fen⟩
  ·unfold Zv
   cases hr : (evAt p i).reads with
   | false => rw [if_pos rfl, hs.out i hi hr]; rfl
   | true =>
    rw [if_neg (by decide)]
    simp only [Bool.or_eq_true, Bool.and_eq_true, decide_eq_true_eq]
    rcases hs.src i hi hr with h1 | ⟨w, h1, h2, h3, h4⟩
    ·exact .inl h1
    ·rw [h1, Int.toNat_natCast]
     have := hs.dn0 w h2 h3
     exact .inr ⟨by omega, by omega, h3, by omega, h4⟩
  ·unfold okB
   split
   ·rename_i h; exact hs.dn1 i hi h
   ·rename_i h12
    split
    ·rename_i h05
     cases hd : Bx e.dn i with
     | false => rfl
     | true => have := hs.dn0 i hi hd; omega
    ·rename_i h05
     have hk := hk i hi
     have hr : (evAt p i).reads = true := by simp only [Ev.reads, Bool.and_eq_true, decide_eq_true_eq]; omega
     have hK := Qw hs.fromOk hs.srcOk hi hr
     cases hkn : (Ap p e.frm).K i with
     | false => split <;> simp
     | true =>
      obtain ⟨x, hx⟩ := hK.1.1 hkn
      have h2 := hK.2 x hx
      obtain ⟨w1, w2⟩ := hw i x hx
      rw [h2]
      split
      ·rename_i k3
       simp only [Bool.not_true, Bool.false_or, beq_iff_eq]
       cases hd : Bx e.dn i with
       | true => exact (decide_eq_true ((w1 k3).1 hd)).symm
       | false =>
        refine (decide_eq_false fun hh => ?_).symm
        have := (w1 k3).2 hh
        rw [hd] at this; cases this
      ·split
       ·rename_i k4
        simp only [Bool.not_true, Bool.false_or]
        cases hd : Bx e.dn i with
        | false => rfl
        | true => simp only [Bool.not_true, Bool.false_or]; exact decide_eq_true (w2 k4 hd)
       ·rfl
end Go.EV

namespace Go.EV
open Go.Proofs
section
variable {M : Aa}
set_option maxHeartbeats 600000 in
theorem Ut (p : List Ev) (s : Value) (hs : Sl M 6 A2 s p) (hpl : p.length < 1000000) (e : Exec) (v : Value) (hv : IsX M v e) (hfl : e.frm.length = p.length) (hdl : e.dn.length = p.length) (i : Nat) (hi : i < p.length) :
  Aq Tryz.prog 133 #[s, v, vi i] M (vb (Zv p e i)) := by
 obtain ⟨pa, pc, rfl, hpr⟩ := hs
 obtain ⟨f, d, o, n, rfl, ⟨fa, fc, rfl, hrf⟩, ⟨da, dc, rfl, hrd⟩, ⟨oa, oc, ovs, rfl, hol, hro, hko⟩, ⟨na, nc, rfl, hrn⟩⟩ := hv
 obtain ⟨pb, po, rfl, hpat⟩ := Sl.at (sz := 6) (enc := A2) (fun _ => rfl) (by decide) hpr (by omega)
 obtain ⟨fb, fo, rfl, hfat⟩ := Sl.at (sz := 1) (enc := ei) (fun _ => rfl) (by decide) hrf (by omega)
 obtain ⟨db, dof, rfl, hdat⟩ := Sl.at (sz := 1) (enc := eb) (fun _ => rfl) (by decide) hrd (by omega)
 have hpi := hpat i hi
 rw [← B5 hi] at hpi
 have hfi := hfat i (by omega)
 have hfe : e.frm[i]'(by omega) = Ae e i := by rw [Ae, List.getElem?_eq_getElem (by omega)]; rfl
 rw [Nat.mul_one] at hfi
 rw [hfe] at hfi
 obtain ⟨x, hx⟩ : ∃ x, x = Ae e i := ⟨_, rfl⟩
 rw [← hx] at hfi
 refine Con.enter Q36_ok (args := [.slice (some ⟨pb, po, none⟩) p.length pc, .agg #[.slice (some ⟨fb, fo, none⟩) e.frm.length fc, .slice (some ⟨db, dof, none⟩) e.dn.length dc, .slice oa e.ord.length oc, .slice na e.fen.length nc], vi i]) (by simp [Q36]) fun w0 => ?_
 simp only [Q36, A3]
 repeat' first
   | refine EV.seq ?_
   | refine EV.skip ?_
   | refine rg ?_
   | (refine Aq.call (Bv (evAt p i)) ?_; try refine nx ?_)
   | (refine cX (fun h => ?_) (fun h => ?_) <;> try exact Ah h)
   | (with_reducible intro b; try refine nx ?_)
   | (refine And.intro (by omega) ?_)
   | ((first | refine xm ?_ | refine xsA rfl ?_ | fail); try refine nx ?_)
   | exact ⟨⟩
   | fail
 ·(refine rt Q36_ok ?_; try with_reducible exact ⟨⟩)
  unfold Zv
  rw [if_pos h, hx]
 ·(refine rt Q36_ok ?_; try with_reducible exact ⟨⟩)
  rename_i hr
  unfold Zv
  rw [if_neg (by rw [hr]; decide), ← hx, h]; rfl
 ·rename_i hr
  have hsB : Zv p e i = (decide (0 ≤ x) && (decide (x < p.length) && (Bx e.dn x.toNat && (decide ((evAt p x.toNat).op.kind ≠ 5) && decide ((evAt p x.toNat).op.loc = (evAt p i).op.loc))))) := by
   unfold Zv
   rw [if_neg (by rw [hr]; decide), ← hx, decide_eq_false h, Bool.false_or]
  rw [hsB]
  refine EV.any (t := Ch7) _ (List.Sublist.refl _) ?_
  simp only [Am, Au, Al, As, reduceIte, Nat.reduceEqDiff]
  by_cases h0 : 0 ≤ x
  ·by_cases hn : x < p.length
   ·obtain ⟨w, rfl⟩ : ∃ w : Nat, x = w := ⟨x.toNat, by omega⟩
    have hw : w < p.length := by omega
    have hpw := hpat w hw
    rw [← B5 hw] at hpw
    have hdw := hdat w (by omega)
    have hde : e.dn[w]'(by omega) = Bx e.dn w := by rw [Bx, List.getElem?_eq_getElem (by omega)]; rfl
    rw [Nat.mul_one, hde] at hdw
    have hpwk := hpw.pt 0 1 (by omega) rfl
    have hpwl := hpw.pt 1 1 (by omega) rfl
    have hpil := hpi.pt 1 1 (by omega) rfl
    rw [Int.toNat_natCast]
    have k1 : decide ((0 : Int) ≤ (w : Int)) = true := decide_eq_true h0
    have k2 : decide ((w : Int) < (p.length : Int)) = true := decide_eq_true hn
    rw [k1, k2]
    have k0 : (0 : Int) ≤ (w : Int) := h0
    cases hdv : Bx e.dn w with
    | false =>
     rw [hdv] at hdw
     repeat' first
       | ((refine L3 (by first | with_reducible assumption | rfl) rfl ?_ (fun lq hlq hc => ?_) (fun lq hlq => ?_); rotate_left) <;> (try (exfalso; simp at hc; done)) <;> (repeat first | refine nz ?_ | simp only [k1, k2]))
       | ((first | refine zo (fun lq hlq => ?_) | refine zl ?_ | fail); (repeat first | refine nz ?_ | simp only [k1, k2]))
       | refine zf ?_
       | with_reducible rfl
       | (refine And.intro (by omega) ?_)
       | ((first | refine xm ?_ | refine xsA rfl ?_ | fail); (repeat first | refine nz ?_ | simp only [k1, k2]))
       | exact false
       | fail
     (refine rt Q36_ok ?_; try with_reducible exact ⟨⟩)
     simp
    | true =>
     rw [hdv] at hdw
     by_cases h5 : (evAt p w).op.kind = 5
     ·have k3 : decide ((evAt p w).op.kind = 5) = true := decide_eq_true h5
      repeat' first
        | ((refine L3 (by first | with_reducible assumption | rfl) rfl ?_ (fun lq hlq hc => ?_) (fun lq hlq => ?_); rotate_left) <;> (try (exfalso; simp at hc; done)) <;> (repeat first | refine nz ?_ | simp only [k1, k2, k3, Bool.not_true]))
        | ((first | refine zo (fun lq hlq => ?_) | refine zl ?_ | fail); (repeat first | refine nz ?_ | simp only [k1, k2, k3, Bool.not_true]))
        | refine zf ?_
        | with_reducible rfl
        | (refine And.intro (by omega) ?_)
        | ((first | refine xm ?_ | refine xsA rfl ?_ | fail); (repeat first | refine nz ?_ | simp only [k1, k2, k3, Bool.not_true]))
        | exact false
        | fail
      (refine rt Q36_ok ?_; try with_reducible exact ⟨⟩)
      simp [h5]
     ·have k3 : decide ((evAt p w).op.kind = 5) = false := decide_eq_false h5
      repeat' first
        | ((refine L3 (by first | with_reducible assumption | rfl) rfl ?_ (fun lq hlq hc => ?_) (fun lq hlq => ?_); rotate_left) <;> (try (exfalso; simp at hc; done)) <;> (repeat first | refine nz ?_ | simp only [k1, k2, k3, Bool.not_false]))
        | ((first | refine zo (fun lq hlq => ?_) | refine zl ?_ | fail); (repeat first | refine nz ?_ | simp only [k1, k2, k3, Bool.not_false]))
        | refine zf ?_
        | with_reducible rfl
        | (refine And.intro (by omega) ?_)
        | ((first | refine xm ?_ | refine xsA rfl ?_ | fail); (repeat first | refine nz ?_ | simp only [k1, k2, k3, Bool.not_false]))
        | fail
      (refine rt Q36_ok ?_; try with_reducible exact ⟨⟩)
      simp [h5]
   ·have k1 : decide (0 ≤ x) = true := decide_eq_true h0
    have k2 : decide (x < (p.length : Int)) = false := decide_eq_false hn
    repeat' first
      | ((refine L3 (by first | with_reducible assumption | rfl) rfl ?_ (fun lq hlq hc => ?_) (fun lq hlq => ?_); rotate_left) <;> (try (exfalso; simp at hc; done)) <;> (repeat first | refine nz ?_ | simp only [k1, k2]))
      | ((first | refine zo (fun lq hlq => ?_) | refine zl ?_ | fail); (repeat first | refine nz ?_ | simp only [k1, k2]))
      | refine zf ?_
      | with_reducible rfl
      | exact false
      | fail
    repeat' first
      | fail
    (refine rt Q36_ok ?_; try with_reducible exact ⟨⟩)
    simp
  ·have k1 : decide (0 ≤ x) = false := decide_eq_false h0
   repeat' first
     | ((refine L3 (by first | with_reducible assumption | rfl) rfl ?_ (fun lq hlq hc => ?_) (fun lq hlq => ?_); rotate_left) <;> (try (exfalso; simp at hc; done)) <;> (repeat first | refine nz ?_ | simp only [k1]))
     | ((first | refine zo (fun lq hlq => ?_) | refine zl ?_ | fail); (repeat first | refine nz ?_ | simp only [k1]))
     | refine zf ?_
     | exact false
     | fail
   repeat' first
     | fail
   (refine rt Q36_ok ?_; try with_reducible exact ⟨⟩)
   simp
theorem Uu (p : List Ev) {pb po pc b1 : Nat} (h1 : rd M b1 0 1 [.slice (some ⟨pb, po, none⟩) p.length pc]) (i : Nat) (hi : i < p.length) (hp : rd M pb (po + i * 6) 6 (A2 (evAt p i))) :
  Aq Tryz.prog 135 #[vi i, pv b1 0] M (vb (evAt p i).strong) := by
 have hi' : (i : Int) < p.length := by omega
 refine Con.enter Q22_ok (args := [vi i, pv b1 0]) (by simp [Q22]) fun w0 => ?_
 simp only [Q22, A3]
 repeat' first
   | refine EV.seq ?_
   | refine rg ?_
   | (refine Aq.call (L6 (evAt p i)) ?_; try refine nx ?_)
   | refine rt Q22_ok ?_
   | (refine And.intro (by omega) ?_)
   | ((first | refine xm ?_ | refine xn ?_ | fail); try refine nx ?_)
   | exact ⟨⟩
   | fail
open Classical in
noncomputable def At5 (p : List Ev) (e : Exec) : Bool := decide (Fit p e)
open Classical in
theorem Kd {p : List Ev} {e : Exec} (h : ¬ Fit p e) : At5 p e = false := decide_eq_false h
open Classical in
theorem V9 {p : List Ev} {e : Exec} (h : Fit p e) : At5 p e = true := decide_eq_true h
set_option maxHeartbeats 2000000 in
theorem Ad5 (p : List Ev) (s : Value) (hs : Sl M 6 A2 s p) (hp : POk p) (hkd : ∀ i, i < p.length → 0 ≤ (evAt p i).op.kind ∧ (evAt p i).op.kind ≤ 5) (e : Exec) (v : Value) (hv : IsX M v e) (hf8 : e.fen.length * 8 ≤ 140737488355328) (hfl : e.frm.length ≤ 140737488355328) (hdl : e.dn.length ≤ 140737488355328) (hol0 : e.ord.length ≤ 140737488355328) (ho8 : ∀ l ∈ e.ord, l.length * 8 ≤ 140737488355328) :
  Aq Tryz.prog 101 #[s, v] M (vb (At5 p e)) := by
 have hpl := hp.len
 have hs0 := hs
 have hv0 := hv
 obtain ⟨pa, pc, rfl, hpr⟩ := hs
 obtain ⟨f, d, o, n, rfl, ⟨fa, fc, rfl, hrf⟩, ⟨da, dc, rfl, hrd⟩, ⟨oa, oc, ovs, rfl, hol, hro, hko⟩, ⟨na, nc, rfl, hrn⟩⟩ := hv
 refine Con.enter Q21_ok (args := [.slice pa p.length pc, .agg #[.slice fa e.frm.length fc, .slice da e.dn.length dc, .slice oa e.ord.length oc, .slice na e.fen.length nc]]) (by simp [Q21]) fun w0 => ?_
 simp only [Q21, A3]
 refine EV.seq ?_
 repeat' first
   | refine rg ?_
   | (with_reducible intro b; try refine nx ?_)
   | exact ⟨⟩
   | fail
 rename_i lb
 obtain ⟨xb, rfl⟩ : ∃ x, x = b := ⟨_, rfl⟩
 refine EV.keepS [] ?_
 generalize hR : M.add _ = N
 have hMN : M.le N := hR ▸ Aa.le_add _ _
 have hlb : rd N lb 0 1 [.slice pa p.length pc] := hR ▸ Bz (T := 74) (cs := [.slice pa p.length pc]) (by simp) rfl (by simp)
 have hxb : rd N xb 0 4 [.slice fa e.frm.length fc, .slice da e.dn.length dc, .slice oa e.ord.length oc, .slice na e.fen.length nc] := hR ▸ Bz (T := 45) (cs := [.slice fa e.frm.length fc, .slice da e.dn.length dc, .slice oa e.ord.length oc, .slice na e.fen.length nc]) (by simp) rfl (by simp)
 clear hR
 have hxf := hxb.pt 0 1 (by omega) rfl
 have hxd := hxb.pt 1 1 (by omega) rfl
 have hxo := hxb.pt 2 1 (by omega) rfl
 have hxn := hxb.pt 3 1 (by omega) rfl
 simp only [Nat.zero_add] at hxf hxd hxo hxn
 have hsN := hs0.mono hMN
 have hvN := IsX.mono hMN hv0
 refine EV.seq (EV.seq ?_)
 repeat' first
   | refine EV.skip ?_
   | refine rg ?_
   | with_reducible assumption
   | (refine Az.merge ?_ (fun hc K' hK => ?_) ?_; rotate_left)
   | (refine cX (fun h => ?_) (fun h => ?_) <;> try exact Ah h)
   | (refine xn ?_; try refine nx ?_)
   | exact ⟨⟩
   | fail
 ·have hno : At5 p e = false := by
   refine Kd fun hf => ?_
   have h1 := hf.fl
   have h2 := hf.dl
   have h3 := hf.ol
   simp [h1, h2, h3] at h
  repeat' first
    | refine EV.seq ?_
    | refine rg ?_
    | exact ⟨⟩
    | fail
  (refine rt Q21_ok ?_; try with_reducible exact ⟨⟩)
  rw [hno]
 obtain ⟨e1, e2, e3⟩ : e.frm.length = p.length ∧ e.dn.length = p.length ∧ e.ord.length = 3 := by
  omega
 refine EV.seq (EV.seq ?_)
 repeat' first
   | refine EV.block ?_
   | refine rg ?_
   | (refine xn ?_; try refine nx ?_)
   | exact ⟨⟩
   | fail
 have hsrc := fun G i hi => Ut (M := N.add G) p _ (hsN.mono (Aa.le_add _ _)) (by omega) e _ (IsX.mono (Aa.le_add _ _) hvN) e1 e2 i hi
 refine EV.loopTo (fun i : Nat => ([(2, pv lb 0), (3, pv xb 0), (4, .bool false), (35, vi p.length), (36, vi i)], N, [])) (fun i => i ≤ p.length ∧ ∀ j, j < i → Zv p e j = true) (fun i => p.length - i) 0 rfl ⟨Nat.zero_le _, fun j h => absurd h (Nat.not_lt_zero _)⟩ ?env1 (List.nil_sublist _) ?_
 case env1 =>
  exact eE
 rintro i ⟨hi, hsi⟩ ih
 dsimp only at hi hsi ih ⊢
 refine EV.seq ?_
 repeat' first
   | refine rg ?_
   | exact ⟨⟩
   | fail
 refine EV.seq ?_
 repeat' first
   | refine EV.skip ?_
   | (refine cX (fun h => ?_) (fun h => ?_) <;> try exact Ah h)
   | (refine EV.exit rfl ?_)
   | fail
 ·have hi' : i < p.length := by omega
  repeat' first
    | refine EV.seq ?_
    | refine EV.skip ?_
    | refine EV.block ?_
    | refine EV.inBlock ?_
    | refine rg ?_
    | (refine Aq.call (hsrc _ i hi') ?_; try refine nx ?_)
    | (refine cX (fun h => ?_) (fun h => ?_) <;> try exact Ah h)
    | ((first | refine xm ?_ | refine xn ?_ | fail); try refine nx ?_)
    | exact ⟨⟩
    | fail
  ·have hno : At5 p e = false := by
    refine Kd fun hf => ?_
    rw [hf.src i hi'] at h; cases h
   (refine rt Q21_ok ?_; try with_reducible exact ⟨⟩)
   rw [hno]
  ·refine EV.to (ih (i + 1) ⟨by omega, fun j hj => ?_⟩ (by omega)) ?_ (List.nil_sublist _)
   ·by_cases hji : j < i
    ·exact hsi j hji
    ·have : j = i := by omega
     subst this; exact h
   ·exact eE
 have hie : i = p.length := by omega
 subst hie
 clear ih
 have hfo : Cs p e.frm := ⟨e1, fun j hj hr => by
  have := hsi j hj
  unfold Zv at this
  rw [if_neg (by rw [hr]; decide)] at this
  simp only [Bool.or_eq_true, Bool.and_eq_true, decide_eq_true_eq] at this
  unfold Ae at this
  omega⟩
 have hwc := J3 p _ hsN (by omega) e.frm (.slice fa e.frm.length fc) (.slice da e.dn.length dc) (.slice oa e.ord.length oc) (.slice na e.fen.length nc) ⟨fa, fc, rfl, hrf.mono hMN⟩ hfo
 refine EV.seq ?_
 repeat' first
   | refine rg ?_
   | ((first | refine xm ?_ | refine xn ?_ | fail); try refine nx ?_)
   | exact ⟨⟩
   | fail
 refine Con.callS (G1 := []) hwc ?_
 rintro v1 M1 G1 hM1 ⟨rv, wv, kv, rfl, hrv, hwv, hkv⟩
 repeat' first
   | fail
 refine EV.seq (EV.seq ?_)
 have hlb1 := hlb.mono hM1
 have hxb1 := hxb.mono hM1
 have hxd1 := hxd.mono hM1
 have hxo1 := hxo.mono hM1
 have hxn1 := hxn.mono hM1
 repeat' first
   | refine EV.block ?_
   | refine rg ?_
   | (refine xn ?_; try refine nx ?_)
   | exact ⟨⟩
   | fail
 have hlen := (Dz hfo (p.length + 1)).len
 obtain ⟨ra, rc, rfl, hrr⟩ := hrv
 obtain ⟨ka, kc, rfl, hkr⟩ := hkv
 have hrl : (Ap p e.frm).r.length = p.length := hlen.r
 have hkl : (Ap p e.frm).k.length = p.length := hlen.k
 refine EV.reS (G' := []) ?_
 refine EV.loopTo (fun x : Nat × Aa => ([(2, pv lb 0), (3, pv xb 0), (4, .bool false), (6, .slice ra (Ap p e.frm).r.length rc), (8, .slice ka (Ap p e.frm).k.length kc), (52, .slice pa p.length pc), (53, vi p.length), (54, vi x.1)], x.2, [])) (fun x => x.1 ≤ p.length ∧ M1.le x.2 ∧ ∀ j, j < x.1 → okB p e j = true) (fun x => p.length - x.1) (0, M1) rfl ⟨Nat.zero_le _, Aa.le_refl _, fun j h => absurd h (Nat.not_lt_zero _)⟩ ?env2 (List.nil_sublist _) ?_
 case env2 =>
  exact eE
 rintro ⟨i, Mi⟩ ⟨hi, hMi, hoi⟩ ih
 dsimp only at hi hMi hoi ih ⊢
 refine EV.seq ?_
 repeat' first
   | refine rg ?_
   | exact ⟨⟩
   | fail
 refine EV.seq ?_
 repeat' first
   | refine EV.skip ?_
   | (refine cX (fun h => ?_) (fun h => ?_) <;> try exact Ah h)
   | (refine EV.exit rfl ?_)
   | fail
 ·have hi' : i < p.length := by omega
  obtain ⟨pb, po, rfl, hpat⟩ := Sl.at (sz := 6) (enc := A2) (fun _ => rfl) (by decide) hpr (by omega)
  obtain ⟨db, dof, rfl, hdat⟩ := Sl.at (sz := 1) (enc := eb) (fun _ => rfl) (by decide) hrd (by omega)
  obtain ⟨rb, ro, rfl, hrat⟩ := Sl.at (sz := 1) (enc := ei) (fun _ => rfl) (by decide) hrr (by omega)
  obtain ⟨kb, ko, rfl, hkat⟩ := Sl.at (sz := 1) (enc := eb) (fun _ => rfl) (by decide) hkr (by omega)
  have hpi := (((hpat i hi').mono hMN).mono hM1).mono hMi
  rw [← B5 hi'] at hpi
  have hdi := (((hdat i (by omega)).mono hMN).mono hM1).mono hMi
  have hri := (hrat i (by omega)).mono hMi
  have hki := (hkat i (by omega)).mono hMi
  rw [show e.dn[i]'(by omega) = Bx e.dn i by rw [Bx, List.getElem?_eq_getElem (by omega)]; rfl, Nat.mul_one] at hdi
  rw [show (Ap p e.frm).r[i]'(by omega) = (Ap p e.frm).R i by rw [Wd.R, List.getElem?_eq_getElem (by omega)]; rfl, Nat.mul_one] at hri
  rw [show (Ap p e.frm).k[i]'(by omega) = (Ap p e.frm).K i by rw [Wd.K, List.getElem?_eq_getElem (by omega)]; rfl, Nat.mul_one] at hki
  refine EV.seq (EV.block (EV.seq ?_))
  repeat' first
    | refine rg ?_
    | (with_reducible intro b; try refine nx ?_)
    | (refine And.intro (by omega) ?_)
    | (refine xm ?_; try refine nx ?_)
    | (refine xw ?_; refine nx ?_)
    | exact ⟨⟩
    | fail
  refine EV.keepS [] ?_
  generalize hR : Mi.add _ = N2
  have hN2 : Mi.le N2 := hR ▸ Aa.le_add _ _
  have hev : rd N2 b 0 6 (A2 (evAt p i)) := hR ▸ Bz (T := 121) (cs := A2 (evAt p i)) (by simp) rfl (Nat.le_refl _)
  clear hR
  have hkk : rd N2 b 0 1 [vi (evAt p i).op.kind] := hev.pt 0 1 (by omega) rfl
  have hvv : rd N2 b 2 1 [vi (evAt p i).op.v] := by have := hev.pt 2 1 (by omega) rfl; rwa [Nat.zero_add] at this
  have hxb2 := (hxb1.mono hMi).mono hN2
  have hxd2 := (hxd1.mono hMi).mono hN2
  have hdi2 := hdi.mono hN2
  have hri2 := hri.mono hN2
  have hki2 := hki.mono hN2
  have hih : okB p e i = true → _ := fun ho => ih (i + 1, N2) ⟨by dsimp only; omega, Aa.le_trans hMi hN2, fun j hj => by
   dsimp only at hj
   by_cases hji : j < i
   ·exact hoi j hji
   ·have : j = i := by omega
    subst this; exact ho⟩ (by dsimp only; omega)
  dsimp only at hih
  have hno : okB p e i = false → At5 p e = false := fun ho => Kd fun hf => by rw [hf.ok i hi'] at ho; cases ho
  have hkr0 := hkd i hi'
  have hkc : (evAt p i).op.kind = 0 ∨ (evAt p i).op.kind = 1 ∨ (evAt p i).op.kind = 2 ∨ (evAt p i).op.kind = 3 ∨ (evAt p i).op.kind = 4 ∨ (evAt p i).op.kind = 5 := by omega
  rcases hkc with hkc | hkc | hkc | hkc | hkc | hkc
  · -- kind 0
   have d0 : decide ((evAt p i).op.kind = 0) = true := by rw [hkc]; rfl
   have d1 : decide ((evAt p i).op.kind = 1) = false := by rw [hkc]; rfl
   have d2 : decide ((evAt p i).op.kind = 2) = false := by rw [hkc]; rfl
   have d3 : decide ((evAt p i).op.kind = 3) = false := by rw [hkc]; rfl
   have d4 : decide ((evAt p i).op.kind = 4) = false := by rw [hkc]; rfl
   have d5 : decide ((evAt p i).op.kind = 5) = false := by rw [hkc]; rfl
   repeat' first
     | refine EV.seq ?_
     | refine EV.skip ?_
     | refine EV.block ?_
     | refine EV.inBlock ?_
     | (refine EV.reg ?_; (conv => (arg 2; whnf)); (repeat first | refine nx ?_ | simp only [d0, d1, d2, d3, d4, d5]))
     | (refine cX (fun h => ?_) (fun h => ?_) <;> try exact Ah h)
     | (refine And.intro (by omega) ?_)
     | ((first | refine xm ?_ | refine xn ?_ | fail); (repeat first | refine nx ?_ | simp only [d0, d1, d2, d3, d4, d5]))
     | fail
   ·(refine rt Q21_ok ?_; try with_reducible exact ⟨⟩)
    rw [hno (by unfold okB; simp [hkc, h])]
   ·refine EV.to (hih (by unfold okB; simp [hkc, h])) ?_ (List.nil_sublist _)
    exact eE
  · -- kind 1
   have d0 : decide ((evAt p i).op.kind = 0) = false := by rw [hkc]; rfl
   have d1 : decide ((evAt p i).op.kind = 1) = true := by rw [hkc]; rfl
   have d2 : decide ((evAt p i).op.kind = 2) = false := by rw [hkc]; rfl
   have d3 : decide ((evAt p i).op.kind = 3) = false := by rw [hkc]; rfl
   have d4 : decide ((evAt p i).op.kind = 4) = false := by rw [hkc]; rfl
   have d5 : decide ((evAt p i).op.kind = 5) = false := by rw [hkc]; rfl
   repeat' first
     | refine EV.seq ?_
     | refine EV.skip ?_
     | refine EV.block ?_
     | refine EV.inBlock ?_
     | (refine EV.reg ?_; (conv => (arg 2; whnf)); (repeat first | refine nx ?_ | simp only [d0, d1, d2, d3, d4, d5]))
     | (refine cX (fun h => ?_) (fun h => ?_) <;> try exact Ah h)
     | (refine And.intro (by omega) ?_)
     | ((first | refine xm ?_ | refine xn ?_ | fail); (repeat first | refine nx ?_ | simp only [d0, d1, d2, d3, d4, d5]))
     | fail
   ·(refine rt Q21_ok ?_; try with_reducible exact ⟨⟩)
    rw [hno (by unfold okB; simp [hkc, h])]
   ·refine EV.to (hih (by unfold okB; simp [hkc, h])) ?_ (List.nil_sublist _)
    exact eE
  · -- kind 2
   have d0 : decide ((evAt p i).op.kind = 0) = false := by rw [hkc]; rfl
   have d1 : decide ((evAt p i).op.kind = 1) = false := by rw [hkc]; rfl
   have d2 : decide ((evAt p i).op.kind = 2) = true := by rw [hkc]; rfl
   have d3 : decide ((evAt p i).op.kind = 3) = false := by rw [hkc]; rfl
   have d4 : decide ((evAt p i).op.kind = 4) = false := by rw [hkc]; rfl
   have d5 : decide ((evAt p i).op.kind = 5) = false := by rw [hkc]; rfl
   repeat' first
     | refine EV.seq ?_
     | refine EV.skip ?_
     | refine EV.block ?_
     | refine EV.inBlock ?_
     | (refine EV.reg ?_; (conv => (arg 2; whnf)); (repeat first | refine nx ?_ | simp only [d0, d1, d2, d3, d4, d5]))
     | (refine cX (fun h => ?_) (fun h => ?_) <;> try exact Ah h)
     | (refine And.intro (by omega) ?_)
     | ((first | refine xm ?_ | refine xn ?_ | fail); (repeat first | refine nx ?_ | simp only [d0, d1, d2, d3, d4, d5]))
     | fail
   ·(refine rt Q21_ok ?_; try with_reducible exact ⟨⟩)
    rw [hno (by unfold okB; simp [hkc, h])]
   ·refine EV.to (hih (by unfold okB; simp [hkc, h])) ?_ (List.nil_sublist _)
    exact eE
  · -- kind 3
   have d0 : decide ((evAt p i).op.kind = 0) = false := by rw [hkc]; rfl
   have d1 : decide ((evAt p i).op.kind = 1) = false := by rw [hkc]; rfl
   have d2 : decide ((evAt p i).op.kind = 2) = false := by rw [hkc]; rfl
   have d3 : decide ((evAt p i).op.kind = 3) = true := by rw [hkc]; rfl
   have d4 : decide ((evAt p i).op.kind = 4) = false := by rw [hkc]; rfl
   have d5 : decide ((evAt p i).op.kind = 5) = false := by rw [hkc]; rfl
   repeat' first
     | refine EV.seq ?_
     | refine EV.block ?_
     | (refine EV.reg ?_; (conv => (arg 2; whnf)); (repeat first | refine nx ?_ | simp only [d0, d1, d2, d3, d4, d5]))
     | (refine cX (fun h => ?_) (fun h => ?_) <;> try exact Ah h)
     | (refine xm ?_; (repeat first | refine nx ?_ | simp only [d0, d1, d2, d3, d4, d5]))
     | fail
   refine EV.any (t := Ag0) [] (List.nil_sublist _) ?_
   simp only [Am, Au, Al, As, reduceIte, Nat.reduceEqDiff]
   cases hK : (Ap p e.frm).K i with
   | false =>
    rw [hK] at hki2
    repeat' first
      | ((refine L3 (by first | with_reducible assumption | rfl) rfl ?_ (fun lq hlq hc => ?_) (fun lq hlq => ?_); rotate_left) <;> (try (exfalso; simp at hc; done)) <;> (repeat first | refine nz ?_ | simp only [Bool.not_false]))
      | ((first | refine zo (fun lq hlq => ?_) | refine zl ?_ | fail); (repeat first | refine nz ?_ | simp only [Bool.not_false]))
      | refine zf ?_
      | (refine And.intro (by omega) ?_)
      | (refine xm ?_; (repeat first | refine nz ?_ | simp only [Bool.not_false]))
      | exact false
      | fail
    repeat' first
      | refine EV.seq ?_
      | refine EV.skip ?_
      | refine EV.inBlock ?_
      | refine rg ?_
      | (refine cX (fun h => ?_) (fun h => ?_) <;> try exact Ah h)
      | exact ⟨⟩
      | fail
    refine EV.to (hih (by unfold okB; simp [hkc, hK])) ?_ (List.nil_sublist _)
    exact eE
   | true =>
    rw [hK] at hki2
    cases hD : Bx e.dn i with
    | false =>
     rw [hD] at hdi2
     repeat' first
       | ((refine L3 (by first | with_reducible assumption | rfl) rfl ?_ (fun lq hlq hc => ?_) (fun lq hlq => ?_); rotate_left) <;> (try (exfalso; simp at hc; done)) <;> (repeat first | refine nz ?_ | simp only [Bool.not_false, Bool.not_true]))
       | ((first | refine zo (fun lq hlq => ?_) | refine zl ?_ | fail); (repeat first | refine nz ?_ | simp only [Bool.not_false, Bool.not_true]))
       | refine zf ?_
       | with_reducible rfl
       | (refine And.intro (by omega) ?_)
       | ((first | refine xm ?_ | refine xn ?_ | fail); (repeat first | refine nz ?_ | simp only [Bool.not_false, Bool.not_true]))
       | fail
     repeat' first
       | refine EV.seq ?_
       | refine EV.skip ?_
       | refine EV.inBlock ?_
       | refine rg ?_
       | (refine cX (fun h => ?_) (fun h => ?_) <;> try exact Ah h)
       | exact ⟨⟩
       | fail
     ·(refine rt Q21_ok ?_; try with_reducible exact ⟨⟩)
      rw [hno (by unfold okB; simp [hkc, hK, hD, h])]
     ·refine EV.to (hih (by unfold okB; simp [hkc, hK, hD, h])) ?_ (List.nil_sublist _)
      exact eE
    | true =>
     rw [hD] at hdi2
     repeat' first
       | ((refine L3 (by first | with_reducible assumption | rfl) rfl ?_ (fun lq hlq hc => ?_) (fun lq hlq => ?_); rotate_left) <;> (try (exfalso; simp at hc; done)) <;> (repeat first | refine nz ?_ | simp only [Bool.not_false, Bool.not_true]))
       | ((first | refine zo (fun lq hlq => ?_) | refine zl ?_ | fail); (repeat first | refine nz ?_ | simp only [Bool.not_false, Bool.not_true]))
       | refine zf ?_
       | with_reducible rfl
       | (refine And.intro (by omega) ?_)
       | ((first | refine xm ?_ | refine xn ?_ | fail); (repeat first | refine nz ?_ | simp only [Bool.not_false, Bool.not_true]))
       | fail
     repeat' first
       | refine EV.seq ?_
       | refine EV.skip ?_
       | refine EV.inBlock ?_
       | refine rg ?_
       | (refine cX (fun h => ?_) (fun h => ?_) <;> try exact Ah h)
       | exact ⟨⟩
       | fail
     ·(refine rt Q21_ok ?_; try with_reducible exact ⟨⟩)
      rw [hno (by unfold okB; simp [hkc, hK, hD, h])]
     ·refine EV.to (hih (by unfold okB; simp [hkc, hK, hD, h])) ?_ (List.nil_sublist _)
      exact eE
  · -- kind 4
   have d0 : decide ((evAt p i).op.kind = 0) = false := by rw [hkc]; rfl
   have d1 : decide ((evAt p i).op.kind = 1) = false := by rw [hkc]; rfl
   have d2 : decide ((evAt p i).op.kind = 2) = false := by rw [hkc]; rfl
   have d3 : decide ((evAt p i).op.kind = 3) = false := by rw [hkc]; rfl
   have d4 : decide ((evAt p i).op.kind = 4) = true := by rw [hkc]; rfl
   have d5 : decide ((evAt p i).op.kind = 5) = false := by rw [hkc]; rfl
   repeat' first
     | refine EV.seq ?_
     | refine EV.block ?_
     | (refine EV.reg ?_; (conv => (arg 2; whnf)); (repeat first | refine nx ?_ | simp only [d0, d1, d2, d3, d4, d5]))
     | (refine cX (fun h => ?_) (fun h => ?_) <;> try exact Ah h)
     | (refine xm ?_; (repeat first | refine nx ?_ | simp only [d0, d1, d2, d3, d4, d5]))
     | fail
   refine EV.any (t := Ag1) [] (List.nil_sublist _) ?_
   simp only [Am, Au, Al, As, reduceIte, Nat.reduceEqDiff]
   cases hK : (Ap p e.frm).K i with
   | false =>
    rw [hK] at hki2
    repeat' first
      | ((refine L3 (by first | with_reducible assumption | rfl) rfl ?_ (fun lq hlq hc => ?_) (fun lq hlq => ?_); rotate_left) <;> (try (exfalso; simp at hc; done)) <;> (repeat first | refine nz ?_ | simp only [Bool.not_false]))
      | ((first | refine zo (fun lq hlq => ?_) | refine zl ?_ | fail); (repeat first | refine nz ?_ | simp only [Bool.not_false]))
      | refine zf ?_
      | (refine And.intro (by omega) ?_)
      | (refine xm ?_; (repeat first | refine nz ?_ | simp only [Bool.not_false]))
      | exact false
      | fail
    repeat' first
      | refine EV.seq ?_
      | refine EV.skip ?_
      | refine EV.inBlock ?_
      | refine rg ?_
      | (refine cX (fun h => ?_) (fun h => ?_) <;> try exact Ah h)
      | exact ⟨⟩
      | fail
    refine EV.to (hih (by unfold okB; simp [hkc, hK])) ?_ (List.nil_sublist _)
    exact eE
   | true =>
    rw [hK] at hki2
    cases hD : Bx e.dn i with
    | false =>
     rw [hD] at hdi2
     repeat' first
       | ((refine L3 (by first | with_reducible assumption | rfl) rfl ?_ (fun lq hlq hc => ?_) (fun lq hlq => ?_); rotate_left) <;> (try (exfalso; simp at hc; done)) <;> (repeat first | refine nz ?_ | simp only [Bool.not_false, Bool.not_true]))
       | ((first | refine zo (fun lq hlq => ?_) | refine zl ?_ | fail); (repeat first | refine nz ?_ | simp only [Bool.not_false, Bool.not_true]))
       | refine zf ?_
       | with_reducible rfl
       | (refine And.intro (by omega) ?_)
       | ((first | refine xm ?_ | refine xn ?_ | fail); (repeat first | refine nz ?_ | simp only [Bool.not_false, Bool.not_true]))
       | exact false
       | fail
     repeat' first
       | refine EV.seq ?_
       | refine EV.skip ?_
       | refine EV.inBlock ?_
       | refine rg ?_
       | (refine cX (fun h => ?_) (fun h => ?_) <;> try exact Ah h)
       | exact ⟨⟩
       | fail
     refine EV.to (hih (by unfold okB; simp [hkc, hK, hD])) ?_ (List.nil_sublist _)
     exact eE
    | true =>
     rw [hD] at hdi2
     repeat' first
       | ((refine L3 (by first | with_reducible assumption | rfl) rfl ?_ (fun lq hlq hc => ?_) (fun lq hlq => ?_); rotate_left) <;> (try (exfalso; simp at hc; done)) <;> (repeat first | refine nz ?_ | simp only [Bool.not_false, Bool.not_true]))
       | ((first | refine zo (fun lq hlq => ?_) | refine zl ?_ | fail); (repeat first | refine nz ?_ | simp only [Bool.not_false, Bool.not_true]))
       | refine zf ?_
       | with_reducible rfl
       | (refine And.intro (by omega) ?_)
       | ((first | refine xm ?_ | refine xn ?_ | fail); (repeat first | refine nz ?_ | simp only [Bool.not_false, Bool.not_true]))
       | fail
     repeat' first
       | refine EV.seq ?_
       | refine EV.skip ?_
       | refine EV.inBlock ?_
       | refine rg ?_
       | (refine cX (fun h => ?_) (fun h => ?_) <;> try exact Ah h)
       | exact ⟨⟩
       | fail
     ·(refine rt Q21_ok ?_; try with_reducible exact ⟨⟩)
      rw [hno (by unfold okB; simp [hkc, hK, hD, h])]
     ·refine EV.to (hih (by unfold okB; simp [hkc, hK, hD, h])) ?_ (List.nil_sublist _)
      exact eE
  · -- kind 5
   have d0 : decide ((evAt p i).op.kind = 0) = false := by rw [hkc]; rfl
   have d1 : decide ((evAt p i).op.kind = 1) = false := by rw [hkc]; rfl
   have d2 : decide ((evAt p i).op.kind = 2) = false := by rw [hkc]; rfl
   have d3 : decide ((evAt p i).op.kind = 3) = false := by rw [hkc]; rfl
   have d4 : decide ((evAt p i).op.kind = 4) = false := by rw [hkc]; rfl
   have d5 : decide ((evAt p i).op.kind = 5) = true := by rw [hkc]; rfl
   repeat' first
     | refine EV.seq ?_
     | refine EV.skip ?_
     | refine EV.block ?_
     | refine EV.inBlock ?_
     | (refine EV.reg ?_; (conv => (arg 2; whnf)); (repeat first | refine nx ?_ | simp only [d0, d1, d2, d3, d4, d5]))
     | (refine cX (fun h => ?_) (fun h => ?_) <;> try exact Ah h)
     | (refine And.intro (by omega) ?_)
     | ((first | refine xm ?_ | refine xn ?_ | fail); (repeat first | refine nx ?_ | simp only [d0, d1, d2, d3, d4, d5]))
     | fail
   ·(refine rt Q21_ok ?_; try with_reducible exact ⟨⟩)
    rw [hno (by unfold okB; simp [hkc, h])]
   ·refine EV.to (hih (by unfold okB; simp [hkc, h])) ?_ (List.nil_sublist _)
    exact eE
 have hie : i = p.length := by omega
 subst hie
 clear ih
 have hsM := hsN.mono (Aa.le_trans hM1 hMi)
 have hd0 : Sl Mi 1 eb (.slice da e.dn.length dc) e.dn := ⟨da, dc, rfl, ((hrd.mono hMN).mono hM1).mono hMi⟩
 have hleM := Aa.le_trans hMN (Aa.le_trans hM1 hMi)
 have hlbM := hlb1.mono hMi
 have hxdM := hxd1.mono hMi
 have hxoM := hxo1.mono hMi
 have hxnM := hxn1.mono hMi
 refine EV.seq (EV.seq ?_)
 repeat' first
   | refine EV.block ?_
   | refine rg ?_
   | (refine xn ?_; try refine nx ?_)
   | exact ⟨⟩
   | fail
 refine EV.loopTo (fun x : Nat × Aa => ([(2, pv lb 0), (3, pv xb 0), (4, .bool false), (131, .slice oa e.ord.length oc), (132, vi e.ord.length), (133, vi x.1)], x.2, [])) (fun x => x.1 ≤ 3 ∧ Mi.le x.2 ∧ ∀ j : Nat, j < x.1 → (e.ord[j]?.getD []).Perm (Ar p e.dn j)) (fun x => 3 - x.1) (0, Mi) rfl ⟨Nat.zero_le _, Aa.le_refl _, fun j h => absurd h (Nat.not_lt_zero _)⟩ ?env3 (List.nil_sublist _) ?_
 case env3 =>
  exact eE
 rintro ⟨k, Mk⟩ ⟨hk, hMk, hok⟩ ih
 dsimp only at hk hMk hok ih ⊢
 refine EV.seq ?_
 repeat' first
   | refine rg ?_
   | exact ⟨⟩
   | fail
 refine EV.seq ?_
 repeat' first
   | refine EV.skip ?_
   | (refine cX (fun h => ?_) (fun h => ?_) <;> try exact Ah h)
   | (refine EV.exit rfl ?_)
   | fail
 ·have hk' : k < e.ord.length := by omega
  obtain ⟨ob, oo, rfl, hato⟩ := Di.at hro hol hko (by omega)
  obtain ⟨la, lc, hr1, hlc, hr2⟩ := hato k hk'
  have hr1 := (hr1.mono hleM).mono hMk
  have hr2 := (hr2.mono hleM).mono hMk
  rw [Nat.mul_one] at hr1
  have h8 := ho8 _ (List.getElem_mem hk')
  have hrow : e.ord[k]?.getD [] = e.ord[k] := by rw [List.getElem?_eq_getElem hk']; rfl
  have hlbk := hlbM.mono hMk
  have hxdk := hxdM.mono hMk
  have hwr := Kp p _ (hsM.mono hMk) (by omega) e.dn _ (hd0.mono hMk) e2 k
  repeat' first
    | refine EV.seq ?_
    | refine EV.block ?_
    | refine rg ?_
    | (refine And.intro (by omega) ?_)
    | (refine xn ?_; try refine nx ?_)
    | exact ⟨⟩
    | fail
  refine Con.callS (G1 := []) hwr ?_
  rintro v2 M2 G2 hM2 ⟨G0, ⟨o2, rfl, ho2, rfl⟩, rfl⟩
  (refine nx ?_; try with_reducible exact ⟨⟩)
  refine Aq.call (S6 e.ord[k] (Ar p e.dn k) _ _ ⟨la, lc, rfl, (hr2.mono hM2).mono (Aa.le_add _ _)⟩ ⟨oad o2, Lt o2, rfl, by rw [Av]; exact D7 (T := 3) ho2 (fun q hq => by simpa using hq)⟩ h8 (by have : (Ar p e.dn k).length ≤ p.length := Bw _ _; omega)) ?_
  (refine nx ?_; try with_reducible exact ⟨⟩)
  repeat' first
    | refine EV.seq ?_
    | refine EV.skip ?_
    | refine EV.inBlock ?_
    | refine rg ?_
    | (refine cX (fun h => ?_) (fun h => ?_) <;> try exact Ah h)
    | exact ⟨⟩
    | fail
  ·have hno2 : At5 p e = false := Kd fun hf => by
    have h1 := hf.ord k (by omega)
    rw [hrow] at h1
    exact absurd ((V8 (D2 _ _ _)).2 h1) (by simpa using h)
   (refine rt Q21_ok ?_; try with_reducible exact ⟨⟩)
   rw [hno2]
  ·refine EV.to (ih (k + 1, M2) ⟨by dsimp only; omega, Aa.le_trans hMk hM2, fun j hj => ?_⟩ (by dsimp only; omega)) ?_ (List.nil_sublist _)
   ·dsimp only at hj
    by_cases hjk : j < k
    ·exact hok j hjk
    ·have : j = k := by omega
     subst this
     rw [hrow]
     exact (V8 (D2 _ _ _)).1 (by simpa using h)
   ·exact eE
 ·have hke : k = 3 := by omega
  subst hke
  clear ih
  have hsk := hsM.mono hMk
  have hlbk := hlbM.mono hMk
  have hxnk := hxnM.mono hMk
  have hnr : rdS Mk 1 na e.fen.length (e.fen.flatMap ei) := (hrn.mono hleM).mono hMk
  have hpk := fun G => Jg (M := Mk.add G) p _ (hsk.mono (Aa.le_add _ _)) (by omega) 135 #[pv lb 0] (fun i => (evAt p i).strong) (fun M' hM' i hi => by
   have hle := Aa.le_trans (Aa.le_add Mk G) hM'
   obtain ⟨pb, po, e0, hpat⟩ := Sl.at (sz := 6) (enc := A2) (fun _ => rfl) (by decide) hpr (by omega)
   have hpi := (((hpat i hi).mono hleM).mono hMk).mono hle
   rw [← B5 hi] at hpi
   have := Uu p (e0 ▸ hlbk.mono hle) i hi hpi
   simpa using this)
  refine EV.seq (EV.any (t := Ag2) [] (List.nil_sublist _) ?_)
  simp only [Am, Au, Al, As, reduceIte, Nat.reduceEqDiff]
  repeat' first
    | ((first | refine zo (fun lq hlq => ?_) | refine zl ?_ | fail); try refine nz ?_)
    | refine zq (fun lq tq hlq htq => ?_)
    | ((with_reducible refine Con.callN (hpk _) ?_) ;  rintro v1 M1 G1 ⟨o1, rfl, ho1, rfl⟩; try refine nz ?_)
    | (refine Vc (by first | with_reducible assumption | rfl) (fun tq htq => ?_) (fun tq htq => ?_) <;> try refine nz ?_)
    | (refine Ea (by first | with_reducible assumption | rfl) (fun tq htq => ?_) (fun tq htq => ?_) <;> try refine nz ?_)
    | exact zn
    | ((first | refine xn ?_ | refine And.intro (Aa.le_refl _) (And.intro (Ba ?_) ?_); focus ((repeat' first | exact List.Sublist.refl _ | exact List.nil_sublist _ | exact List.sublist_append_left _ _ | refine List.Sublist.cons_cons _ ?_ | refine List.Sublist.append_left ?_ _ | refine List.sublist_append_of_sublist_right ?_ | refine List.Sublist.cons _ ?_); done) | fail); try refine nz ?_)
    | exact ⟨⟩
    | fail
  refine Aq.call (S6 e.fen (Cr p.length fun i => (evAt p i).strong) _ _ ⟨na, nc, rfl, hnr.mono (Aa.le_add _ _)⟩ ⟨oad o1, Lt o1, rfl, by rw [Av]; exact D7 (T := 3) ho1 (fun q hq => by simpa using hq)⟩ hf8 (by have := Bw p.length (fun i => (evAt p i).strong); omega)) ?_
  repeat' first
    | ((first | refine zo (fun lq hlq => ?_) | refine zl ?_ | fail); try refine nz ?_)
    | refine zq (fun lq tq hlq htq => ?_)
    | refine zf ?_
    | exact ⟨⟩
    | fail
  repeat' first
    | fail
  (refine rt Q21_ok ?_; try with_reducible exact ⟨⟩)
  by_cases hsame : Zu e.fen = Bi p
  ·rw [V9 ⟨e1, e2, e3, hsi, hoi, hok, (V8 (Fv p)).1 hsame⟩]
   exact congrArg vb (decide_eq_true hsame)
  ·rw [Kd fun hf => hsame ((V8 (Fv p)).2 hf.fen)]
   exact congrArg vb (decide_eq_false hsame)
end
end Go.EV

namespace Go.EV
open Go.Proofs

end Go.EV

namespace Go.EV
open Go.Proofs
section
variable {M : Aa}
end
end Go.EV

namespace Go.EV
open Go.Proofs
structure XSz (e : Exec) : Prop where
 fen : e.fen.length * 8 ≤ 140737488355328
 frm : e.frm.length ≤ 140737488355328
 dn : e.dn.length ≤ 140737488355328
 ord : e.ord.length ≤ 140737488355328
 row : ∀ l ∈ e.ord, l.length * 8 ≤ 140737488355328
noncomputable def Jw (ts : List (List OpV)) (e : Exec) : Int := if Bd ts = 0 then Ct (A6 ts) e else 0
section
variable {M : Aa}
theorem Xf (p : List Ev) (s : Value) (hs : Sl M 6 A2 s p) (hp : POk p) (hm : Lo p) (hkd : ∀ i, i < p.length → 0 ≤ (evAt p i).op.kind ∧ (evAt p i).op.kind ≤ 5) (e : Exec) (v : Value) (hv : IsX M v e) (hz : XSz e) :
  Aq Tryz.prog 66 #[s, v] M (vi (Ct p e)) := by
 have hs0 := hs
 have hv0 := hv
 obtain ⟨a, c, rfl, hrd⟩ := hs
 obtain ⟨f, d, o, n, rfl, ⟨fa, fc, rfl, _⟩, ⟨da, dc, rfl, _⟩, ⟨oa, oc, ovs, rfl, _, _, _⟩, ⟨na, nc, rfl, _⟩⟩ := hv
 refine Con.enter Q20_ok (args := [.slice a p.length c, .agg #[.slice fa e.frm.length fc, .slice da e.dn.length dc, .slice oa e.ord.length oc, .slice na e.fen.length nc]]) (by simp [Q20]) fun w0 => ?_
 simp only [Q20, A3]
 have hfit := fun G => Ad5 (M := M.add G) p _ (hs0.mono (Aa.le_add _ _)) hp hkd e _ (IsX.mono (Aa.le_add _ _) hv0) hz.fen hz.frm hz.dn hz.ord hz.row
 repeat' first
   | refine EV.seq ?_
   | refine EV.skip ?_
   | refine rg ?_
   | (refine Aq.call (hfit _) ?_; try refine nx ?_)
   | (refine cX (fun h => ?_) (fun h => ?_) <;> try exact Ah h)
   | ((first | with_reducible intro b | refine xrA rfl ?_ | fail); try refine nx ?_)
   | exact ⟨⟩
   | fail
 ·have hno : Ct p e = 1 := by
   unfold Ct
   refine if_neg fun hw => ?_
   rw [V9 ((Zx hkd).2 hw)] at h
   cases h
  (refine rt Q20_ok ?_; try with_reducible exact ⟨⟩)
  rw [hno]
 ·have hw : Shape p e ∧ Qx p e := by
   refine (Zx hkd).1 (Classical.byContradiction fun hn => ?_)
   rw [Kd hn] at h
   cases h
  have hx : XOk p e := hw.1.xok (.inr trivial)
  have heq : Ct p e = Cp p e := by
   rw [Pb hp hm hx]; unfold Ct; rw [if_pos hw]
  have hbr := fun G => Ir (M := M.add G) p _ (hs0.mono (Aa.le_add _ _)) hp e _ (IsX.mono (Aa.le_add _ _) hv0) hx
  repeat' first
    | (refine Aq.call (hbr _) ?_; try refine nx ?_)
    | exact ⟨⟩
    | fail
  (refine rt Q20_ok ?_; try with_reducible exact ⟨⟩)
  rw [heq]
theorem Xg (ts : List (List OpV)) (s : Value) (hs : Gw M 5 Be s ts) (hb : Sized ts) (e : Exec) (v : Value) (hv : IsX M v e) (hz : XSz e) :
  Con Tryz.prog 25 #[.agg #[s], v] M [] fun u _ _ => u = .tuple #[vi (Jw ts e), vi (Bd ts)] := by
 have hs0 := hs
 have hv0 := hv
 obtain ⟨a, c, vs, rfl, hl, hrd, hk⟩ := hs
 obtain ⟨f, d, o, n, rfl, ⟨fa, fc, rfl, _⟩, ⟨da, dc, rfl, _⟩, ⟨oa, oc, ovs, rfl, _, _, _⟩, ⟨na, nc, rfl, _⟩⟩ := hv
 refine Con.enter Q1_ok (args := [.agg #[.slice a ts.length c], .agg #[.slice fa e.frm.length fc, .slice da e.dn.length dc, .slice oa e.ord.length oc, .slice na e.fen.length nc]]) (by simp [Q1]) fun w0 => ?_
 simp only [Q1, A3]
 repeat' first
   | refine EV.seq ?_
   | refine rg ?_
   | ((first | with_reducible intro b | refine xrA rfl ?_ | fail); try refine nx ?_)
   | exact ⟨⟩
   | fail
 refine Con.callS (G1 := []) (Yo ts _ hs0 hb) ?_
 rintro v M1 G1 hM1 ⟨rfl, (⟨hne, rfl⟩ | ⟨hck, s', rfl, hs1⟩)⟩
 ·have hz0 : Jw ts e = 0 := by rw [Jw, if_neg hne]
  (refine nx ?_; try with_reducible exact ⟨⟩)
  repeat' first
    | refine EV.seq ?_
    | (refine EV.reg ?_; (conv => (arg 2; whnf)); (repeat first | refine nx ?_ | simp only [hne]))
    | (refine cX (fun h => ?_) (fun h => ?_) <;> try exact Ah h)
    | fail
  (refine rt Q1_ok ?_; try with_reducible exact ⟨⟩)
  rw [hz0]
 ·have hf : Jw ts e = Ct (A6 ts) e := by rw [Jw, if_pos hck]
  have hfa := fun G => Xf (M := M1.add G) (A6 ts) _ (hs1.mono (Aa.le_add _ _)) (Ql hck) (Qm ts) (Vt hck) e _ (IsX.mono (Aa.le_trans hM1 (Aa.le_add _ _)) hv0) hz
  have hs2 := hs1
  obtain ⟨pa, pc, rfl, hpr⟩ := hs2
  (refine nx ?_; try with_reducible exact ⟨⟩)
  repeat' first
    | refine EV.seq ?_
    | refine EV.skip ?_
    | refine rg ?_
    | (refine Aq.call (hfa _) ?_; try refine nx ?_)
    | (refine cX (fun h => ?_) (fun h => ?_) <;> try exact Ah h)
    | (refine xrA rfl ?_; try refine nx ?_)
    | exact ⟨⟩
    | fail
  (refine rt Q1_ok ?_; try with_reducible exact ⟨⟩)
  rw [hf, hck]
end
end Go.EV

namespace Go.EV
open Go.Proofs
section
variable {M : Aa}
open Classical in
theorem S7 (p : List Ev) (s : Value) (hs : Sl M 6 H5 s p) (hp : p.length ≤ 16) (hkd : ∀ i, i < p.length → 0 ≤ (evAt p i).op.kind ∧ (evAt p i).op.kind ≤ 5) (e : Exec) (v : Value) (hv : IsX M v e) (hz : XSz e) :
  Aq Tryz.prog 42 #[s, v] M (vb (decide (Shape p e))) := by
 obtain ⟨pa, pc, rfl, hpr⟩ := hs
 obtain ⟨f, d, o, n, rfl, ⟨fa, fc, rfl, hrf⟩, ⟨da, dc, rfl, hrd⟩, ⟨oa, oc, ovs, rfl, hol, hro, hko⟩, ⟨na, nc, rfl, hrn⟩⟩ := hv
 have hz1 := hz.frm
 have hz2 := hz.dn
 have hz3 := hz.ord
 have hz4 := hz.fen
 refine Con.enter Q85_ok (args := [.slice pa p.length pc, .agg #[.slice fa e.frm.length fc, .slice da e.dn.length dc, .slice oa e.ord.length oc, .slice na e.fen.length nc]]) (by simp [Q85]) fun w0 => ?_
 simp only [Q85, A3]
 refine EV.seq ?_
 repeat' first
   | refine rg ?_
   | (with_reducible intro b; try refine nx ?_)
   | exact ⟨⟩
   | fail
 obtain ⟨xb, rfl⟩ : ∃ x, x = b := ⟨_, rfl⟩
 refine EV.frz [(xb, Cl 37 [.slice fa e.frm.length fc, .slice da e.dn.length dc, .slice oa e.ord.length oc, .slice na e.fen.length nc])] ?_
 generalize hR : M.add _ = N
 have hMN : M.le N := hR ▸ Aa.le_add _ _
 have hxb : rd N xb 0 4 [.slice fa e.frm.length fc, .slice da e.dn.length dc, .slice oa e.ord.length oc, .slice na e.fen.length nc] := hR ▸ An 0 rfl rfl (by simp)
 clear hR
 have hx0 := hxb.pt 0 1 (by omega) rfl
 have hx1 := hxb.pt 1 1 (by omega) rfl
 have hx2 := hxb.pt 2 1 (by omega) rfl
 have hx3 := hxb.pt 3 1 (by omega) rfl
 simp only [Nat.zero_add] at hx0 hx1 hx2 hx3
 have hno : ¬ Shape p e → ∀ k ρ G, get ρ 4 = some (vb false) → EV (Cx.fn Tryz.prog 42 264 w0 (List.map (fun x : Nat × Obj => x.fst) []) M fun u x x_1 => u = vb (decide (Shape p e))) [0, 1, 3, 4, 5, 6, 7, 8, 9, 10, 11, 12, 13, 14, 15, 16] (.code .ret :: k) ρ N G := by
  intro hn k ρ G h4
  refine EV.to (ρ' := [(4, vb false)]) (G' := []) ?_ (by simpa using h4) (List.nil_sublist _)
  (refine rt Q85_ok ?_; try with_reducible exact ⟨⟩)
  rw [decide_eq_false hn]
 refine EV.seq ?_
 refine EV.seq ?_
 repeat' first
   | refine EV.skip ?_
   | refine rg ?_
   | with_reducible assumption
   | (refine Az.merge ?_ (fun hc K' hK => ?_) ?_; rotate_left)
   | (refine cX (fun h => ?_) (fun h => ?_) <;> try exact Ah h)
   | (refine xn ?_; try refine nx ?_)
   | exact ⟨⟩
   | fail
 ·refine EV.seq ?_
  repeat' first
    | refine rg ?_
    | exact ⟨⟩
    | fail
  refine hno (fun hs => ?_) _ _ _ rfl
  have h1 := hs.fl
  have h2 := hs.dl
  have h3 := hs.ol
  simp [h1, h2, h3] at h
 have hlens : e.frm.length = p.length ∧ e.dn.length = p.length ∧ e.ord.length = 3 := by
  skip
  omega
 clear h
 obtain ⟨hfl, hdl, hol3⟩ := hlens
 obtain ⟨ob, oo, rfl, hato⟩ := Di.at hro hol hko (by omega)
 have hpr' := hpr.mono hMN
 have hlocs : ∀ b, b < p.length → ∃ pb po, pa = some ⟨pb, po, none⟩ ∧ rd N pb (po + b * 6) 6 (H5 (evAt p b)) := fun b hb => by
  obtain ⟨pb, po, e1, hat⟩ := Sl.at (sz := 6) (enc := H5) (fun _ => rfl) (by decide) hpr' (by omega)
  have := hat b hb
  rw [← B5 hb] at this
  exact ⟨pb, po, e1, this⟩
 have hfrs : ∀ b, b < p.length → ∃ fb fo, fa = some ⟨fb, fo, none⟩ ∧ rd N fb (fo + b) 1 [vi (Ae e b)] := fun b hb => by
  obtain ⟨fb, fo, e1, hat⟩ := Sl.at (sz := 1) (enc := ei) (fun _ => rfl) (by decide) hrf (by omega)
  exact ⟨fb, fo, e1, (Cd hat b (by omega)).mono hMN⟩
 have hdns : ∀ b, b < p.length → ∃ db dof, da = some ⟨db, dof, none⟩ ∧ rd N db (dof + b) 1 [vb (Bx e.dn b)] := fun b hb => by
  obtain ⟨db, dof, e1, hat⟩ := Sl.at (sz := 1) (enc := eb) (fun _ => rfl) (by decide) (hrd.mono hMN) (by omega)
  have := hat b (by omega)
  rw [Nat.mul_one] at this
  refine ⟨db, dof, e1, ?_⟩
  rw [Bx, List.getElem?_eq_getElem (by omega)]; exact this
 have hords : ∀ k, k < 3 → ∃ a' c', rd N ob (oo + k) 1 [.slice a' (e.ord[k]?.getD []).length c'] ∧ rdS N 1 a' (e.ord[k]?.getD []).length ((e.ord[k]?.getD []).flatMap ei) := fun k hk => by
  obtain ⟨a', c', h1, _, h2⟩ := hato k (by omega)
  rw [Nat.mul_one] at h1
  rw [List.getElem?_eq_getElem (show k < e.ord.length by omega), Option.getD_some]
  exact ⟨a', c', h1.mono hMN, h2.mono hMN⟩
 clear hato hro hko hrf hpr hpr' hrd
 refine EV.seq ?_
 repeat' first
   | refine rg ?_
   | exact ⟨⟩
   | fail
 refine EV.seq ?_
 refine EV.seq ?_
 repeat' first
   | refine EV.block ?_
   | refine rg ?_
   | exact ⟨⟩
   | fail
 refine EV.to (Ra (pc := pc) hp hkd hfl hdl hx0 hx1 hfrs hdns hlocs hno fun hev => ?_) ?env1 (List.nil_sublist _)
 case env1 =>
  exact eE
 have hpl : (Bi p).length ≤ p.length := Bw _ _
 refine EV.seq ?_
 refine EV.seq ?_
 repeat' first
   | refine EV.skip ?_
   | refine rg ?_
   | (refine cX (fun h => ?_) (fun h => ?_) <;> try exact Ah h)
   | (refine xn ?_; try refine nx ?_)
   | exact ⟨⟩
   | fail
 ·refine EV.seq ?_
  repeat' first
    | refine rg ?_
    | exact ⟨⟩
    | fail
  refine hno (fun hs => ?_) _ _ _ rfl
  have h1 := hs.fen.length_eq
  rw [h1] at h
  simp at h
 have hfn : e.fen.length = (Bi p).length := by
  have : ¬ ((e.fen.length : Int) ≠ ((Bi p).length : Int)) := by simpa using h
  omega
 clear h
 refine EV.seq ?_
 repeat' first
   | refine rg ?_
   | (with_reducible intro b; try refine nx ?_)
   | exact ⟨⟩
   | fail
 refine EV.seq ?_
 refine EV.seq ?_
 repeat' first
   | refine EV.block ?_
   | refine rg ?_
   | exact ⟨⟩
   | fail
 refine EV.to (Rb (pc := pc) (b9 := b) (na := na) (nc := nc) hp hx3 (by omega) (hrn.mono hMN) hlocs hno fun hfnd hfs => ?_) ?env2 ?sub2
 case env2 =>
  exact eE
 case sub2 =>
  exact List.Sublist.refl _
 refine EV.seq ?_
 refine EV.seq ?_
 repeat' first
   | refine EV.block ?_
   | refine rg ?_
   | exact ⟨⟩
   | fail
 refine EV.to (Rc (pc := pc) (b9 := b) hp hdl hol3 hz.row hev hfnd hx1 hx2 hdns hlocs hords hno fun hnd hon hos => ?_) ?env3 (List.Sublist.refl _)
 case env3 =>
  exact eE
 have hsh : Shape p e := Ad1 hkd hfl hdl hol3 hev hnd hfn hfs hon hos
 refine EV.seq ?_
 repeat' first
   | refine rg ?_
   | exact ⟨⟩
   | fail
 (refine rt Q85_ok ?_; try with_reducible exact ⟨⟩)
 rw [decide_eq_true hsh]
end
end Go.EV

namespace Go.EV
open Go.Proofs
theorem S8 {α : Type} (f : α → Value) : ∀ (xs : List α), xs.flatMap (fun x => [f x]) = xs.map f
 | [] => rfl
 | x :: xs => by rw [List.flatMap_cons, S8 f xs]; rfl
theorem S9 {α : Type} {N : Aa} {b n : Nat} {T : TypeId} {f : α → Value} {xs : List α} (h : N b (Cl T (xs.map f))) (hn : xs.length = n) : Sl N 1 (fun x => [f x]) (A8 b n n) xs := by
 refine ⟨some ⟨b, 0, none⟩, n, by rw [hn], .inr ⟨b, 0, rfl, _, T, (0, 0), h, ?_, ?_⟩⟩
 ·simp
 ·rw [S8, Nat.mul_one, List.drop_zero]
  show _ = (xs.map f).take xs.length
  rw [List.take_of_length_le (by simp)]
section
variable {M : Aa}
theorem Uv (ts : List (List OpV)) (s : Value) (hs : Gw M 5 Be s ts) (hck : Bd ts = 0) (e : Exec) (v : Value) (hv : IsX M v e) (hz : XSz e) :
  Aq Tryz.prog 19 #[.agg #[s], v] M (vi (Ct (A6 ts) e)) := by
 have hs0 := hs
 have hv0 := hv
 have hl14 := Sm hck
 have hp := Ql hck
 have hm := Qm ts
 have hkd := Vt hck
 obtain ⟨a, c, vs, rfl, hl, hrd, hk⟩ := hs
 obtain ⟨f, d, o, n, rfl, ⟨fa, fc, rfl, _⟩, ⟨da, dc, rfl, _⟩, ⟨oa, oc, ovs, rfl, _, _, _⟩, ⟨na, nc, rfl, _⟩⟩ := hv
 refine Con.enter Q72_ok (args := [.agg #[.slice a ts.length c], .agg #[.slice fa e.frm.length fc, .slice da e.dn.length dc, .slice oa e.ord.length oc, .slice na e.fen.length nc]]) (by simp [Q72]) fun w0 => ?_
 simp only [Q72, A3]
 repeat' first
   | refine EV.seq ?_
   | refine rg ?_
   | ((first | with_reducible intro b | refine xrA rfl ?_ | fail); try refine nx ?_)
   | exact ⟨⟩
   | fail
 obtain ⟨xb, rfl⟩ : ∃ x, x = b := ⟨_, rfl⟩
 refine Con.callS (G1 := []) (Sn ts _ hs0 hck) ?_
 rintro v M1 G1 hM1 hse
 have hse0 := hse
 obtain ⟨pa, pc, rfl, hpr⟩ := hse
 generalize A6 ts = p at *
 refine EV.keepS [] ?_
 generalize hR : M1.add _ = N
 have hMN : M1.le N := hR ▸ Aa.le_add _ _
 have hxb : rd N xb 0 4 [.slice fa e.frm.length fc, .slice da e.dn.length dc, .slice oa e.ord.length oc, .slice na e.fen.length nc] := hR ▸ Bz (T := 37) (cs := [.slice fa e.frm.length fc, .slice da e.dn.length dc, .slice oa e.ord.length oc, .slice na e.fen.length nc]) (by simp) rfl (by simp)
 clear hR
 replace hse0 := hse0.mono hMN
 replace hv0 := IsX.mono (Aa.le_trans hM1 hMN) hv0
 clear hs0 hrd hk hpr
 have hsh := fun G => S7 (M := N.add G) p _ (hse0.mono (Aa.le_add _ _)) (by omega) hkd e _ (IsX.mono (Aa.le_add _ _) hv0) hz
 refine EV.seq ?_
 refine EV.seq ?_
 repeat' first
   | refine EV.skip ?_
   | refine rg ?_
   | (refine Aq.call (hsh _) ?_; try refine nx ?_)
   | (refine cX (fun h => ?_) (fun h => ?_) <;> try exact Ah h)
   | (refine xm ?_; try refine nx ?_)
   | exact ⟨⟩
   | fail
 ·refine EV.seq ?_
  repeat' first
    | refine rg ?_
    | exact ⟨⟩
    | fail
  have hns : ¬ Shape p e := by simpa using h
  (refine rt Q72_ok ?_; try with_reducible exact ⟨⟩)
  rw [Qy hns]
 have hsp : Shape p e := by simpa using h
 clear h hsh
 have hx := hsp.xok (.inr trivial)
 have hfl := hsp.fl
 have hfx : ∀ i, i < p.length → Ae e i < p.length := fun i hi => (hx.fr i hi).1
 refine EV.seq ?_
 repeat' first
   | refine rg ?_
   | (refine xm ?_; try refine nx ?_)
   | exact ⟨⟩
   | fail
 refine Con.callS (G1 := []) (Ik p _ hse0 (by omega) e _ hv0 hfl hfx) ?_
 rintro v M2 G2 hM2 ⟨rb, lb, kb, rfl, hlen, rfl⟩
 refine EV.keepS [] ?_
 generalize hR : M2.add _ = N2
 have hMN2 : N.le N2 := hR ▸ Aa.le_trans hM2 (Aa.le_add _ _)
 have hkv : Sl N2 1 eb (A8 kb p.length p.length) (Bl p e.frm).k := by rw [← hR]; exact S9 (T := 4) (.inr (by simp)) hlen.k
 have hrv : Sl N2 1 ei (A8 rb p.length p.length) (Bl p e.frm).r := by rw [← hR]; exact S9 (T := 3) (.inr (by simp)) hlen.r
 clear hR hM2
 replace hse0 := hse0.mono hMN2
 replace hv0 := IsX.mono hMN2 hv0
 replace hxb := hxb.mono hMN2
 have hwd := fun G => Sz (M := N2.add G) p _ (hse0.mono (Aa.le_add _ _)) (by omega) e _ (IsX.mono (Aa.le_add _ _) hv0) hsp.dl _ _ (hrv.mono (Aa.le_add _ _)) (hkv.mono (Aa.le_add _ _)) hlen
 refine EV.seq ?_
 refine EV.seq ?_
 repeat' first
   | refine EV.skip ?_
   | refine rg ?_
   | (refine Aq.call (hwd _) ?_; try refine nx ?_)
   | (refine cX (fun h => ?_) (fun h => ?_) <;> try exact Ah h)
   | (refine xm ?_; try refine nx ?_)
   | exact ⟨⟩
   | fail
 ·refine EV.seq ?_
  repeat' first
    | refine rg ?_
    | exact ⟨⟩
    | fail
  have hns : ∃ a, a < p.length ∧ Iz p e a = false := by
   have h' : (List.range p.length).all (Iz p e) = false := by simpa using h
   obtain ⟨a, ha, hb⟩ := List.all_eq_false.1 h'
   exact ⟨a, List.mem_range.1 ha, by simpa using hb⟩
  obtain ⟨a, ha, hb⟩ := hns
  (refine rt Q72_ok ?_; try with_reducible exact ⟨⟩)
  rw [Sv hsp ha hb]
 have hwk : Qx p e := by
  have h' : (List.range p.length).all (Iz p e) = true := by simpa using h
  exact (Su hsp).1 fun a ha => List.all_eq_true.1 h' a (List.mem_range.2 ha)
 clear h hwd hkv hrv
 refine EV.seq ?_
 repeat' first
   | refine rg ?_
   | (refine xm ?_; try refine nx ?_)
   | exact ⟨⟩
   | fail
 refine Con.callS (G1 := []) (Up p _ hse0 (by omega) e _ hv0 hfl hfx) ?_
 rintro v M3 G3 hM3 (⟨htold, rfl⟩ | ⟨htold, rv, lv, rfl, hrv, hlv⟩)
 ·simp only [wpS, wpA, Lc, push_cast, Int.cast_ofNat_Int, reduceIte, Nat.reduceEqDiff, reduceCtorEq, Nat.reduceAdd, Nat.reduceSub, Nat.reduceMul, Int.reduceToNat, Nat.reduceLeDiff]
  refine EV.seq ?_
  refine EV.seq ?_
  repeat' first
    | refine rg ?_
    | (refine cX (fun h => ?_) (fun h => ?_) <;> try exact Ah h)
    | exact ⟨⟩
    | fail
  refine EV.seq ?_
  repeat' first
    | refine rg ?_
    | exact ⟨⟩
    | fail
  obtain ⟨a, ha, hb⟩ := List.all_eq_false.1 htold
  (refine rt Q72_ok ?_; try with_reducible exact ⟨⟩)
  rw [Sx hsp hwk (List.mem_range.1 ha) (by simpa using hb)]
 refine EV.keepS [] ?_
 generalize hR : M3.add _ = N3
 have hMN3 : N2.le N3 := hR ▸ Aa.le_trans hM3 (Aa.le_add _ _)
 clear hR hM3 hrv hlv
 replace hse0 := hse0.mono hMN3
 replace hv0 := IsX.mono hMN3 hv0
 replace hxb := hxb.mono hMN3
 have hpl : p.length ≤ 16 := by omega
 have hfen := V2 hpl hm hsp
 have hfenl : e.fen.length ≤ 16 := by have := hx.fin.2; omega
 have hthr := fun G => (show Aq _ _ _ (N3.add G) _ from Ju (M := N3.add G) p _ (hse0.mono (Aa.le_add _ _)) hpl)
 have hfro := fun G => (show Aq _ _ _ (N3.add G) _ from Pq (M := N3.add G) p _ (hse0.mono (Aa.le_add _ _)) hpl e _ (IsX.mono (Aa.le_add _ _) hv0) hfl hfx)
 have htur := fun G => (show Aq _ _ _ (N3.add G) _ from Ns (M := N3.add G) e _ (IsX.mono (Aa.le_add _ _) hv0) hfenl hfen)
 have hot := thrR_ok (p := p) hpl
 have hof := fromR_ok (p := p) (e := e) hpl
 have hou := turnsR_ok (fen := e.fen) hfen
 have hun1 := fun G => (show Aq _ _ _ (N3.add G) _ from Gp (M := N3.add G) _ _ hof hou)
 have hun2 := fun G => (show Aq _ _ _ (N3.add G) _ from Gp (M := N3.add G) _ _ hot (unionR_ok hof hou))
 have hoa := unionR_ok hot (unionR_ok hof hou)
 have hclo := fun G => (show Aq _ _ _ (N3.add G) _ from Hs (M := N3.add G) _ hoa)
 have hcir := fun G => K6 (M := N3.add G) _ hoa.close
 refine EV.seq ?_
 refine EV.seq ?_
 repeat' first
   | refine EV.skip ?_
   | refine rg ?_
   | (refine cX (fun h => ?_) (fun h => ?_) <;> try exact Ah h)
   | exact ⟨⟩
   | fail
 refine EV.seq ?_
 refine EV.seq ?_
 refine EV.any (t := Ae5) [] (List.Sublist.refl _) ?_
 simp only [Am, Au, Al, As, reduceIte, Nat.reduceEqDiff]
 repeat' first
   | ((first | refine zo (fun lq hlq => ?_) | refine zl ?_ | fail); try refine nz ?_)
   | refine zq (fun lq tq hlq htq => ?_)
   | ((first | with_reducible refine Aq.call (hthr _) ?_ | with_reducible refine Aq.call (hfro _) ?_ | with_reducible refine Aq.call (htur _) ?_ | with_reducible refine Aq.call (hun1 _) ?_ | with_reducible refine Aq.call (hun2 _) ?_ | with_reducible refine Aq.call (hclo _) ?_ | with_reducible refine Aq.call (hcir _) ?_ | fail); try refine nz ?_)
   | (refine Vc (by first | with_reducible assumption | rfl) (fun tq htq => ?_) (fun tq htq => ?_) <;> try refine nz ?_)
   | (refine Ea (by first | with_reducible assumption | rfl) (fun tq htq => ?_) (fun tq htq => ?_) <;> try refine nz ?_)
   | exact zn
   | refine zf ?_
   | ((first | refine xm ?_ | refine And.intro (Aa.le_refl _) (And.intro (Ba ?_) ?_); focus ((repeat' first | exact List.Sublist.refl _ | exact List.nil_sublist _ | exact List.sublist_append_left _ _ | refine List.Sublist.cons_cons _ ?_ | refine List.Sublist.append_left ?_ _ | refine List.sublist_append_of_sublist_right ?_ | refine List.Sublist.cons _ ?_); done) | fail); try refine nz ?_)
   | exact ⟨⟩
   | fail
 clear hthr hfro htur hun1 hun2 hclo hcir
 have hrd : Bn (Cc (Ed (W3 p) (Ed (Iw p e) (Fy e.fen)))) = Bn (Au4 p e) := rfl
 rw [hrd]
 refine EV.to (ρ' := [(3, pv xb 0), (5, .slice pa p.length pc), (50, vb (Bn (Au4 p e)))]) ?_ ?env1 (List.Sublist.refl _)
 case env1 =>
  exact eE
 repeat' first
   | refine EV.skip ?_
   | (refine cX (fun h => ?_) (fun h => ?_) <;> try exact Ah h)
   | fail
 ·refine EV.seq ?_
  repeat' first
    | refine rg ?_
    | exact ⟨⟩
    | fail
  (refine rt Q72_ok ?_; try with_reducible exact ⟨⟩)
  rw [Um hm hpl hsp hwk h]
 have hnr : ¬ Ia p e := fun hr => by rw [(Pp hpl hm hsp).2 hr] at h; cases h
 clear h
 have hin := Ah0 hpl hm hsp
 have hsz : ∀ k, k < 3 → (e.ord[k]?.getD []).length ≤ 16 := fun k hk => by
  have hk' : k < e.ord.length := by rw [hsp.ol]; exact hk
  rw [List.getElem?_eq_getElem hk', Option.getD_some]
  have := (hx.oin _ (List.getElem_mem hk')).2
  omega
 have hord := hp.ord
 have hbef := fun G => (show Aq _ _ _ (N3.add G) _ from Sy (M := N3.add G) p _ (hse0.mono (Aa.le_add _ _)) hpl hord e _ (IsX.mono (Aa.le_add _ _) hv0) hfl hsp.dl hfx hfenl hfen)
 have hsee := fun G => (show Aq _ _ _ (N3.add G) _ from W6 (M := N3.add G) p _ (hse0.mono (Aa.le_add _ _)) hpl e _ (IsX.mono (Aa.le_add _ _) hv0) hfl hfx hsp.ol hin hsz)
 have hob : RelOk 16 (Zo p e) := (unionR_ok (thrR_ok hpl) (unionR_ok (meetsR_ok hpl) (turnsR_ok hfen))).close
 have hos : RelOk 16 (Si p e) := (seenR0_ok hpl hin).close
 have hbro := fun G => So (M := N3.add G) _ _ hob hos
 refine EV.seq ?_
 refine EV.seq ?_
 refine EV.any (t := Ae6) [] (List.Sublist.refl _) ?_
 simp only [Am, Au, Al, As, reduceIte, Nat.reduceEqDiff]
 repeat' first
   | ((first | refine zo (fun lq hlq => ?_) | refine zl ?_ | fail); try refine nz ?_)
   | refine zq (fun lq tq hlq htq => ?_)
   | ((first | with_reducible refine Aq.call (hbef _) ?_ | with_reducible refine Aq.call (hsee _) ?_ | with_reducible refine Aq.call (hbro _) ?_ | fail); try refine nz ?_)
   | (refine Vc (by first | with_reducible assumption | rfl) (fun tq htq => ?_) (fun tq htq => ?_) <;> try refine nz ?_)
   | (refine Ea (by first | with_reducible assumption | rfl) (fun tq htq => ?_) (fun tq htq => ?_) <;> try refine nz ?_)
   | exact zn
   | refine zf ?_
   | ((first | refine xm ?_ | refine And.intro (Aa.le_refl _) (And.intro (Ba ?_) ?_); focus ((repeat' first | exact List.Sublist.refl _ | exact List.nil_sublist _ | exact List.sublist_append_left _ _ | refine List.Sublist.cons_cons _ ?_ | refine List.Sublist.append_left ?_ _ | refine List.sublist_append_of_sublist_right ?_ | refine List.Sublist.cons _ ?_); done) | fail); try refine nz ?_)
   | exact ⟨⟩
   | fail
 repeat' first
   | refine EV.skip ?_
   | (refine cX (fun h => ?_) (fun h => ?_) <;> try exact Ah h)
   | fail
 ·refine EV.seq ?_
  repeat' first
    | refine rg ?_
    | exact ⟨⟩
    | fail
  (refine rt Q72_ok ?_; try with_reducible exact ⟨⟩)
  rw [Un hp hm hpl hsp hwk hnr h]
 have hfn := Xa hp hm hpl hsp hwk hnr (by simpa using h)
 have hnx := Zr (p := p) (e := e) hsp.ol
 clear h hbef hsee hbro
 have hnxt := fun G => Xb (M := N3.add G) p _ (hse0.mono (Aa.le_add _ _)) hpl hkd e _ (IsX.mono (Aa.le_add _ _) hv0) hfl hsp.ol hin hsz
 refine EV.seq ?_
 refine EV.seq ?_
 repeat' first
   | refine EV.skip ?_
   | refine rg ?_
   | (refine Aq.call (hnxt _) ?_; try refine nx ?_)
   | (refine cX (fun h => ?_) (fun h => ?_) <;> try exact Ah h)
   | (refine xm ?_; try refine nx ?_)
   | exact ⟨⟩
   | fail
 ·refine EV.seq ?_
  repeat' first
    | refine rg ?_
    | exact ⟨⟩
    | fail
  (refine rt Q72_ok ?_; try with_reducible exact ⟨⟩)
  rw [hfn, if_neg (fun hn => by rw [hnx.2 hn] at h; cases h)]
 ·refine EV.seq ?_
  repeat' first
    | refine rg ?_
    | exact ⟨⟩
    | fail
  (refine rt Q72_ok ?_; try with_reducible exact ⟨⟩)
  rw [hfn, if_pos (hnx.1 (by simpa using h))]
end
end Go.EV

namespace Go.EV
open Go.Proofs
variable {P : Program} {f : FuncId} {args : Array Value}
def Dq (w : World) : Aa := fun b o => w.heap[b]? = some o
theorem Zy {w w' : World} {M0 M : Aa} {G : Own} (h : EV.St w [] M0 M G w') : w.keptBut w' (fun _ => False) := by
 refine ⟨h.os, h.output, fun i hi => ?_⟩
 have e := h.frame i hi (by simp)
 rw [e]
 cases w.heap[i]? with
 | none => rfl
 | some o => cases o <;> simp
theorem Con.at {w : World} {Φ : Value → Aa → Own → Prop} (h : Con P f args (Dq w) [] Φ) : Calls P f args w fun e w' => ∃ v, e = .returned v ∧ (∃ M' G', Φ v M' G') ∧ w.keptBut w' (fun _ => False) ∧ w.heap.size ≤ w'.heap.size := by
 intro cs
 obtain ⟨e, w', fr, ⟨v, he, M', G', h1, h2⟩, r⟩ := h.2 w (St.enter (G := []) (fun b o hb => hb) (by simp) (by simp) (by simp)) cs
 exact ⟨e, w', fr, ⟨v, he, ⟨M', G', h2⟩, Zy h1, h1.size⟩, r⟩
theorem Ta {H : Type} {enc : TypeId × Value → H} {f : Func} {s : ChangeSpec} {apart fresh handsOn : Bool} {W W' : World} {args : Array Value} {v : Value} {ds gs : List (DataW H)} {before pa pv : List MemPlace}
  (hW : DataW.Whole enc P f.params.toList s.vars apart W args.toList ds gs before)
  (hres : ∀ (b : Nat) (sp : Nat → Bool) (hd : Bool), DataW.TrodAll enc P W' b sp hd f.resultTypes.toList (v.resultList f.resultTypes.size) (s.fn H (ds ++ gs)).results [])
  (hargs : ∀ sp : Nat → Bool, (∀ p ∈ before, sp p.block = true) → DataW.TrodAll enc P W' 0 sp true f.params.toList args.toList (s.fn H (ds ++ gs)).args pa)
  (hvars : ∀ sp : Nat → Bool, (∀ p ∈ before, sp p.block = true) → DataW.TrodVars enc P W' sp s.vars (s.fn H (ds ++ gs)).vars pv)
  (hps : before = pa ++ pv) (hk : W.keptBut W' (fun _ => False)) :
  s.post enc P f apart fresh handsOn false W args v W' := by
 have hold : ∀ p ∈ before, (fun b => decide (b < W.heap.size)) p.block = true := fun p hp => by simpa using hW.lt p hp
 exact ⟨ds, gs, before, [], pa, pv, hW, hres _ _ _, hargs _ hold, hvars _ hold, World.keptBut_mono (fun p hp => hp.elim) hk, fun h => by cases h⟩
end Go.EV

namespace Go.EV
open Go.Proofs
section
variable {H : Type} {enc : TypeId × Value → H} {P : Program} {W : World} {base : Nat} {sp : Nat → Bool} {held : Bool}
theorem Jx {α β : Type} {f : α → Option β} : ∀ {l : List α} {r : List β}, l.mapM f = some r → r.length = l.length ∧ ∀ i (h : i < l.length), ∃ y, f l[i] = some y ∧ r[i]? = some y
 | [], r, h => by simp at h; subst h; simp
 | x :: l, r, h => by
  simp only [List.mapM_cons, Option.bind_eq_bind, Option.pure_def, Option.bind_eq_some_iff] at h
  obtain ⟨y, hy, r', hr', e⟩ := h
  cases e
  obtain ⟨h1, h2⟩ := Jx hr'
  refine ⟨by simp [h1], fun i hi => ?_⟩
  cases i with
  | zero => exact ⟨y, hy, rfl⟩
  | succ i => exact h2 i (by simpa using hi)
theorem Wa {a : Addr} {n : Nat} {cs : List Value} (h : W.cells? base a n = some cs) (hn : 0 < n) : ∃ b off, a = ⟨b, off, none⟩ ∧ rd (Dq W) b off n cs := by
 unfold World.cells? at h
 split at h
 ·obtain ⟨h1, h2⟩ := Jx h
  rw [List.length_range] at h1
  obtain ⟨ab, ao, sa⟩ := a
  have hspot : sa = none := by
   obtain ⟨y, hy, _⟩ := h2 0 (by simpa using hn)
   simp only [List.getElem_range, World.cell?, Addr.add] at hy
   cases sa with
   | none => rfl
   | some s => exfalso; revert hy; simp; split <;> simp
  subst hspot
  refine ⟨ab, ao, rfl, ?_⟩
  have hcell : ∀ i, i < n → ∃ y, W.cell? ⟨ab, ao + i, none⟩ = some y ∧ cs[i]? = some y := fun i hi => by
   obtain ⟨y, hy, e⟩ := h2 i (by simpa using hi)
   rw [List.getElem_range, Eh] at hy
   exact ⟨y, hy, e⟩
  cases hb : W.heap[ab]? with
  | none => obtain ⟨y, hy, _⟩ := hcell 0 hn; simp [World.cell?, hb] at hy
  | some ob =>
   cases ob with
   | cells c T fz =>
    have hc : ∀ i, i < n → c[ao + i]? = cs[i]? := fun i hi => by
     obtain ⟨y, hy, e⟩ := hcell i hi
     simp [World.cell?, hb] at hy
     rw [hy, e]
    have hle : ao + n ≤ c.size := by
     obtain ⟨y, hy, e⟩ := hcell (n - 1) (by omega)
     have h3 := hc (n - 1) (by omega)
     rw [e] at h3
     have := (Array.getElem?_eq_some_iff.1 h3).1
     omega
    refine ⟨c, T, fz, hb, hle, ?_⟩
    apply List.ext_getElem?
    intro i
    rw [List.getElem?_take]
    by_cases hi : i < n
    ·rw [if_pos hi, List.getElem?_drop, ← hc i hi]; simp
    ·rw [if_neg hi, List.getElem?_eq_none (by omega)]
   | _ => obtain ⟨y, hy, _⟩ := hcell 0 hn; simp [World.cell?, hb] at hy
 ·cases h
theorem At6 {b off n k : Nat} {xs ys : List Value} (h1 : rd (Dq W) b off n xs) (h2 : rd (Dq W) b (off + n) k ys) : rd (Dq W) b off (n + k) (xs ++ ys) := by
 obtain ⟨c, T, fz, e1, l1, rfl⟩ := h1
 obtain ⟨c', T', fz', e2, l2, rfl⟩ := h2
 have : (Obj.cells c T fz) = Obj.cells c' T' fz' := Option.some.inj (e1.symm.trans e2)
 cases this
 refine ⟨c, T, fz, e1, by omega, ?_⟩
 rw [← List.drop_drop, List.take_add]
theorem At7 {α : Type} {e' : α → List Value} {sz b off : Nat} (henc : ∀ z, (e' z).length = sz) : ∀ (zs : List α), 0 < zs.length → (∀ i (h : i < zs.length), rd (Dq W) b (off + i * sz) sz (e' zs[i])) → rd (Dq W) b off (zs.length * sz) (zs.flatMap e') := by
 intro zs
 induction zs generalizing off with
 | nil => intro h; exact absurd h (by simp)
 | cons z zs ih =>
  intro _ hr
  have h0 := hr 0 (by simp)
  simp only [Nat.zero_mul, Nat.add_zero, List.getElem_cons_zero] at h0
  cases hz : zs with
  | nil => simpa [hz] using h0
  | cons z' zs' =>
   have h1 := ih (off := off + sz) (by rw [hz]; simp) (fun i hi => by
    have := hr (i + 1) (by simpa using hi)
    rw [Nat.succ_mul] at this
    rw [show off + sz + i * sz = off + (i * sz + sz) by omega]
    simpa using this)
   have := At6 h0 h1
   rw [hz] at this
   simpa [Nat.succ_mul, Nat.add_comm, Nat.add_left_comm] using this
theorem Om {e : TypeId} {ds : List (DataW H)} (h : (DataW.weightsAll P e ds).all (· ≤ reachBytes) = true) : ∀ d ∈ ds, (d.weights P e).all (· ≤ reachBytes) = true := by
 induction ds with
 | nil => intro d hd; cases hd
 | cons d ds ih =>
  rw [DataW.weightsAll, List.all_append, Bool.and_eq_true] at h
  intro d' hd
  rcases List.mem_cons.1 hd with rfl | hd
  ·exact h.1
  ·exact ih h.2 d' hd
theorem Jy {α : Type} {e' : α → List Value} {Q : α → Prop} {t e : TypeId} {sz m : Nat} {v : Value} {x : DataW H × List MemPlace} (ht : P.underlying t = some (.slice e)) (hc : P.cellsOf e = sz) (hpos : 0 < sz) (hby : 0 < P.bytesOf e) (henc : ∀ z, (e' z).length = sz)
  (h : DataW.trod enc P W base sp held m t [v] = some x) (hw : (x.1.weights P t).all (· ≤ reachBytes) = true)
  (hel : ∀ m cs y, DataW.trod enc P W base sp held m e cs = some y → (y.1.weights P e).all (· ≤ reachBytes) = true → ∃ z, cs = e' z ∧ Q z) :
  ∃ (zs : List α) (a : Option Addr) (c : Nat), v = .slice a zs.length c ∧ rdS (Dq W) sz a zs.length (zs.flatMap e') ∧ zs.length ≤ reachBytes ∧ ∀ z ∈ zs, Q z := by
 cases m with
 | zero => simp [DataW.trod] at h
 | succ m =>
  unfold DataW.trod at h
  rw [ht] at h
  split at h <;> (try (cases h; done)) <;> (try (rename_i hu _ _; cases hu; done)) <;> (try (rename_i hu _; cases hu; done)) <;> (try (rename_i hu; cases hu; done))
  ·rename_i hv
   simp only [List.cons.injEq, and_true] at hv
   exact ⟨[], none, 0, hv, .inl ⟨by simp, rfl⟩, Nat.zero_le _, fun z hz => by cases hz⟩
  ·rename_i e0 a len cap hu hv
   cases hu
   simp only [List.cons.injEq, and_true] at hv
   subst hv
   split at h
   ·rename_i hcond
    simp only [Option.bind_eq_some_iff] at h
    obtain ⟨elems, he, h⟩ := h
    obtain ⟨rest, _, h⟩ := Option.map_eq_some_iff.1 h
    subst h
    obtain ⟨hel1, he2⟩ := Jx he
    rw [List.length_range] at hel1
    rw [hc] at he2
    dsimp only at hw
    unfold DataW.weights at hw
    rw [ht] at hw
    dsimp only at hw
    rw [List.all_cons, Bool.and_eq_true, List.all_append, Bool.and_eq_true] at hw
    obtain ⟨hw1, hw2, _⟩ := hw
    have hlb : len ≤ reachBytes := by
     have h1 : (elems.length + rest.length) * P.bytesOf e ≤ reachBytes := by simpa using hw1
     have h2 : elems.length * 1 ≤ (elems.length + rest.length) * P.bytesOf e := Nat.mul_le_mul (by omega) hby
     omega
    have hz : ∀ i : Fin len, ∃ z, W.cells? base (a.add (i.1 * sz)) sz = some (e' z) ∧ Q z := fun i => by
     obtain ⟨y, hy, hy2⟩ := he2 i.1 (by simp)
     rw [List.getElem_range] at hy
     simp only [Option.bind_eq_some_iff] at hy
     obtain ⟨cs, hcs, hy⟩ := hy
     have hym : y ∈ elems := List.mem_of_getElem? hy2
     obtain ⟨z, rfl, hq⟩ := hel _ _ _ hy (Om hw2 y.1 (List.mem_map.2 ⟨y, hym, rfl⟩))
     exact ⟨z, hcs, hq⟩
    obtain ⟨zs, hzs⟩ : ∃ zs, zs = List.ofFn fun i : Fin len => Classical.choose (hz i) := ⟨_, rfl⟩
    have hlen : zs.length = len := by rw [hzs]; simp
    have hall : ∀ i (h : i < zs.length), W.cells? base (a.add (i * sz)) sz = some (e' zs[i]) ∧ Q zs[i] := fun i hi => by
     subst hzs
     simp only [List.getElem_ofFn]
     exact Classical.choose_spec (hz ⟨i, by simpa using hi⟩)
    refine ⟨zs, some a, cap, by rw [hlen], ?_, by omega, fun z hz' => ?_⟩
    ·by_cases h0 : zs.length = 0
     ·refine .inl ⟨by rw [h0]; simp, ?_⟩
      rw [List.length_eq_zero_iff.1 h0]; rfl
     ·obtain ⟨b, off, hab, _⟩ := Wa (hall 0 (by omega)).1 hpos
      rw [Nat.zero_mul] at hab
      have hab2 : a = ⟨b, off, none⟩ := by rw [← hab]; simp [Addr.add]
      refine .inr ⟨b, off, by rw [hab2], At7 henc zs (by omega) fun i hi => ?_⟩
      obtain ⟨b', off', hab', hr⟩ := Wa (hall i hi).1 hpos
      rw [hab2, Eh] at hab'
      cases hab'
      exact hr
    ·obtain ⟨i, hi, rfl⟩ := List.mem_iff_getElem.1 hz'
     exact (hall i hi).2
   ·cases h
theorem Ah3 {t : TypeId} {m : Nat} {cs : List Value} {x : DataW H × List MemPlace} (ht : P.underlying t = some (.int .i64)) (h : DataW.trod enc P W base sp held m t cs = some x) : ∃ n, cs = [vi n] := by
 cases m with
 | zero => simp [DataW.trod] at h
 | succ m =>
  unfold DataW.trod at h
  rw [ht] at h
  split at h <;> (try (cases h; done)) <;> (try (rename_i hu _ _; cases hu; done)) <;> (try (rename_i hu _; cases hu; done)) <;> (try (rename_i hu; cases hu; done))
  rename_i k1 k2 n1 hu
  cases hu
  split at h
  ·rename_i hk
   obtain ⟨rfl, _⟩ := hk
   exact ⟨n1, rfl⟩
  ·cases h
theorem Uw {W' : World} (hf : ∀ b, b < W.heap.size → W'.heap[b]? = W.heap[b]?) {p : MemPlace} (hp : p.block < W.heap.size) : W.sameAt W' p := by
 cases p with
 | cell b off => simp only [World.sameAt, World.cell?, hf b hp]
 | map b => exact hf b hp
theorem Lb {W' : World} (K : Kids P (· < P.types.size)) (hsz : ∀ {t e : TypeId}, t < P.types.size → P.underlying t = some (.slice e) → 0 < P.cellsOf e) (hf : ∀ b, b < W.heap.size → W'.heap[b]? = W.heap[b]?) {sp' : Nat → Bool} :
  ∀ {ts : List TypeId} {vs : List Value} {ds : List (DataW H)} {ps : List MemPlace}, (∀ t ∈ ts, t < P.types.size) → DataW.TrodAll enc P W 0 (fun _ => true) true ts vs ds ps → (∀ p ∈ ps, p.block < W.heap.size) → (∀ p ∈ ps, sp' p.block = true) → DataW.TrodAll enc P W' 0 sp' true ts vs ds ps
 | [], [], [], ps, _, h, _, _ => h
 | t :: ts, v :: vs, d :: ds, ps, hts, h, hb, hs => by
  obtain ⟨p, q, ⟨m, h1⟩, h2, rfl⟩ := h
  refine ⟨p, q, ⟨m, DataW.trod_stays K hsz (fun h => by cases h) (hts t (by simp)) h1 (fun r hr => Uw hf (hb r (by simp [hr]))) (fun r hr => hs r (by simp [hr]))⟩, ?_, rfl⟩
  exact Lb K hsz hf (fun t ht => hts t (by simp [ht])) h2 (fun r hr => hb r (by simp [hr])) (fun r hr => hs r (by simp [hr]))
theorem Con.at2 {f : FuncId} {args : Array Value} {Φ : Value → Aa → Own → Prop} (h : Con P f args (Dq W) [] Φ) : Calls P f args W fun e W' => ∃ v, e = .returned v ∧ (∃ M' G', Φ v M' G') ∧ W.keptBut W' (fun _ => False) ∧ ∀ b, b < W.heap.size → W'.heap[b]? = W.heap[b]? := by
 intro cs
 obtain ⟨e, w', fr, ⟨v, he, M', G', h1, h2⟩, r⟩ := h.2 W (St.enter (G := []) (fun b o hb => hb) (by simp) (by simp) (by simp)) cs
 exact ⟨e, w', fr, ⟨v, he, ⟨M', G', h2⟩, Zy h1, fun b hb => h1.frame b hb (by simp)⟩, r⟩
end
end Go.EV

namespace Go.EV
open Go.Proofs Go.ChangeShapes
theorem I0 {α β : Type} (f : α → β) : ∀ zs : List α, zs.flatMap (fun z => [f z]) = zs.map f
 | [] => rfl
 | z :: zs => by rw [List.flatMap_cons, I0 f zs]; rfl
section
variable {H : Type} {enc : TypeId × Value → H} {W : World} {sp : Nat → Bool} {held : Bool}
theorem Tb : (Tryz.prog).cellsOf 3 = 1 := by kernel_rfl
theorem Wb : (Tryz.prog).cellsOf 83 = 5 := by kernel_rfl
theorem Zz : (Tryz.prog).cellsOf 70 = 1 := by kernel_rfl
theorem Z0 : (Tryz.prog).cellsOf 22 = 1 := by kernel_rfl
theorem Z1 : (Tryz.prog).cellsOf 24 = 1 := by kernel_rfl
theorem Ad6 : 0 < (Tryz.prog).bytesOf 83 := of_decide_eq_true (by kernel_rfl)
theorem Z2 : 0 < (Tryz.prog).bytesOf 70 := of_decide_eq_true (by kernel_rfl)
theorem Z3 : 0 < (Tryz.prog).bytesOf 3 := of_decide_eq_true (by kernel_rfl)
set_option maxRecDepth 100000 in
theorem Es6 {m : Nat} {cs : List Value} {y : DataW H × List MemPlace} (h : DataW.trod enc Tryz.prog W 0 sp held m 83 cs = some y) : ∃ o : OpV, cs = Be o ∧ True := by
 obtain ⟨xs, n, _, _, hl, hxl, hf⟩ := DataW.trod_struct Tryz.underlying83 h
 rw [Wb] at hl
 have hxl5 : xs.length = 5 := hxl
 have key : ∀ i : Nat, ∀ f : Field, i < 5 → (show Array Field from _)[i]? = some f → f.type = 3 → ∃ k, ((cs.drop f.offset).take 1) = [vi k] := fun i f hi e ht => by
  have h1 := hf i f e
  rw [ht, Tb] at h1
  obtain ⟨y, hy⟩ : ∃ y, xs[i]? = some y := ⟨xs[i], List.getElem?_eq_getElem (by omega)⟩
  rw [hy] at h1
  exact Ah3 Tryz.underlying3 h1
 obtain ⟨k0, e0⟩ := key 0 _ (by decide) rfl rfl
 obtain ⟨k1, e1⟩ := key 1 _ (by decide) rfl rfl
 obtain ⟨k2, e2⟩ := key 2 _ (by decide) rfl rfl
 obtain ⟨k3, e3⟩ := key 3 _ (by decide) rfl rfl
 obtain ⟨k4, e4⟩ := key 4 _ (by decide) rfl rfl
 match cs, hl with
 | [c0, c1, c2, c3, c4], _ =>
  refine ⟨⟨k0, k1, k2, k3, k4⟩, ?_, trivial⟩
  simp at e0 e1 e2 e3 e4
  simp [e0, e1, e2, e3, e4]
set_option maxRecDepth 100000 in
theorem Cm1 {m : Nat} {cs : List Value} {y : DataW H × List MemPlace} (hl : cs.length = 1) (h : DataW.trod enc Tryz.prog W 0 sp held m 70 cs = some y) (hw : (y.1.weights Tryz.prog 70).all (· ≤ reachBytes) = true) :
  ∃ z : Value × List OpV, cs = [z.1] ∧ Sl (Dq W) 5 Be z.1 z.2 ∧ z.2.length ≤ reachBytes := by
 match cs, hl with
 | [v], _ =>
  obtain ⟨zs, a, c, rfl, h1, h2, _⟩ := Jy (e' := Be) (Q := fun _ => True) Tryz.underlying70 Wb (by decide) Ad6 (fun _ => rfl) h hw (fun m cs y hy _ => Es6 hy)
  exact ⟨(_, zs), rfl, ⟨a, c, rfl, h1⟩, h2⟩
set_option maxRecDepth 100000 in
theorem Il {t e : TypeId} {m : Nat} {cs : List Value} {y : DataW H × List MemPlace} (ht : (Tryz.prog).underlying t = some (.slice e)) (h : DataW.trod enc Tryz.prog W 0 sp held m t cs = some y) : cs.length = 1 := by
 cases m with
 | zero => simp [DataW.trod] at h
 | succ m =>
  unfold DataW.trod at h
  rw [ht] at h
  split at h <;> (try (cases h; done)) <;> (try (rename_i hu _ _; cases hu; done)) <;> (try (rename_i hu _; cases hu; done)) <;> (try (rename_i hu; cases hu; done)) <;> rfl
set_option maxRecDepth 100000 in
theorem Z4 {m : Nat} {cs : List Value} {y : DataW H × List MemPlace} (h : DataW.trod enc Tryz.prog W 0 sp held m 24 cs = some y) (hw : (y.1.weights Tryz.prog 24).all (· ≤ reachBytes) = true) :
  ∃ s ts, cs = [s] ∧ Gw (Dq W) 5 Be s ts ∧ ts.length ≤ reachBytes ∧ ∀ t ∈ ts, t.length ≤ reachBytes := by
 obtain ⟨y0, n, rfl, hl, h0⟩ := ChangeShapes.trod_struct1 Tryz.underlying24 h
 rw [Z1] at hl
 match cs, hl with
 | [s], _ =>
  unfold DataW.weights at hw
  rw [Tryz.underlying24] at hw
  simp only [List.map_cons, List.map_nil, DataW.weightsEach, List.append_nil] at hw
  have h1 : DataW.trod enc Tryz.prog W 0 sp held n 22 [s] = some y0 := by
   have := h0
   rw [show (Tryz.prog).cellsOf (Field.type _) = 1 from Z0] at this
   exact this
  obtain ⟨zs, a, c, rfl, h2, h3, h4⟩ := Jy (e' := fun z : Value × List OpV => [z.1]) (Q := fun z => Sl (Dq W) 5 Be z.1 z.2 ∧ z.2.length ≤ reachBytes) Tryz.underlying22 Zz (by decide) Z2 (fun _ => rfl) h1 hw (fun m cs y hy hyw => Cm1 (Il Tryz.underlying70 hy) hy hyw)
  refine ⟨_, zs.map (·.2), rfl, ⟨a, c, zs.map (·.1), by simp, by simp, ?_, ?_⟩, by simpa using h3, ?_⟩
  ·have e : zs.flatMap (fun z : Value × List OpV => [z.1]) = zs.map (·.1) := I0 _ zs
   rw [e] at h2
   rw [List.length_map]
   exact h2
  ·intro i hi hi'
   simp only [List.getElem_map]
   exact (h4 _ (List.getElem_mem _)).1
  ·intro t ht
   obtain ⟨z, hz, rfl⟩ := List.mem_map.1 ht
   exact (h4 z hz).2
end
set_option maxRecDepth 100000 in
theorem Ey8 : Kids Tryz.prog (· < (Tryz.prog).types.size) := kids_rows (by kernel_rfl) (by kernel_rfl)
set_option maxRecDepth 100000 in
theorem Ad7 : ((List.range (Tryz.prog).types.size).all fun t => match (Tryz.prog).underlying t with | some (.slice e) => decide (0 < (Tryz.prog).cellsOf e) | _ => true) = true := by kernel_rfl
theorem Z5 {t e : TypeId} (ht : t < (Tryz.prog).types.size) (h : (Tryz.prog).underlying t = some (.slice e)) : 0 < (Tryz.prog).cellsOf e := by
 have := List.all_eq_true.1 Ad7 t (List.mem_range.2 ht)
 rw [h] at this
 simpa using this
end Go.EV

namespace Go.EV
open Go.Proofs Go.ChangeShapes
section
variable {H : Type} {enc : TypeId × Value → H} {P : Program} {W : World} {base : Nat} {sp : Nat → Bool} {held : Bool}
theorem Xh {t e : TypeId} {m : Nat} {v : Value} {x : DataW H × List MemPlace} (ht : P.underlying t = some (.slice e))
  (h : DataW.trod enc P W base sp held m t [v] = some x) (hw : (x.1.weights P t).all (· ≤ reachBytes) = true) : ∃ a n c, v = .slice a n c ∧ n ≤ c ∧ n * P.bytesOf e ≤ reachBytes := by
 cases m with
 | zero => simp [DataW.trod] at h
 | succ m =>
  unfold DataW.trod at h
  rw [ht] at h
  split at h <;> (try (cases h; done)) <;> (try (rename_i hu _ _; cases hu; done)) <;> (try (rename_i hu _; cases hu; done)) <;> (try (rename_i hu; cases hu; done))
  ·rename_i hv
   simp only [List.cons.injEq, and_true] at hv
   exact ⟨none, 0, 0, hv, Nat.le_refl _, by simp⟩
  ·rename_i e0 a len cap hu hv
   cases hu
   simp only [List.cons.injEq, and_true] at hv
   subst hv
   split at h
   ·rename_i hcond
    simp only [Option.bind_eq_some_iff] at h
    obtain ⟨elems, he, h⟩ := h
    obtain ⟨rest, _, h⟩ := Option.map_eq_some_iff.1 h
    subst h
    obtain ⟨hel1, he2⟩ := Jx he
    rw [List.length_range] at hel1
    dsimp only at hw
    unfold DataW.weights at hw
    rw [ht] at hw
    dsimp only at hw
    rw [List.all_cons, Bool.and_eq_true, List.all_append, Bool.and_eq_true] at hw
    obtain ⟨hw1, hw2, _⟩ := hw
    have h1 : (elems.length + rest.length) * P.bytesOf e ≤ reachBytes := by simpa using hw1
    refine ⟨_, _, _, rfl, ?_, ?_⟩
    ·exact hcond.2.1
    ·rw [← hel1]
     exact Nat.le_trans (Nat.mul_le_mul_right _ (Nat.le_add_right _ _)) h1
   ·cases h
theorem At8 {t : TypeId} {m : Nat} {cs : List Value} {x : DataW H × List MemPlace} (ht : P.underlying t = some .bool) (h : DataW.trod enc P W base sp held m t cs = some x) : ∃ n, cs = [vb n] := by
 cases m with
 | zero => simp [DataW.trod] at h
 | succ m =>
  unfold DataW.trod at h
  rw [ht] at h
  split at h <;> (try (cases h; done)) <;> (try (rename_i hu _ _; cases hu; done)) <;> (try (rename_i hu _; cases hu; done)) <;> (try (rename_i hu; cases hu; done))
  exact ⟨_, rfl⟩
end
section
variable {H : Type} {enc : TypeId × Value → H} {W : World} {sp : Nat → Bool} {held : Bool}
theorem Xi : (Tryz.prog).cellsOf 4 = 1 := by kernel_rfl
theorem Ke : (Tryz.prog).cellsOf 34 = 1 := by kernel_rfl
theorem Ux : (Tryz.prog).cellsOf 35 = 1 := by kernel_rfl
theorem Uy : (Tryz.prog).cellsOf 26 = 1 := by kernel_rfl
theorem Xj : (Tryz.prog).cellsOf 45 = 4 := by kernel_rfl
theorem Xk : 0 < (Tryz.prog).bytesOf 4 := of_decide_eq_true (by kernel_rfl)
theorem Xl : 0 < (Tryz.prog).bytesOf 34 := of_decide_eq_true (by kernel_rfl)
theorem Xm : (Tryz.prog).bytesOf 3 = 8 := by kernel_rfl
theorem Re {m : Nat} {v : Value} {x : DataW H × List MemPlace} (h : DataW.trod enc Tryz.prog W 0 sp held m 34 [v] = some x) (hw : (x.1.weights Tryz.prog 34).all (· ≤ reachBytes) = true) :
  ∃ zs : List Int, SlC (Dq W) 1 ei v zs ∧ zs.length * 8 ≤ reachBytes := by
 obtain ⟨zs, a, c, rfl, h1, h2, _⟩ := Jy (e' := ei) (Q := fun _ => True) Tryz.underlying34 Tb (by decide) Z3 (fun _ => rfl) h hw (fun m cs y hy _ => by obtain ⟨n, rfl⟩ := Ah3 Tryz.underlying3 hy; exact ⟨n, rfl, trivial⟩)
 obtain ⟨a', n', c', e1, h3, h4⟩ := Xh Tryz.underlying34 h hw
 cases e1
 rw [Xm] at h4
 exact ⟨zs, ⟨a, c, rfl, h3, h1⟩, h4⟩
theorem Ad8 {m : Nat} {v : Value} {x : DataW H × List MemPlace} (h : DataW.trod enc Tryz.prog W 0 sp held m 35 [v] = some x) (hw : (x.1.weights Tryz.prog 35).all (· ≤ reachBytes) = true) :
  ∃ zs : List Bool, Sl (Dq W) 1 eb v zs ∧ zs.length ≤ reachBytes := by
 obtain ⟨zs, a, c, rfl, h1, h2, _⟩ := Jy (e' := eb) (Q := fun _ => True) Tryz.underlying35 Xi (by decide) Xk (fun _ => rfl) h hw (fun m cs y hy _ => by obtain ⟨n, rfl⟩ := At8 Tryz.underlying4 hy; exact ⟨n, rfl, trivial⟩)
 exact ⟨zs, ⟨a, c, rfl, h1⟩, h2⟩
set_option maxRecDepth 100000 in
theorem Ad9 {m : Nat} {v : Value} {x : DataW H × List MemPlace} (h : DataW.trod enc Tryz.prog W 0 sp held m 26 [v] = some x) (hw : (x.1.weights Tryz.prog 26).all (· ≤ reachBytes) = true) :
  ∃ zs : List (List Int), Di (Dq W) 1 ei v zs ∧ zs.length ≤ reachBytes ∧ ∀ l ∈ zs, l.length * 8 ≤ reachBytes := by
 obtain ⟨zs, a, c, rfl, h2, h3, h4⟩ := Jy (e' := fun z : Value × List Int => [z.1]) (Q := fun z => SlC (Dq W) 1 ei z.1 z.2 ∧ z.2.length * 8 ≤ reachBytes) Tryz.underlying26 Ke (by decide) Xl (fun _ => rfl) h hw (fun m cs y hy hyw => by
  match cs, Il Tryz.underlying34 hy with
  | [w], _ =>
   obtain ⟨zs, h1, h2⟩ := Re hy hyw
   exact ⟨(w, zs), rfl, h1, h2⟩)
 refine ⟨zs.map (·.2), ⟨a, c, zs.map (·.1), by simp, by simp, ?_, ?_⟩, by simpa using h3, ?_⟩
 ·have e : zs.flatMap (fun z : Value × List Int => [z.1]) = zs.map (·.1) := I0 _ zs
  rw [e] at h2
  rw [List.length_map]
  exact h2
 ·intro i hi hi'
  simp only [List.getElem_map]
  exact (h4 _ (List.getElem_mem _)).1
 ·intro t ht
  obtain ⟨z, hz, rfl⟩ := List.mem_map.1 ht
  exact (h4 z hz).2
set_option maxRecDepth 100000 in
theorem At9 {m : Nat} {cs : List Value} {y : DataW H × List MemPlace} (h : DataW.trod enc Tryz.prog W 0 sp held m 45 cs = some y) (hw : (y.1.weights Tryz.prog 45).all (· ≤ reachBytes) = true) :
  ∃ e, IsX (Dq W) (.agg cs.toArray) e ∧ XSz e := by
 obtain ⟨xs, n, _, e, hl, hxl, hf⟩ := DataW.trod_struct Tryz.underlying45 h
 subst e
 rw [Xj] at hl
 have hxl4 : xs.length = 4 := hxl
 have hrb : reachBytes ≤ 140737488355328 := by decide
 match xs, hxl4 with
 | [y0, y1, y2, y3], _ =>
  have h0 := hf 0 _ rfl
  have h1 := hf 1 _ rfl
  have h2 := hf 2 _ rfl
  have h3 := hf 3 _ rfl
  match cs, hl with
  | [c0, c1, c2, c3], _ =>
   have k0 : DataW.trod enc Tryz.prog W 0 sp held n 34 [c0] = some y0 := by
    rw [show (Tryz.prog).cellsOf (Field.type _) = 1 from Ke] at h0; exact h0
   have k1 : DataW.trod enc Tryz.prog W 0 sp held n 35 [c1] = some y1 := by
    rw [show (Tryz.prog).cellsOf (Field.type _) = 1 from Ux] at h1; exact h1
   have k2 : DataW.trod enc Tryz.prog W 0 sp held n 26 [c2] = some y2 := by
    rw [show (Tryz.prog).cellsOf (Field.type _) = 1 from Uy] at h2; exact h2
   have k3 : DataW.trod enc Tryz.prog W 0 sp held n 34 [c3] = some y3 := by
    rw [show (Tryz.prog).cellsOf (Field.type _) = 1 from Ke] at h3; exact h3
   unfold DataW.weights at hw
   rw [Tryz.underlying45] at hw
   simp only [List.map_cons, List.map_nil, DataW.weightsEach, List.all_append, Bool.and_eq_true] at hw
   obtain ⟨w0, w1, w2, w3, _⟩ := hw
   obtain ⟨f, hf1, hf2⟩ := Re k0 w0
   obtain ⟨d, hd1, hd2⟩ := Ad8 k1 w1
   obtain ⟨o, ho1, ho2, ho3⟩ := Ad9 k2 w2
   obtain ⟨g, hg1, hg2⟩ := Re k3 w3
   exact ⟨⟨f, d, o, g⟩, ⟨c0, c1, c2, c3, rfl, hf1.sl, hd1, ho1, hg1.sl⟩, ⟨by dsimp only; omega, by dsimp only; omega, by dsimp only; omega, by dsimp only; omega, fun l hl => Nat.le_trans (ho3 l hl) hrb⟩⟩
end
end Go.EV
