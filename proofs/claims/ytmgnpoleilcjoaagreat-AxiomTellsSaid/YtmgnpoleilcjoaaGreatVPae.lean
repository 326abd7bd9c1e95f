/- Part of the proof of a statement about executions of litmus programs: walks and laws. -/
import Derived.Test.YtmgnpoleilcjoaaGreatVPad
import Derived.Test.YtmgnpoleilcjoaaGreatVPac
set_option maxRecDepth 8000
set_option linter.unusedSimpArgs false
set_option linter.unusedVariables false
set_option linter.unusedSectionVars false
namespace Go.EV
open Go.Proofs
section
variable {M : Aa}
theorem Sx (l : List (Bo M)) (hs : l.Pairwise (fun x y => ¬ Fh y.xs x.xs < 0)) : ∀ n, n ≤ l.length →
  (J8 l n).Pairwise (fun x y => Fh x.xs y.xs < 0) ∧ (∀ x, x ∈ (J8 l n).map Bo.xs ↔ x ∈ (l.take n).map Bo.xs) ∧ (0 < n → ∃ y, (J8 l n).getLast? = some y ∧ y.xs = (l[n - 1]!).xs)
 | 0, _ => ⟨List.Pairwise.nil, fun x => by simp [J8], fun h => absurd h (Nat.lt_irrefl _)⟩
 | n + 1, hn => by
  obtain ⟨h1, h2, h3⟩ := Sx l hs n (by omega)
  have jc : n < l.length := by omega
  have ht : l.take (n + 1) = l.take n ++ [l[n]] := List.take_succ_eq_append_getElem jc
  rw [J8, Gt jc, ht, Nat.add_sub_cancel, Gt jc]
  by_cases hc : n = 0 ∨ (l[n]).xs ≠ (l[n - 1]!).xs
  ·rw [if_pos hc]
   refine ⟨?_, fun x => ?_, fun _ => ⟨l[n], by simp, rfl⟩⟩
   ·rw [List.pairwise_append]
    refine ⟨h1, List.pairwise_singleton .., fun x hx y hy => ?_⟩
    rw [List.mem_singleton] at hy
    subst hy
    -- x is one of the first n
    have tI : x.xs ∈ (l.take n).map Bo.xs := (h2 _).1 (List.mem_map.2 ⟨x, hx, rfl⟩)
    obtain ⟨x', dh, hZ⟩ := List.mem_map.1 tI
    obtain ⟨j, hj, rfl⟩ := List.getElem_of_mem dh
    have iP : j < n := by simp at hj; omega
    rw [List.getElem_take] at hZ
    have hne : n ≠ 0 := by omega
    have jP : (l[n]).xs ≠ (l[n - 1]!).xs := hc.resolve_left hne
    rw [Gt (show n - 1 < l.length by omega)] at jP
    rw [← hZ]
    have hp := List.pairwise_iff_getElem.1 hs
    rcases E5 (l[j]'(by omega)).xs (l[n]).xs with h | h | h
    ·exact h
    ·exfalso
     -- l[j] = l[n], so l[n-1] = l[n]
     have ha : ¬ Fh (l[n]).xs (l[n - 1]'(by omega)).xs < 0 := hp (n - 1) n (by omega) jc (by omega)
     have hb : ¬ Fh (l[n - 1]'(by omega)).xs (l[j]'(by omega)).xs < 0 := by
      by_cases tJ : j = n - 1
      ·subst tJ; rw [Ef]; omega
      ·exact hp j (n - 1) (by omega) (by omega) (by omega)
     rcases E5 (l[n]).xs (l[n - 1]'(by omega)).xs with k | k | k
     ·exact ha k
     ·exact jP k
     ·rw [← h] at k; exact hb k
    ·exact absurd h (hp j n (by omega) jc iP)
   ·rw [List.map_append, List.map_append, List.mem_append, List.mem_append, h2 x]
  ·rw [if_neg hc, List.append_nil]
   have gP : 0 < n := by omega
   have aa : (l[n]).xs = (l[n - 1]!).xs := by
    apply Decidable.byContradiction; intro h; exact hc (.inr h)
   refine ⟨h1, fun x => ?_, fun _ => ?_⟩
   ·rw [h2 x, List.map_append, List.mem_append]
    constructor
    ·intro h; exact .inl h
    ·rintro (h | h)
     ·exact h
     ·simp only [List.map_singleton, List.mem_singleton] at h
      rw [h, aa, Gt (show n - 1 < l.length by omega)]
      exact List.mem_map.2 ⟨_, List.mem_take_iff_getElem.2 ⟨n - 1, by omega, rfl⟩, rfl⟩
   ·obtain ⟨y, hy, tK⟩ := h3 gP
    exact ⟨y, hy, by rw [tK, aa]⟩
theorem Zo (l : List (Bo M)) (hs : l.Pairwise (fun x y => ¬ Fh y.xs x.xs < 0)) :
  (Xm l).Pairwise (fun x y => Fh x.xs y.xs < 0) ∧ ∀ x, x ∈ (Xm l).map Bo.xs ↔ x ∈ l.map Bo.xs := by
 obtain ⟨h1, h2, _⟩ := Sx l hs l.length (Nat.le_refl _)
 exact ⟨h1, fun x => by rw [← List.take_length (l := l)]; simpa [Xm] using h2 x⟩
set_option maxHeartbeats 4000000 in
theorem J0 {b cap : Nat} {T : TypeId} {sp : List Value} (rs : List (Bo M)) (hl : rs.length < 1000000) (hc : cap = rs.length + sp.length) :
  Con Tryz.prog 36 #[.slice (some ⟨b, 0, none⟩) rs.length cap] M [(b, Cl T (rs.map Bo.v ++ sp))] fun v M' G' =>
   M' = M ∧ ∃ (ys : List (Bo M)) (sp' : List Value), v = .slice (some ⟨b, 0, none⟩) ys.length cap ∧ G' = [(b, Cl T (ys.map Bo.v ++ sp'))] ∧ cap = ys.length + sp'.length ∧
    ys.Pairwise (fun x y => Fh x.xs y.xs < 0) ∧ ∀ x, x ∈ ys.map Bo.xs ↔ x ∈ rs.map Bo.xs := by
 refine Con.enter Q4_ok (args := [.slice (some ⟨b, 0, none⟩) rs.length cap]) (by simp [Q4]) fun w0 => ?_
 simp only [Q4, A5]
 repeat' first
   | refine EV.seq ?_
   | refine rg ?_
   | exact ⟨⟩
   | fail
 refine Con.run (Zn (b := b) (T := T) (rs := rs) (sp := sp) (c := cap) (by omega)) ?_
 rintro v M' G' hM ⟨rfl, rfl, ys, hp, hs, rfl⟩
 have pY := hp.length_eq
 repeat' first
   | refine EV.seq ?_
   | refine rg ?_
   | exact ⟨⟩
   | fail
 rw [← pY]
 refine Con.run (Sv (b := b) (T := T) (l := ys) (sp := sp) (c := cap) (by omega) (by omega)) ?_
 rintro v M2 G2 bE ⟨rfl, sp', rfl, rfl, bq⟩
 repeat' first
   | fail
 (refine rt Q4_ok ?_; try with_reducible exact ⟨⟩)
 obtain ⟨k1, k2⟩ := Zo ys hs
 exact ⟨Xm ys, rfl, sp', rfl, bq, k1, fun x => by rw [k2 x]; exact (hp.map Bo.xs).mem_iff⟩
theorem Nu (fv : Value) : Con Tryz.prog 89 #[.slice none 0 0, fv] M [] fun v M' G' => M' = M ∧ v = .slice none 0 0 ∧ G' = [] := by
 refine Con.enter Q107_ok (args := [.slice none 0 0, fv]) (by simp [Bw9]) fun w0 => ?_
 simp only [Bw9, A5]
 repeat' first
   | refine EV.seq ?_
   | refine rg ?_
   | (refine cX (fun h => ?_) (fun h => ?_) <;> try exact Ah h)
   | exact ⟨⟩
   | fail
 (refine rt Q107_ok ?_; try with_reducible exact ⟨⟩)
theorem Lx : Con Tryz.prog 36 #[.slice none 0 0] M [] fun v M' G' => v = .slice none 0 0 ∧ G' = [] := by
 refine Con.enter Q4_ok (args := [.slice none 0 0]) (by simp [Q4]) fun w0 => ?_
 simp only [Q4, A5]
 repeat' first
   | refine EV.seq ?_
   | refine rg ?_
   | exact ⟨⟩
   | fail
 refine Con.run (G := []) (Con.sortNone (P := Tryz.prog) (ρ := Tryz.sortRows_ren) (M := M) (by have L := Tryz.sortRows; exact { L with }) rfl none 0 _) ?_
 rintro v M' G' hM ⟨rfl, rfl⟩
 repeat' first
   | refine EV.seq ?_
   | refine rg ?_
   | exact ⟨⟩
   | fail
 refine Con.run (Nu _) ?_
 rintro v M2 G2 bE ⟨rfl, rfl, rfl⟩
 repeat' first
   | fail
 (refine rt Q4_ok ?_; try with_reducible exact ⟨⟩)
end
end Go.EV

namespace Go.EV
open Go.Proofs
def Bo.up {M M' : Aa} (h : M.le M') (r : Bo M) : Bo M' := ⟨r.1, r.2.1.mono h, r.2.2⟩
theorem Bo.up_v {M M' : Aa} (h : M.le M') (l : List (Bo M)) : (l.map (Bo.up h)).map Bo.v = l.map Bo.v := by rw [List.map_map]; rfl
theorem Bo.up_xs {M M' : Aa} (h : M.le M') (l : List (Bo M)) : (l.map (Bo.up h)).map Bo.xs = l.map Bo.xs := by rw [List.map_map]; rfl
section
variable {M : Aa}
def Ct6 (p : List Ev) (bx : Nat) (os : List (List Int)) (M : Aa) (G : Own) : Prop :=
 ∃ (rs : List (Bo M)) (ov : Vec), G = (bx, Cl 26 [osv ov rs.length]) :: osg 34 ov (rs.map Bo.v) ∧ E6 1 ov rs.length (rs.map Bo.v) ∧ rs.length ≤ 421875 ∧ (∀ x, x ∈ rs.map Bo.xs ↔ x ∈ os) ∧ ∀ x, x ∈ os → Au3 p x
theorem Ct6.mono {p : List Ev} {bx : Nat} {os : List (List Int)} {M M' : Aa} {G : Own} (aj : M.le M') (h : Ct6 p bx os M G) : Ct6 p bx os M' G := by
 obtain ⟨rs, ov, h1, h2, h3, h4⟩ := h
 refine ⟨rs.map (Bo.up aj), ov, ?_, ?_, by rw [List.length_map]; exact h3, by rw [Bo.up_xs]; exact h4.1, h4.2⟩
 ·rw [Bo.up_v, List.length_map]; exact h1
 ·rw [Bo.up_v, List.length_map]; exact h2
set_option maxHeartbeats 4000000 in
theorem Rm (ts : List (List OpV)) (s : Value) (hs : Em M 5 Bc s ts) (hb : Sized ts) :
  Con Tryz.prog 11 #[.agg #[s]] M [] fun v M' _ => (A7 ts ≠ 0 ∧ v = .tuple #[.slice none 0 0, vi (A7 ts)]) ∨ (A7 ts = 0 ∧ ∃ s' outs, v = .tuple #[s', vi 0] ∧ Ab2 (Al ts) outs ∧ C7 M' 1 ei s' outs) := by
 have aI := hs
 obtain ⟨a, c, vs, rfl, hl, aH, hk⟩ := hs
 refine Con.enter Q3_ok (args := [.agg #[.slice a ts.length c]]) (by simp [Q3]) fun w0 => ?_
 simp only [Q3, A5]
 repeat' first
   | refine EV.seq ?_
   | refine rg ?_
   | ((first | with_reducible intro b | refine xrA rfl ?_ | fail); try refine nx ?_)
   | exact ⟨⟩
   | fail
 refine Con.callS (G1 := []) (Up ts _ aI hb) ?_
 rintro v M1 G1 ap ⟨rfl, (⟨hne, rfl⟩ | ⟨aY, s', rfl, bo⟩)⟩
 ·simp only [wpS, wpA, Ka, push_cast, Int.cast_ofNat_Int, reduceIte, Nat.reduceEqDiff, reduceCtorEq, Nat.reduceAdd, Nat.reduceSub, Nat.reduceMul, Int.reduceToNat, Nat.reduceLeDiff]
  repeat' first
    | refine EV.seq ?_
    | (refine EV.reg ?_; (conv => (arg 2; whnf)); (repeat first | refine nx ?_ | simp only [hne]))
    | (refine cX (fun h => ?_) (fun h => ?_) <;> try exact Ah h)
    | (with_reducible intro b; (repeat first | refine nx ?_ | simp only [hne]))
    | (refine xw ?_; (repeat first | refine nx ?_ | simp only [hne]))
    | fail
  (refine rt Q3_ok ?_; try with_reducible exact ⟨⟩)
  first | exact .inl ⟨hne, rfl⟩ | exact .inl hne | exact hne | simp [hne] | fail
 ·have hp := Hu aY
  have iM := bo
  obtain ⟨pa, pc, rfl, am⟩ := iM
  (refine nx ?_; try with_reducible exact ⟨⟩)
  repeat' first
    | refine EV.seq ?_
    | refine EV.skip ?_
    | refine rg ?_
    | (refine cX (fun h => ?_) (fun h => ?_) <;> try exact Ah h)
    | ((first | with_reducible intro b | refine xsA rfl ?_ | fail); try refine nx ?_)
    | (refine xw ?_; refine nx ?_)
    | exact ⟨⟩
    | fail
  refine Con.callS (G1 := []) (Xi _ hp bo) ?_
  rintro v M2 G2 bE ⟨g2, caps2, rfl, kD⟩
  repeat' first
    | refine EV.block ?_
    | fail
  rename_i lb pb
  obtain ⟨ab, rfl⟩ : ∃ ab, ab = b := ⟨_, rfl⟩
  refine EV.keepS [(ab, Cl 26 [.slice none 0 0])] ?_
  generalize hR : M2.add _ = N
  have aC : M2.le N := hR ▸ Aa.le_add _ _
  have nY : rd N pb 0 1 [.slice pa (Al ts).length pc] := hR ▸ Bv (T := 74) (cs := [.slice pa (Al ts).length pc]) (by simp) rfl (by simp)
  clear hR
  have pZ := bo.mono (Aa.le_trans bE aC)
  have p1 := kD.mono aC
  refine EV.toS (ρ' := [(4, pv pb 0), (6, pv ab 0), (17, .func (.func g2) #[] caps2)]) (G' := [(ab, Cl 26 [.slice none 0 0])]) ?_ ?env1
  case env1 =>
   exact eE
  refine EV.overM rfl rfl rfl p1 (fun d es M G' => ∃ G0, G'.Perm ((d, Obj.deferred (some [])) :: G0) ∧ Ct6 (Al ts) ab (es.map (Aw (Al ts))) M G0)
   (fun d c M G' => False) ?_ ?_ ?_ ?_ ?_ ?_
  ·rintro d es M4 M5 G4 aj ⟨G0, h1, h2⟩
   exact ⟨G0, h1, h2.mono aj⟩
  ·rintro d c M4 M5 G4 aj h
   exact h
  ·intro d
   exact ⟨_, List.Perm.refl _, [], none, rfl, ⟨rfl, rfl⟩, Nat.zero_le _, fun x => by simp, fun x h => nomatch h⟩
  ·intro l d r aW aS es e v M4 G4 w1 F he dZ ⟨G0, dQ, rs, ov, tL, aP, aG, aJ, jQ⟩ fV
   subst tL
   refine EV.permG ?_ (List.Perm.cons _ dQ)
   have hx := execsP_ok hp he
   have gp : IsX M4 v e := fV
   obtain ⟨xf, xd, xo, xn, rfl, ⟨fa, fc, rfl, _⟩, ⟨da, dc, rfl, _⟩, ⟨oa, oc, ovs, rfl, _, _, _⟩, ⟨na, nc, rfl, _⟩⟩ := fV
   repeat' first
     | refine rg ?_
     | (with_reducible intro b; try refine nx ?_)
     | (refine xw ?_; refine nx ?_)
     | exact ⟨⟩
     | fail
   refine EV.frz [(b, Cl 45 [.slice fa e.frm.length fc, .slice da e.dn.length dc, .slice oa e.ord.length oc, .slice na e.fen.length nc])] ?_
   generalize hR : M4.add _ = N4
   have cO : M4.le N4 := hR ▸ Aa.le_add _ _
   have au : rd N4 b 0 4 [.slice fa e.frm.length fc, .slice da e.dn.length dc, .slice oa e.ord.length oc, .slice na e.fen.length nc] := hR ▸ Ap 0 rfl rfl (by simp)
   clear hR
   refine EV.rbegin aW ?_
   refine EV.block (EV.seq ?_)
   have tM := nY.mono (Aa.le_trans dZ cO)
   have tN := pZ.mono (Aa.le_trans dZ cO)
   have ac := fun G => Lb (M := N4.add G) (Al ts) _ (tN.mono (Aa.le_add _ _)) hp e _ (gp.mono (Aa.le_trans cO (Aa.le_add _ _))) hx
   refine EV.any (t := Ey8) [(ab, Cl 26 [osv ov rs.length])] (List.Sublist.cons _ (List.Sublist.cons _ (List.Sublist.cons_cons _ (List.nil_sublist _)))) ?_
   simp only [Ao, As, Am, Au, reduceIte, Nat.reduceEqDiff]
   repeat' first
     | ((first | refine zo (fun lq aB => ?_) | refine zl ?_ | fail); try refine nz ?_)
     | refine zq (fun lq tq aB aE => ?_)
     | ((with_reducible refine Con.callN (ac _) ?_) ;  rintro v1 M1 G1 ⟨o1, rfl, bF, rfl⟩; try refine nz ?_)
     | (refine Sa (by first | with_reducible assumption | rfl) (fun tq aE => ?_) (fun tq aE => ?_) <;> try refine nz ?_)
     | (refine Ec (by first | with_reducible assumption | rfl) (fun tq aE => ?_) (fun tq aE => ?_) <;> try refine nz ?_)
     | exact zn
     | ((first | with_reducible intro b | refine xm ?_ | refine xn ?_ | refine xsA rfl ?_ | refine And.intro (Aa.le_refl _) (And.intro (A8 ?_) ?_); focus ((repeat' first | exact List.Sublist.refl _ | exact List.nil_sublist _ | exact List.sublist_append_left _ _ | refine List.Sublist.cons_cons _ ?_ | refine List.Sublist.append_left ?_ _ | refine List.sublist_append_of_sublist_right ?_ | refine List.Sublist.cons _ ?_); done) | fail); try refine nz ?_)
     | exact ⟨⟩
     | fail
   refine ⟨[osv o1 (Aw (Al ts) e).length], Or.inr ⟨_, 0, rfl, Bv (T := 34) (cs := [osv o1 (Aw (Al ts) e).length]) (by simp) rfl (by simp)⟩, by simp [B2, Ct, Value.oneCell'], Or.inl ⟨ov, _, rfl, _, aP, _, PullL.p, by simp only [maxLen]; omega, by omega, fun o2 bD tO => ?_⟩⟩
   repeat' first
     | (refine zl ?_; try refine nz ?_)
     | refine zq (fun lq tq aB aE => ?_)
     | (refine Ec (by first | with_reducible assumption | rfl) (fun tq aE => ?_) (fun tq aE => ?_) <;> try refine nz ?_)
     | exact zn
     | refine zf ?_
     | (refine xw ?_; try refine nz ?_)
     | exact ⟨⟩
     | fail
   refine EV.keepS ((l, Obj.loop { r with state := .busy }) :: (d, Obj.deferred (some [])) :: (ab, Cl 26 [osv o2 (rs.length + 1)]) :: osg 34 o2 (rs.map Bo.v ++ [osv o1 (Aw (Al ts) e).length])) ?_
   generalize hR : N4.add _ = N5
   have kN : N4.le N5 := hR ▸ Aa.le_add _ _
   have eg : SlC N5 1 ei (osv o1 (Aw (Al ts) e).length) (Aw (Al ts) e) := hR ▸ Hp (T := 3) bF rfl (fun q hq => by simp [hq])
   clear hR
   have bG : (Aw (Al ts) e).length < 1000000 := by
    have h1 := Cm (Al ts) (An (Al ts) e.frm) (Al ts).length
    have h2 := hp.len
    have h3 := hx.ol
    unfold Aw
    rw [List.length_append, List.length_map]; omega
   -- the rows, with the new one
   have p2 := Aa.le_trans cO kN
   obtain ⟨rs5, i7⟩ : ∃ rs5 : List (Bo N5), rs5 = rs.map (Bo.up p2) ++ [⟨(osv o1 (Aw (Al ts) e).length, Aw (Al ts) e), eg, bG⟩] := ⟨_, rfl⟩
   have tP : rs.map Bo.v ++ [osv o1 (Aw (Al ts) e).length] = rs5.map Bo.v := by rw [i7, List.map_append, Bo.up_v]; rfl
   have n7 : rs5.map Bo.xs = rs.map Bo.xs ++ [Aw (Al ts) e] := by rw [i7, List.map_append, Bo.up_xs]; rfl
   have rM : rs5.length = rs.length + 1 := by rw [i7, List.length_append, List.length_map]; rfl
   have p3 : ∀ x, x ∈ rs5.map Bo.xs ↔ x ∈ (es ++ [e]).map (Aw (Al ts)) := by
    intro x
    rw [n7, List.mem_append, aJ, List.map_append, List.mem_append]; rfl
   rw [tP, ← rM] at bD ⊢
   clear eg i7
   have gw : ∀ x, x ∈ (es ++ [e]).map (Aw (Al ts)) → Au3 (Al ts) x := by
    intro x h
    rw [List.map_append, List.mem_append] at h
    rcases h with h | h
    ·exact jQ x h
    ·simp only [List.map_singleton, List.mem_singleton] at h
     exact ⟨e, he, h.symm⟩
   repeat' first
     | refine EV.seq ?_
     | refine EV.skip ?_
     | refine EV.inBlock ?_
     | refine rg ?_
     | (refine cX (fun h => ?_) (fun h => ?_) <;> try exact Ah h)
     | (refine xsA rfl ?_; try refine nx ?_)
     | exact ⟨⟩
     | fail
   ·rcases o2 with _ | ⟨rb, cap, sp⟩
    ·obtain ⟨h0, _⟩ := bD
     omega
    ·obtain ⟨_, aw, _, p4⟩ := bD
     simp only [osg, H4, Fr]
     refine Con.callS (G1 := [(rb, Cl 34 (rs5.map Bo.v ++ sp))]) (J0 rs5 (by omega) (by rw [List.length_append, List.length_map] at aw; omega)) ?_
     rintro v M6 G6 fW ⟨rfl, ys, sp', rfl, rfl, bq, j4, lA⟩
     simp only [List.cons_append, List.nil_append]
     repeat' first
       | refine EV.inBlock ?_
       | (refine xw ?_; refine nx ?_)
       | exact ⟨⟩
       | fail
     have pY : ys.length ≤ 421875 := by
      rw [← List.length_map (f := Bo.xs)]
      refine Ad8 hp (E0 ts) (Au2 aY) ?_ fun x hx => gw x ((p3 x).1 ((lA x).1 hx))
      rw [List.nodup_iff_pairwise_ne, List.pairwise_map]
      exact j4.imp fun {a b} h e => by rw [e, Ef] at h; omega
     refine EV.reS (G' := (l, Obj.loop { r with state := .busy }) :: (d, Obj.deferred (some [])) :: (ab, Cl 26 [.slice (some ⟨rb, 0, none⟩) ys.length cap]) :: [(rb, Cl 34 (ys.map Bo.v ++ sp'))]) ?_
     refine EV.rend aW aS (List.Perm.refl _) ⟨_, List.Perm.refl _, ys, some (rb, cap, sp'), rfl, ?_, pY, fun x => (lA x).trans (p3 x), gw⟩
     refine ⟨by rw [List.length_map]; omega, by rw [List.length_append, List.length_map]; omega, by omega, p4⟩
   ·refine EV.rend aW aS (List.Perm.refl _) ⟨_, List.Perm.refl _, rs5, o2, rfl, bD, by omega, p3, gw⟩
  ·rintro d M4 G4 dZ ⟨G0, dQ, rs, ov, rfl, aP, aG, aJ, jQ⟩
   refine EV.permG ?_ dQ
   repeat' first
     | refine EV.seq ?_
     | refine EV.inBlock ?_
     | refine rg ?_
     | (refine xsA rfl ?_; try refine nx ?_)
     | exact ⟨⟩
     | fail
   have bO : ∀ (ys : List (Bo M4)) (N : Aa), M4.le N → ∀ (s' : Value), (∃ a c, s' = .slice a ys.length c ∧ rdS N 1 a ys.length (ys.map Bo.v)) → ys.Pairwise (fun x y => Fh x.xs y.xs < 0) → (∀ x, x ∈ ys.map Bo.xs ↔ x ∈ rs.map Bo.xs) →
     ∃ outs, Ab2 (Al ts) outs ∧ C7 N 1 ei s' outs := by
    rintro ys N hN s' ⟨a, c, rfl, aH⟩ gd nN
    refine ⟨ys.map Bo.xs, ⟨?_, fun x => (nN x).trans (aJ x)⟩, a, c, ys.map Bo.v, by rw [List.length_map], by simp, by rw [List.length_map]; exact aH, fun i h1 h2 => ?_⟩
    ·rw [List.pairwise_map]; exact gd
    ·simp only [List.getElem_map]
     exact (ys[i]'(by simpa using h1)).2.1.mono hN
   rcases ov with _ | ⟨rb, cap, sp⟩
   ·obtain ⟨h0, aQ⟩ := aP
    have oh : rs = [] := List.length_eq_zero_iff.1 h0
    subst oh
    refine Con.callS (G1 := []) Lx ?_
    rintro v M6 G6 fW ⟨rfl, rfl⟩
    repeat' first
      | fail
    obtain ⟨outs, bF, bD⟩ := bO [] M6 fW (.slice none 0 0) ⟨none, 0, rfl, .inl ⟨rfl, rfl⟩⟩ List.Pairwise.nil (fun x => Iff.rfl)
    refine EV.retM Q3_ok (ms := [d]) (G1 := [(ab, Cl 26 [.slice none 0 0])]) (List.Perm.refl _) ?_
    (repeat first | refine nx ?_ | simp only [Q3])
    exact .inr ⟨aY, _, rfl, outs, bF, bD⟩
   ·obtain ⟨_, aw, _, _⟩ := aP
    simp only [osg, H4, Fr]
    refine Con.callS (G1 := [(rb, Cl 34 (rs.map Bo.v ++ sp))]) (J0 rs (by omega) (by rw [List.length_append, List.length_map] at aw; omega)) ?_
    rintro v M6 G6 fW ⟨rfl, ys, sp', rfl, rfl, bq, j4, lA⟩
    repeat' first
      | fail
    refine EV.keepS [(d, Obj.deferred (some [])), (ab, Cl 26 [osv (some (rb, cap, sp)) rs.length])] ?_
    generalize hR : M6.add _ = N5
    have kN : M6.le N5 := hR ▸ Aa.le_add _ _
    obtain ⟨outs, bF, bD⟩ := bO ys N5 kN (.slice (some ⟨rb, 0, none⟩) ys.length cap) ⟨_, _, rfl, hR ▸ .inr ⟨rb, 0, rfl, Bv (T := 34) (cs := ys.map Bo.v ++ sp') (by simp) (by rw [List.drop_zero, Nat.mul_one, List.take_left' (by rw [List.length_map])]) (by simp)⟩⟩ j4 lA
    clear hR
    refine EV.retM Q3_ok (ms := [d]) (G1 := [(ab, Cl 26 [osv (some (rb, cap, sp)) rs.length])]) (List.Perm.refl _) ?_
    (repeat first | refine nx ?_ | simp only [Q3])
    exact .inr ⟨aY, _, rfl, outs, bF, bD⟩
  ·intro d c M4 G4 dZ h
   exact h.elim
end
end Go.EV

namespace Go.EV
open Go.Proofs
section
variable {M : Aa}
set_option maxHeartbeats 4000000 in
theorem Sy (xs ys : List Int) (v w : Value) (hv : Sl M 1 ei v xs) (hw : Sl M 1 ei w ys) (hx : xs.length ≤ 281474976710656) (hy : ys.length ≤ 281474976710656) :
  Aq Tryz.prog 20 #[v, w] M (vb (decide (xs = ys))) := by
 obtain ⟨a, c, rfl, hr⟩ := hv
 obtain ⟨a2, c2, rfl, aS⟩ := hw
 refine Con.enter Q62_ok (args := [.slice a xs.length c, .slice a2 ys.length c2]) (by simp [Q62]) fun w0 => ?_
 simp only [Q62, A5]
 repeat' first
   | refine EV.seq ?_
   | refine EV.skip ?_
   | refine EV.block ?_
   | refine rg ?_
   | (refine cX (fun h => ?_) (fun h => ?_) <;> try exact Ah h)
   | exact ⟨⟩
   | fail
 ·have hne : decide (xs = ys) = false := decide_eq_false fun e => h (by rw [e])
  (refine rt Q62_ok ?_; try with_reducible exact ⟨⟩)
  rw [hne]
 ·have hl : xs.length = ys.length := by omega
  refine EV.loopTo (fun i : Nat => ([(0, .slice a xs.length c), (1, .slice a2 ys.length c2), (5, vi i)], M, [])) (fun i => i ≤ xs.length ∧ xs.take i = ys.take i) (fun i => xs.length - i) 0 rfl ⟨Nat.zero_le _, rfl⟩ ?env1 (List.Sublist.refl _) ?_
  case env1 =>
   exact eE
  rintro i ⟨hi, he⟩ ih
  dsimp only at hi he ih ⊢
  repeat' first
    | refine EV.seq ?_
    | refine EV.skip ?_
    | refine EV.block ?_
    | refine rg ?_
    | (refine cX (fun h => ?_) (fun h => ?_) <;> try exact Ah h)
    | (refine EV.exit rfl ?_)
    | exact ⟨⟩
    | fail
  ·have aA : i < xs.length := by omega
   have bk : i < ys.length := by omega
   obtain ⟨b, o, rfl, hat⟩ := Sl.at (sz := 1) (enc := ei) (fun _ => rfl) (by decide) hr (by omega)
   obtain ⟨b2, o2, rfl, aL⟩ := Sl.at (sz := 1) (enc := ei) (fun _ => rfl) (by decide) aS (by omega)
   have q1 := hat i aA
   have q2 := aL i bk
   simp only [Nat.mul_one] at q1 q2
   repeat' first
     | refine EV.seq ?_
     | refine EV.skip ?_
     | refine EV.inBlock ?_
     | ((first | refine EV.reg ?_ | refine EV.any _ (List.Sublist.refl _) ?_ | fail); (conv => (arg 2; whnf)); refine nx ?_)
     | (refine cX (fun h => ?_) (fun h => ?_) <;> try exact Ah h)
     | (refine And.intro (by omega) ?_)
     | (refine xm ?_; try refine nx ?_)
     | exact ⟨⟩
     | fail
   ·have hne : decide (xs = ys) = false := decide_eq_false fun e => by subst e; exact h rfl
    (refine rt Q62_ok ?_; try with_reducible exact ⟨⟩)
    rw [hne]
   ·have dq : xs[i] = ys[i] := by simpa using h
    refine EV.to (ih (i + 1) ⟨by omega, by rw [List.take_succ_eq_append_getElem aA, List.take_succ_eq_append_getElem bk, he, dq]⟩ (by omega)) ?_ (List.Sublist.refl _)
    exact eE
  ·have bM : i = xs.length := by omega
   subst bM
   have kz : decide (xs = ys) = true := decide_eq_true (by rwa [List.take_length, hl, List.take_length] at he)
   (refine rt Q62_ok ?_; try with_reducible exact ⟨⟩)
   rw [kz]
theorem Zp : Con Tryz.prog 32 #[] M [] fun v M' _ => ∃ s, v = .agg #[s] ∧ Em M' 5 Bc s Jz := by
 refine Con.enter Q61_ok (args := []) (by simp [Q61]) fun w0 => ?_
 simp only [Q61, A5]
 repeat' first
   | refine EV.seq ?_
   | refine rg ?_
   | (with_reducible intro b; try refine nx ?_)
   | (refine xw ?_; refine nx ?_)
   | exact ⟨⟩
   | fail
 rename_i r0 b3 b6
 refine EV.keepS [(r0, Cl 24 [.slice (some ⟨b, 0, none⟩) 2 2])] ?_
 generalize hR : M.add _ = N
 have aC : M.le N := hR ▸ Aa.le_add _ _
 have k7 : rd N b 0 2 [.slice (some ⟨b3, 0, none⟩) 2 2, .slice (some ⟨b6, 0, none⟩) 2 2] := hR ▸ Ap 0 rfl rfl (by simp)
 have k6 : rd N b6 0 10 (Bc ⟨1, 1, 1, 0, 0⟩ ++ Bc ⟨0, 0, 0, 0, 0⟩) := hR ▸ Ap 1 rfl rfl (by simp)
 have k3 : rd N b3 0 10 (Bc ⟨1, 0, 1, 0, 0⟩ ++ Bc ⟨0, 1, 0, 0, 0⟩) := hR ▸ Ap 2 rfl rfl (by simp)
 (refine rt Q61_ok ?_; try with_reducible exact ⟨⟩)
 refine ⟨_, Ap 0 rfl rfl (by simp), _, rfl, some ⟨b, 0, none⟩, 2, _, rfl, rfl, .inr ⟨b, 0, rfl, k7⟩, fun i h1 h2 => ?_⟩
 have hi : i = 0 ∨ i = 1 := by simp [Jz] at h2; omega
 rcases hi with rfl | rfl
 ·exact ⟨some ⟨b3, 0, none⟩, 2, rfl, .inr ⟨b3, 0, rfl, k3⟩⟩
 ·exact ⟨some ⟨b6, 0, none⟩, 2, rfl, .inr ⟨b6, 0, rfl, k6⟩⟩
set_option maxHeartbeats 4000000 in
theorem Au8 : Con Tryz.prog 10 #[] M [] fun v _ _ => v = vb true := by
 refine Con.enter Q60_ok (args := []) (by simp [Q60]) fun w0 => ?_
 simp only [Q60, A5]
 repeat' first
   | refine EV.seq ?_
   | refine rg ?_
   | exact ⟨⟩
   | fail
 refine Con.callS (G1 := []) Zp ?_
 rintro v M1 G1 ap ⟨s, rfl, hs⟩
 repeat' first
   | fail
 refine Con.callS (G1 := []) (Rm Jz s hs ⟨by decide, by decide⟩) ?_
 rintro v M2 G2 bE (⟨hne, _⟩ | ⟨_, s', outs, rfl, ho, aV⟩)
 ·exact absurd buffers_ok hne
 have he := ho.eq
 rw [Ss] at he
 subst he
 obtain ⟨a, c, vs, rfl, hl, aH, hk⟩ := aV.sl
 obtain ⟨ob, oo, rfl, hat⟩ := Em.at aH hl hk (by decide)
 obtain ⟨a0, c0, aW, aS⟩ := hat 0 (by decide)
 have hq : ∀ (b : Nat) (G : Own), Aq Tryz.prog 20 #[.slice a0 5 c0, .slice (some ⟨b, 0, none⟩) 5 5] (M2.add ((b, Cl 3 [vi 0, vi 0, vi 1, vi 1, vi 0]) :: G)) (vb true) := fun b G =>
  Sy [0, 0, 1, 1, 0] [0, 0, 1, 1, 0] _ _ ⟨a0, c0, rfl, aS.mono (Aa.le_add _ _)⟩ ⟨_, _, rfl, .inr ⟨b, 0, rfl, Ap 0 rfl rfl (by simp)⟩⟩ (by decide) (by decide)
 simp only [Nat.mul_one, Nat.zero_mul, Nat.add_zero, List.getElem_cons_zero, List.length_cons, List.length_nil, Nat.zero_add, Nat.reduceAdd] at aW aS
 repeat' first
   | refine EV.seq ?_
   | refine rg ?_
   | (refine Aq.call (hq _ _) ?_; try refine nx ?_)
   | (refine A0.intro (fun hc => ?_) (fun hc => ?_) <;> try simp only [ne_eq, Bool.not_true, Bool.not_false, not_true_eq_false, not_false_eq_true, reduceCtorEq] at hc <;> try (exfalso; first | exact hc | omega | (simp at hc; done)))
   | (with_reducible intro b; try refine nx ?_)
   | (refine And.intro (by omega) ?_)
   | (refine xn ?_; try refine nx ?_)
   | exact ⟨⟩
   | fail
 (refine rt Q60_ok ?_; try with_reducible exact ⟨⟩)
 rfl
end
end Go.EV

namespace Go.EV
open Go.Proofs
section
variable {M : Aa}
theorem Zq (k o : Int) : Aq Tryz.prog 90 #[vi k, vi o] M (vb (T4 k o && Ah6 k o)) := by
 refine Con.enter Q70_ok (args := [vi k, vi o]) (by simp [Q70]) fun w0 => ?_
 simp only [Q70, A5]
 repeat' first
   | refine EV.seq ?_
   | refine EV.skip ?_
   | refine rg ?_
   | with_reducible assumption
   | (refine A0.merge ?_ (fun hc K' hK => ?_) ?_; rotate_left)
   | (refine cX (fun h => ?_) (fun h => ?_) <;> try exact Ah h)
   | refine rt Q70_ok ?_
   | exact ⟨⟩
   | fail
 all_goals (simp only [vb, Value.bool.injEq, T4, Ah6, Bs]; rw [Bool.eq_iff_iff]; (repeat' split) <;> simp <;> omega)
theorem Oy (o : OpV) : Aq Tryz.prog 38 #[vop o] M (vb (Bj o)) := by
 refine Con.enter Q68_ok (args := [vop o]) (by simp [Q68]) fun w0 => ?_
 simp only [Q68, A5]
 repeat' first
   | refine EV.seq ?_
   | refine rg ?_
   | with_reducible assumption
   | (refine A0.merge ?_ (fun hc K' hK => ?_) ?_; rotate_left)
   | refine rt Q68_ok ?_
   | ((first | with_reducible intro b | refine xiA rfl ?_ | fail); try refine nx ?_)
   | exact ⟨⟩
   | fail
 all_goals (simp only [vb, Value.bool.injEq, Bj]; grind)
theorem Xn (o : OpV) : Aq Tryz.prog 37 #[vop o] M (vb (Lt o)) := by
 refine Con.enter Q69_ok (args := [vop o]) (by simp [Q69]) fun w0 => ?_
 simp only [Q69, A5]
 repeat' first
   | refine EV.seq ?_
   | refine EV.skip ?_
   | refine rg ?_
   | (refine Aq.call (Zq _ _) ?_; try refine nx ?_)
   | with_reducible assumption
   | (refine A0.merge ?_ (fun hc K' hK => ?_) ?_; rotate_left)
   | (refine cX (fun h => ?_) (fun h => ?_) <;> try exact Ah h)
   | refine rt Q69_ok ?_
   | ((first | with_reducible intro b | refine xiA rfl ?_ | fail); try refine nx ?_)
   | exact ⟨⟩
   | fail
 all_goals (simp only [vb, Value.bool.injEq, Lt, W5, Pe]; try simp_all; try omega)
 ·intro h1 h2 h3 h4
  exfalso
  simp only [h1, h2, reduceCtorEq, or_self, false_or] at h
  omega
 ·have hk : 0 ≤ o.kind ∧ o.kind < 6 := by
   have h1 : T4 o.kind o.ord = true := by simp_all
   simp only [T4, Bool.and_eq_true, decide_eq_true_eq] at h1
   exact h1.1
  have : (decide (o.kind = 3) || decide (o.kind = 4)) = true := by
   rw [Bool.or_eq_true, decide_eq_true_eq, decide_eq_true_eq]; omega
  rw [this]
  simp [Bool.and_assoc]
theorem U2 (o : OpV) : Aq Tryz.prog 128 #[vop o] M (vi (Iq o.kind o.ord)) := by
 refine Con.enter Q71_ok (args := [vop o]) (by simp [Q71]) fun w0 => ?_
 simp only [Q71, A5]
 repeat' first
   | refine EV.seq ?_
   | refine EV.skip ?_
   | refine rg ?_
   | (refine cX (fun h => ?_) (fun h => ?_) <;> try exact Ah h)
   | refine rt Q71_ok ?_
   | ((first | with_reducible intro b | refine xiA rfl ?_ | fail); try refine nx ?_)
   | exact ⟨⟩
   | fail
 all_goals (simp only [Iq, vi, Value.int.injEq, true_and]; grind)
end
end Go.EV

namespace Go.EV
open Go.Proofs
section
variable {M : Aa}
theorem EV.loop2 {P : Program} {C : Cx P} {V : List Nat} {k : List RItem} {ρ : Env} {M : Aa} {G : Own} {c : RCode} (h : EV C V (.code c :: .inLoop c :: k) ρ M G) : EV C V (.code (.loop c) :: k) ρ M G :=
 EV.loop (fun _ : Unit => (ρ, M, G)) (fun _ => True) (fun _ => 0) () trivial (fun _ _ _ => h)
theorem wr1 : IntKind.i64.wrap (0 + 1) = 1 := rfl
theorem wr2 : IntKind.i64.wrap (1 + 1) = 2 := rfl
theorem wr3 : IntKind.i64.wrap (2 + 1) = 3 := rfl
def Ah9 (ts : List (List OpV)) (l : List OpV) : Bool := decide (0 < ts.length) && l.all Lt
theorem Sz (ts : List (List OpV)) : A7 ts = if ts.length > 3 ∨ (Bb ts.flatten).acc > 6 ∨ (Bb ts.flatten).fen > 8 then 2 else if (Bb ts.flatten).w0 > 4 ∨ (Bb ts.flatten).w1 > 4 ∨ (Bb ts.flatten).w2 > 4 then 2 else if Ah9 ts ts.flatten = true then 0 else 1 := by
 unfold A7 Fk Ah9
 by_cases h1 : ts.length ≤ 3 <;> by_cases h2 : (Bb ts.flatten).acc ≤ 6 <;> by_cases h3 : (Bb ts.flatten).fen ≤ 8 <;> by_cases h4 : (Bb ts.flatten).w0 ≤ 4 <;> by_cases h5 : (Bb ts.flatten).w1 ≤ 4 <;> by_cases h6 : (Bb ts.flatten).w2 ≤ 4 <;> simp [h1, h2, h3, h4, h5, h6, Int.not_le.symm] <;> grind
def E1 (s : LimS) (o : OpV) : LimS :=
 if o.kind = 5 then { s with fen := IntKind.i64.wrap (s.fen + 1) }
 else if Bj o = true then
  {acc := IntKind.i64.wrap (s.acc + 1), fen := if o.ord = 4 then IntKind.i64.wrap (s.fen + 2) else s.fen,
   w0 := if o.kind ≠ 0 ∧ o.loc = 0 then IntKind.i64.wrap (s.w0 + 1) else s.w0, w1 := if o.kind ≠ 0 ∧ o.loc = 1 then IntKind.i64.wrap (s.w1 + 1) else s.w1, w2 := if o.kind ≠ 0 ∧ o.loc = 2 then IntKind.i64.wrap (s.w2 + 1) else s.w2 }
 else s
def U3 (l : List OpV) : LimS := l.foldl E1 ⟨0, 0, 0, 0, 0⟩
theorem Zr {l : List OpV} (h : l.length < 1000000000000000000) : U3 l = Bb l := by
 have key : ∀ n, n ≤ l.length → U3 (l.take n) = Bb (l.take n) := by
  intro n
  induction n with
  | zero => intro _; rfl
  | succ n ih =>
   intro hn
   have h1 := ih (by omega)
   have h2 := R8 (l.take n)
   have h3 : (l.take n).length ≤ n := by simp; omega
   rw [List.take_succ_eq_append_getElem (by omega)]
   simp only [U3, Bb, List.foldl_append, List.foldl_cons, List.foldl_nil] at h1 h2 ⊢
   rw [h1]
   generalize (l.take n).foldl Ak ⟨0, 0, 0, 0, 0⟩ = s at *
   unfold E1 Ak
   rw [w64 (x := s.fen + 1) (by omega) (by omega), w64 (x := s.acc + 1) (by omega) (by omega), w64 (x := s.fen + 2) (by omega) (by omega), w64 (x := s.w0 + 1) (by omega) (by omega), w64 (x := s.w1 + 1) (by omega) (by omega), w64 (x := s.w2 + 1) (by omega) (by omega)]
 have := key l.length (Nat.le_refl _)
 rwa [List.take_length] at this
set_option maxRecDepth 8000 in
set_option maxHeartbeats 8000000 in
theorem Gu (ts : List (List OpV)) (s : Value) (hs : Em M 5 Bc s ts) (mW : Sized ts) : Aq Tryz.prog 13 #[.agg #[s]] M (vi (A7 ts)) := by
 obtain ⟨a, c, vs, rfl, hl, aH, hk⟩ := hs
 have fB := mW.len
 refine Con.enter Q66_ok (args := [.agg #[.slice a ts.length c]]) (by simp [Q66]) fun w0 => ?_
 simp only [Q66, A5]
 repeat' first
   | refine EV.seq ?_
   | refine EV.block ?_
   | refine rg ?_
   | (with_reducible intro b; try refine nx ?_)
   | (refine And.intro (by omega) ?_)
   | (refine xsA rfl ?_; try refine nx ?_)
   | exact ⟨⟩
   | fail
 rename_i b1
 refine EV.permG ?_ (List.Perm.swap _ _ _)
 refine EV.freeze (G₁ := [_]) ?_
 generalize hN : M.add [(b1, Cl 24 [.slice a ts.length c])] = N
 have aC : M.le N := hN ▸ Aa.le_add _ _
 have iT : rd N b1 0 1 [.slice a ts.length c] := hN ▸ Ap 0 rfl rfl (by simp)
 clear hN
 refine EV.to (ρ' := [(1, pv b1 0), (3, vi (U3 (ts.take 0).flatten).acc), (4, vi (U3 (ts.take 0).flatten).fen), (5, Bg b 3 3), (6, vb (Ah9 ts (ts.take 0).flatten)), (7, vi (0 : Nat))])
  (G' := [(b, Cl 3 [vi (U3 (ts.take 0).flatten).w0, vi (U3 (ts.take 0).flatten).w1, vi (U3 (ts.take 0).flatten).w2])]) ?_ ?env0 (List.Sublist.refl _)
 case env0 =>
  repeat' first
   | (refine List.forall_mem_cons.2 (And.intro ?_ ?_))
   | (intro _ b8; cases b8; done)
   | rfl
   | fail
  simp [get, Ah9]
 refine EV.loop (fun i : Nat => ([(1, pv b1 0), (3, vi (U3 (ts.take i).flatten).acc), (4, vi (U3 (ts.take i).flatten).fen), (5, Bg b 3 3), (6, vb (Ah9 ts (ts.take i).flatten)), (7, vi i)], N,
  [(b, Cl 3 [vi (U3 (ts.take i).flatten).w0, vi (U3 (ts.take i).flatten).w1, vi (U3 (ts.take i).flatten).w2])])) (fun i => i ≤ ts.length) (fun i => ts.length - i) 0 (Nat.zero_le _) ?_
 intro i hi ih
 dsimp only at ih ⊢
 repeat' first
   | refine EV.seq ?_
   | refine EV.skip ?_
   | refine EV.block ?_
   | refine rg ?_
   | with_reducible assumption
   | (refine A0.merge ?_ (fun hc K' hK => ?_) ?_; rotate_left)
   | (refine cX (fun h => ?_) (fun h => ?_) <;> try exact Ah h)
   | (refine EV.exit rfl ?_)
   | (refine xn ?_; try refine nx ?_)
   | exact ⟨⟩
   | fail
 ·have aA : i < ts.length := by omega
  obtain ⟨pb, po, rfl, hat⟩ := Em.at (aH.mono aC) hl (fun k h h' => (hk k h h').mono aC) (by omega)
  obtain ⟨a', c', aW, aS⟩ := hat i aA
  simp only [Nat.mul_one] at aW
  have aG := mW.each _ (List.getElem_mem aA)
  let W : Nat → LimS := fun j => U3 ((ts.take i).flatten ++ ts[i].take j)
  let U : Nat → Bool := fun j => Ah9 ts ((ts.take i).flatten ++ ts[i].take j)
  refine EV.to (ρ' := [(1, pv b1 0), (3, vi (W 0).acc), (4, vi (W 0).fen), (5, Bg b 3 3), (6, vb (U 0)), (7, vi i), (8, vi (0 : Nat))])
   (G' := [(b, Cl 3 [vi (W 0).w0, vi (W 0).w1, vi (W 0).w2])]) ?_ (by simp [get, W, U]) (by simp [W])
  refine EV.loop (fun j : Nat => ([(1, pv b1 0), (3, vi (W j).acc), (4, vi (W j).fen), (5, Bg b 3 3), (6, vb (U j)), (7, vi i), (8, vi j)], N,
   [(b, Cl 3 [vi (W j).w0, vi (W j).w1, vi (W j).w2])])) (fun j => j ≤ ts[i].length) (fun j => ts[i].length - j) 0 (Nat.zero_le _) ?_
  intro j hj ih2
  dsimp only at ih2 ⊢
  repeat' first
    | refine EV.seq ?_
    | refine EV.skip ?_
    | refine EV.block ?_
    | refine EV.inBlock ?_
    | refine rg ?_
    | (refine cX (fun h => ?_) (fun h => ?_) <;> try exact Ah h)
    | (refine EV.exit rfl ?_)
    | (refine And.intro (by omega) ?_)
    | (refine xn ?_; try refine nx ?_)
    | exact ⟨⟩
    | fail
  ·have aM : j < ts[i].length := by omega
   obtain ⟨qb, qo, rfl, aL⟩ := Sl.at (enc := Bc) (fun _ => rfl) (by omega) aS (by omega)
   have cu := aL j aM
   have hW : W (j + 1) = E1 (W j) ts[i][j] := by
    simp only [W, U3, List.take_succ_eq_append_getElem aM, ← List.append_assoc, List.foldl_append, List.foldl_cons, List.foldl_nil]
   have hU : U (j + 1) = (U j && Lt ts[i][j]) := by
    simp only [U, Ah9, List.take_succ_eq_append_getElem aM, ← List.append_assoc, List.all_append, List.all_cons, List.all_nil, Bool.and_true, Bool.and_assoc]
   have fin : ∀ ρ G', (∀ p ∈ [(1, pv b1 0), (3, vi (W (j + 1)).acc), (4, vi (W (j + 1)).fen), (5, Bg b 3 3), (6, vb (U (j + 1))), (7, vi i), (8, vi (j + 1 : Nat))], get ρ p.1 = some p.2) →
     [(b, Cl 3 [vi (W (j + 1)).w0, vi (W (j + 1)).w1, vi (W (j + 1)).w2])].Sublist G' → _ := fun ρ G' h1 h2 => EV.to (ρ := ρ) (G := G') (ih2 (j + 1) (by omega) (by omega)) h1 h2
   rw [hW, hU] at fin
   clear_value W U
   have e7 : IntKind.i64.wrap ((j : Int) + 1) = ((j + 1 : Nat) : Int) := w64 (by omega) (by omega)
   clear ih ih2 hat aL aH hk aG hW hU mW fB hl
   generalize W j = s at *
   generalize U j = u at *
   generalize ts[i][j] = o at *
   clear W U
   have p5 : o.kind = 5 → Bj o = false := fun h => by simp [Bj, h]
   have aK : Bj o = true → ((¬0 < o.kind ∨ ¬0 ≤ o.loc) ∨ ¬o.loc < 3) → E1 s o = { s with acc := IntKind.i64.wrap (s.acc + 1), fen := if o.ord = 4 then IntKind.i64.wrap (s.fen + 2) else s.fen } := fun h1 h2 => by
    have h5 : ¬ o.kind = 5 := fun h => by rw [p5 h] at h1; cases h1
    have h3 : 0 ≤ o.kind := by simp only [Bj, Bool.and_eq_true, decide_eq_true_eq] at h1; omega
    have w0' : ¬ (o.kind ≠ 0 ∧ o.loc = 0) := by omega
    have w1' : ¬ (o.kind ≠ 0 ∧ o.loc = 1) := by omega
    have w2' : ¬ (o.kind ≠ 0 ∧ o.loc = 2) := by omega
    simp only [E1, if_neg h5, if_pos h1, if_neg w0', if_neg w1', if_neg w2']
   repeat' first
     | refine EV.seq ?_
     | refine EV.skip ?_
     | refine EV.inBlock ?_
     | ((first | refine EV.reg ?_ | refine EV.any _ (List.Sublist.refl _) ?_ | fail); (conv => (arg 2; whnf)); refine nx ?_)
     | ((first | refine Aq.call (Xn _) ?_ | refine Aq.call (Oy _) ?_ | fail); try refine nx ?_)
     | with_reducible assumption
     | (refine A0.merge ?_ (fun hc K' hK => ?_) ?_; rotate_left)
     | (refine cX (fun h => ?_) (fun h => ?_) <;> try exact Ah h)
     | (refine EV.exit rfl ?_)
     | (with_reducible intro b; try refine nx ?_)
     | (refine And.intro (by omega) ?_)
     | ((first | refine xm ?_ | refine xrA rfl ?_ | refine xiA rfl ?_ | fail); try refine nx ?_)
     | (refine xw ?_; refine nx ?_)
     | exact ⟨⟩
     | fail
   all_goals try (exfalso; simp_all; done)
   all_goals try (rw [aK (by assumption) (by assumption)] at fin)
   all_goals try refine fin _ _ ?_ ?_
   all_goals first
    | (simp [get, E1, *]; done)
    | (simp [get, E1, *]; grind)
    | skip
   all_goals
    have bX : o.loc = 0 ∨ o.loc = 1 ∨ o.loc = 2 := by omega
    have je : ¬ o.kind = 0 := by omega
    rcases bX with bX | bX | bX <;> rw [bX] <;> simp only [Int.reduceToNat, Int.toNat_zero, Int.reduceLE, Int.reduceLT, true_and]
   all_goals repeat' first
     | refine EV.inBlock ?_
     | refine rg ?_
     | (refine xiA rfl ?_; try refine nx ?_)
     | (refine xw ?_; refine nx ?_)
     | exact ⟨⟩
     | fail
   all_goals try refine fin _ _ ?_ ?_
   all_goals first
    | (simp [get, E1, *]; done)
    | (simp [get, E1, *]; grind)
    | skip
  ·have aM : j = ts[i].length := by omega
   subst aM
   have hf : (ts.take i).flatten ++ ts[i].take ts[i].length = (ts.take (i + 1)).flatten := by rw [Dl aA, List.take_length]
   refine EV.to (ih (i + 1) (by omega) (by omega)) ?_ ?_
   ·clear ih ih2
    rw [← hf]
    simp [get, W, U]
    exact w64 (by omega) (by omega)
   ·rw [← hf]
    exact List.Sublist.refl _
 ·have ga : i = ts.length := by omega
  subst ga
  simp only [List.take_length] at h
  have hpos : ts.length > 3 ∨ (Bb ts.flatten).acc > 6 ∨ (Bb ts.flatten).fen > 8 := by
   by_cases h3 : ts.length > 3
   ·exact .inl h3
   ·rw [Zr (by have := Qm mW.each; omega)] at h
    omega
  rw [Sz, if_pos hpos]
  repeat' first
    | refine rt Q66_ok ?_
    | exact ⟨⟩
    | fail
 ·have ga : i = ts.length := by omega
  subst ga
  simp only [List.take_length] at h
  have jR := Sz ts
  have fk := Zr (l := ts.flatten) (by have := Qm mW.each; omega)
  rw [fk] at h
  rw [if_neg (by omega)] at jR
  rw [jR, List.take_length, fk]
  refine EV.to (ρ' := [(5, Bg b 3 3), (6, vb (Ah9 ts ts.flatten)), (10, vi (0 : Nat))]) (G' := [(b, Cl 3 [vi (Bb ts.flatten).w0, vi (Bb ts.flatten).w1, vi (Bb ts.flatten).w2])]) ?_ ?env2 (List.Sublist.refl _)
  case env2 =>
   exact eE
  generalize Bb ts.flatten = s at *
  refine EV.loop2 ?_
  repeat' first
    | refine EV.seq ?_
    | refine EV.skip ?_
    | refine EV.block ?_
    | refine EV.inBlock ?_
    | (refine EV.reg ?_; (conv => (arg 2; whnf)); (repeat first | refine nx ?_ | simp only [wr1, wr2, wr3]))
    | (refine cX (fun h => ?_) (fun h => ?_) <;> try exact Ah h)
    | (refine And.intro (by omega) ?_)
    | (refine xiA rfl ?_; (repeat first | refine nx ?_ | simp only [wr1, wr2, wr3]))
    | fail
  ·rw [if_pos (by omega)]
   repeat' first
     | (refine EV.ret Q66_ok ?_; (repeat first | refine nx ?_ | simp only [wr1, wr2, wr3, Q66]))
     | fail
  refine EV.inLoop ?_
  repeat' first
    | refine EV.seq ?_
    | refine EV.skip ?_
    | refine EV.block ?_
    | refine EV.inBlock ?_
    | (refine EV.reg ?_; (conv => (arg 2; whnf)); (repeat first | refine nx ?_ | simp only [wr1, wr2, wr3]))
    | (refine cX (fun h => ?_) (fun h => ?_) <;> try exact Ah h)
    | (refine And.intro (by omega) ?_)
    | (refine xiA rfl ?_; (repeat first | refine nx ?_ | simp only [wr1, wr2, wr3]))
    | fail
  ·rw [if_pos (by omega)]
   repeat' first
     | (refine EV.ret Q66_ok ?_; (repeat first | refine nx ?_ | simp only [wr1, wr2, wr3, Q66]))
     | fail
  refine EV.inLoop ?_
  repeat' first
    | refine EV.seq ?_
    | refine EV.skip ?_
    | refine EV.block ?_
    | refine EV.inBlock ?_
    | (refine EV.reg ?_; (conv => (arg 2; whnf)); (repeat first | refine nx ?_ | simp only [wr1, wr2, wr3]))
    | (refine cX (fun h => ?_) (fun h => ?_) <;> try exact Ah h)
    | (refine And.intro (by omega) ?_)
    | (refine xiA rfl ?_; (repeat first | refine nx ?_ | simp only [wr1, wr2, wr3]))
    | fail
  ·rw [if_pos (by omega)]
   repeat' first
     | (refine EV.ret Q66_ok ?_; (repeat first | refine nx ?_ | simp only [wr1, wr2, wr3, Q66]))
     | fail
  refine EV.inLoop ?_
  rw [if_neg (by omega)]
  repeat' first
    | refine EV.seq ?_
    | refine EV.skip ?_
    | (refine EV.reg ?_; (conv => (arg 2; whnf)); (repeat first | refine nx ?_ | simp only [wr1, wr2, wr3]))
    | (refine cX (fun h => ?_) (fun h => ?_) <;> try exact Ah h)
    | (refine EV.exit rfl ?_)
    | (refine EV.ret Q66_ok ?_; (repeat first | refine nx ?_ | simp only [wr1, wr2, wr3, Q66]))
    | fail
  all_goals simp_all
end
end Go.EV

namespace Go.EV
open Go.Proofs
theorem Zs {l : List OpV} {j : Nat} (hj : j < l.length) : Ds (l.take (j + 1)) = Ds (l.take j) ++ Cf l[j] := by
 rw [List.take_succ_eq_append_getElem hj]; simp only [Ds, List.flatMap_append, List.flatMap_cons, List.flatMap_nil, List.append_nil]
theorem Wj (l : List OpV) : (Ds l).length ≤ 3 * l.length := by
 induction l with
 | nil => simp [Ds]
 | cons o l ih => have := Jo o; simp only [Ds, List.flatMap_cons, List.length_append, List.length_cons] at ih ⊢; omega
section
variable {M : Aa}
set_option maxRecDepth 8000 in
set_option maxHeartbeats 8000000 in
theorem S0 (ts : List (List OpV)) (s : Value) (hs : Em M 5 Bc s ts) (hb : ts.flatten.length < 1000000) (nE : ts.length < 1000000) :
  Con Tryz.prog 91 #[.agg #[s]] M [] fun v M' _ => (A7 ts ≠ 0 ∧ v = .tuple #[.agg #[.slice none 0 0], vi (A7 ts)]) ∨ (A7 ts = 0 ∧ ∃ s', v = .tuple #[.agg #[s'], vi 0] ∧ Em M' 5 Bc s' (ts.map Ds)) := by
 have aI := hs
 have tQ : Sized ts := ⟨by omega, fun t ht => by
  have : t.length ≤ ts.flatten.length := List.Sublist.length_le (List.sublist_flatten_of_mem ht)
  omega⟩
 obtain ⟨a, c, vs, rfl, hl, aH, hk⟩ := hs
 refine Con.enter Q67_ok (args := [.agg #[.slice a ts.length c]]) (by simp [Q67]) fun w0 => ?_
 simp only [Q67, A5]
 repeat' first
   | refine EV.seq ?_
   | refine EV.skip ?_
   | refine EV.block ?_
   | refine rg ?_
   | (refine Aq.call (Gu _ _ (aI.mono (Aa.le_add _ _)) tQ) ?_; try refine nx ?_)
   | (refine cX (fun h => ?_) (fun h => ?_) <;> try exact Ah h)
   | ((first | with_reducible intro b | refine xrA rfl ?_ | fail); try refine nx ?_)
   | (refine xw ?_; refine nx ?_)
   | exact ⟨⟩
   | fail
 ·repeat' first
   | refine rt Q67_ok ?_
   | (refine xrA rfl ?_; try refine nx ?_)
   | exact ⟨⟩
   | fail
  exact .inl h
 ·have aY := h
  repeat' first
    | fail
  rename_i b1 b2 b5
  obtain ⟨_, _, hall⟩ := Cz aY
  refine EV.permG ?_ (Cc [[_], [_], [_], [_]] 3 (by simp))
  simp only [List.eraseIdx_cons_succ, List.eraseIdx_cons_zero, List.getElem_cons_succ, List.getElem_cons_zero, List.insertIdx_zero, List.insertIdx_succ_cons, Dy, Dx, Dw, List.nil_append, List.cons_append, List.append_assoc, List.append_nil]
  refine EV.freeze (G₁ := [_, _]) ?_
  generalize hN : M.add [(b1, Cl 24 [.slice a ts.length c]), (b, Cl 83 [.int .i64 5, .int .i64 0, .int .i64 0, .int .i64 0, .int .i64 4])] = N
  have aC : M.le N := hN ▸ Aa.le_add _ _
  have iT : rd N b1 0 1 [.slice a ts.length c] := hN ▸ Ap 0 rfl rfl (by simp)
  have rW : rd N b 0 5 (Bc Hc) := hN ▸ Ap 1 rfl rfl (by simp)
  clear hN
  replace aH := aH.mono aC
  replace hk := fun k h h' => (hk k h h').mono aC
  clear aI
  refine EV.to (ρ' := [(1, pv b1 0), (2, pv b2 0), (5, pv b5 0), (6, pv b 0), (7, vi (0 : Nat))])
   (G' := [(b5, Cl 24 [osv none 0]), (b2, Cl 24 [.slice none 0 0])] ++ osg 70 none []) ?_ ?env0 eS
  case env0 =>
   exact eE
  refine EV.loop (fun x : Nat × Aa × Vec × List Value => ([(1, pv b1 0), (2, pv b2 0), (5, pv b5 0), (6, pv b 0), (7, vi x.1)], x.2.1,
    [(b5, Cl 24 [osv x.2.2.1 x.1]), (b2, Cl 24 [.slice none 0 0])] ++ osg 70 x.2.2.1 x.2.2.2))
   (fun x => x.1 ≤ ts.length ∧ N.le x.2.1 ∧ E6 1 x.2.2.1 x.1 x.2.2.2 ∧ x.2.2.2.length = x.1 ∧ ∀ k (h : k < x.2.2.2.length) (h' : k < ts.length), Sl x.2.1 5 Bc x.2.2.2[k] (Ds ts[k]))
   (fun x => ts.length - x.1) (0, N, none, []) ⟨Nat.zero_le _, Aa.le_refl _, ⟨rfl, rfl⟩, rfl, fun k h => absurd h (by simp)⟩ ?_
  rintro ⟨i, Mi, oq, vs'⟩ ⟨hi, bN, jf, bt, jg⟩ ih
  dsimp only at hi bN jf bt jg ih ⊢
  replace iT := iT.mono bN
  replace rW := rW.mono bN
  repeat' first
    | refine EV.seq ?_
    | refine EV.skip ?_
    | refine EV.block ?_
    | refine rg ?_
    | (refine cX (fun h => ?_) (fun h => ?_) <;> try exact Ah h)
    | (refine EV.exit rfl ?_)
    | ((first | refine xn ?_ | refine xrA rfl ?_ | fail); try refine nx ?_)
    | (refine xw ?_; refine nx ?_)
    | exact ⟨⟩
    | fail
  ·have aA : i < ts.length := by omega
   obtain ⟨pb, po, rfl, hat⟩ := Em.at (aH.mono bN) hl (fun k h h' => (hk k h h').mono bN) (by omega)
   obtain ⟨a', c', aW, aS⟩ := hat i aA
   simp only [Nat.mul_one] at aW
   have aG : ts[i].length ≤ ts.flatten.length := by have := Dl aA; have h2 := Ce ts (i + 1); rw [this, List.length_append] at h2; omega
   have aJ : ∀ o ∈ ts[i], o ∈ ts.flatten := fun o ho => List.mem_flatten.2 ⟨ts[i], List.getElem_mem aA, ho⟩
   refine EV.to (ρ' := [(1, pv b1 0), (2, pv b2 0), (5, pv b5 0), (6, pv b 0), (7, vi i), (8, osv none (Ds (ts[i].take 0)).length), (9, vi (0 : Nat))])
    (G' := [(b5, Cl 24 [osv oq i]), (b2, Cl 24 [.slice none 0 0])] ++ (osg 70 oq vs' ++ osg 83 none ((Ds (ts[i].take 0)).flatMap Bc))) ?_ ?env1 (by simp only [osg, List.append_nil]; exact List.Sublist.refl _)
   case env1 =>
    exact eE
   refine EV.loop (fun x : Nat × Vec => ([(1, pv b1 0), (2, pv b2 0), (5, pv b5 0), (6, pv b 0), (7, vi i), (8, osv x.2 (Ds (ts[i].take x.1)).length), (9, vi x.1)], Mi,
     [(b5, Cl 24 [osv oq i]), (b2, Cl 24 [.slice none 0 0])] ++ (osg 70 oq vs' ++ osg 83 x.2 ((Ds (ts[i].take x.1)).flatMap Bc))))
    (fun x => x.1 ≤ ts[i].length ∧ E6 5 x.2 (Ds (ts[i].take x.1)).length ((Ds (ts[i].take x.1)).flatMap Bc))
    (fun x => ts[i].length - x.1) (0, none) ⟨Nat.zero_le _, rfl, rfl⟩ ?_
   rintro ⟨j, ov⟩ ⟨hj, aP⟩ ih2
   dsimp only at hj aP ih2 ⊢
   repeat' first
     | refine EV.seq ?_
     | refine EV.skip ?_
     | refine EV.block ?_
     | refine rg ?_
     | (refine cX (fun h => ?_) (fun h => ?_) <;> try exact Ah h)
     | (refine EV.exit rfl ?_)
     | (with_reducible intro b; try refine nx ?_)
     | (refine And.intro (by omega) ?_)
     | ((first | refine xn ?_ | refine xsA rfl ?_ | fail); try refine nx ?_)
     | exact ⟨⟩
     | fail
   ·have aM : j < ts[i].length := by omega
    obtain ⟨qb, qo, rfl, aL⟩ := Sl.at (enc := Bc) (fun _ => rfl) (by omega) aS (by omega)
    have cu := aL j aM
    have ae := List.all_eq_true.1 hall _ (aJ _ (List.getElem_mem aM))
    have gb := Wj (ts[i].take j)
    have lU : (ts[i].take j).length ≤ j := by simp; omega
    have e := Zs aM
    repeat' first
      | refine EV.seq ?_
      | refine EV.skip ?_
      | refine rg ?_
      | with_reducible assumption
      | (refine A0.merge ?_ (fun hc K' hK => ?_) ?_; rotate_left)
      | (refine cX (fun h => ?_) (fun h => ?_) <;> try exact Ah h)
      | (with_reducible intro b; try refine nx ?_)
      | (refine And.intro (by omega) ?_)
      | ((first | refine xm ?_ | refine xrA rfl ?_ | refine xiA rfl ?_ | fail); try refine nx ?_)
      | (refine xw ?_; refine nx ?_)
      | exact ⟨⟩
      | fail
    ·refine ⟨_, Or.inr ⟨_, 0, rfl, Ap 0 rfl rfl (by simp)⟩, by simp [B2, Ct, Value.oneCell'], Or.inl ⟨_, _, rfl, _, aP, _, Cc [[_, _, _, _], osg 70 oq vs', osg 83 ov _] 2 (by simp), ?_, ?_, ?_⟩⟩
     ·simp only [maxLen]; omega
     ·omega
     intro o' bS _
     simp only [List.eraseIdx_cons_succ, List.eraseIdx_cons_zero, List.getElem_cons_succ, List.getElem_cons_zero, Dy, Dx, Dw, List.nil_append, List.cons_append, List.append_assoc, List.append_nil]
     repeat' first
       | refine rg ?_
       | (refine EV.exit rfl ?_)
       | exact ⟨⟩
       | fail
     have he : Cf ts[i][j] = [ts[i][j]] := by
      rw [Cf, if_pos]
      rcases h with h | h
      ·left; simp [Bj, h]
      ·exact .inr h
     have ih3 := ih2 (j + 1, o') ⟨by dsimp only; omega, by rw [e, he]; simpa using bS⟩ (by dsimp only; omega)
     simp only [e, he, List.length_append, List.flatMap_append] at ih3
     refine EV.to ih3 ?_ eS
     exact eE
    ·have he : Cf ts[i][j] = [Hc, { ts[i][j] with ord := Iq ts[i][j].kind ts[i][j].ord }, Hc] := by
      rw [Cf, if_neg]
      have h5 := ((Ew _).1 ae).1
      simp only [T4, Bool.and_eq_true, decide_eq_true_eq] at h5
      have : Bj ts[i][j] = true := by simp only [Bj, Bool.and_eq_true, decide_eq_true_eq]; omega
      rw [this]; simp [h.2]
     repeat' first
       | refine rg ?_
       | ((first | refine Aq.call (U2 _) ?_ | with_reducible intro b | refine xm ?_ | refine xrA rfl ?_ | fail); try refine nx ?_)
       | (refine xw ?_; refine nx ?_)
       | exact ⟨⟩
       | fail
     refine ⟨_, Or.inr ⟨_, 0, rfl, Ap 0 rfl rfl (by simp)⟩, by simp [B2, Ct, Value.oneCell'], Or.inl ⟨_, _, rfl, _, aP, _, Cc [[_, _, _, _], osg 70 oq vs', osg 83 ov _] 2 (by simp), ?_, ?_, ?_⟩⟩
     ·simp only [maxLen]; omega
     ·omega
     intro o' bS _
     simp only [List.eraseIdx_cons_succ, List.eraseIdx_cons_zero, List.getElem_cons_succ, List.getElem_cons_zero, Dy, Dx, Dw, List.nil_append, List.cons_append, List.append_assoc, List.append_nil]
     repeat' first
       | refine EV.inBlock ?_
       | refine rg ?_
       | exact ⟨⟩
       | fail
     have ih3 := ih2 (j + 1, o') ⟨by dsimp only; omega, by rw [e, he]; simpa using bS⟩ (by dsimp only; omega)
     simp only [e, he, List.length_append, List.flatMap_append] at ih3
     refine EV.to ih3 ?_ eS
     exact eE
   ·have aM : j = ts[i].length := by omega
    subst aM
    have gb := Wj ts[i]
    rw [List.take_length] at aP ⊢
    repeat' first
      | fail
    refine ⟨_, Or.inr ⟨_, 0, rfl, Ap 0 rfl rfl (by simp)⟩, by simp [B2, Ct, Value.oneCell'], Or.inl ⟨_, _, rfl, _, jf, _, Cc [[_, _, _], osg 70 oq vs', osg 83 ov _] 1 (by simp), ?_, ?_, ?_⟩⟩
    ·simp only [maxLen]; omega
    ·omega
    intro o' bS _
    simp only [List.eraseIdx_cons_succ, List.eraseIdx_cons_zero, List.getElem_cons_succ, List.getElem_cons_zero, Dy, Dx, Dw, List.nil_append, List.cons_append, List.append_assoc, List.append_nil]
    repeat' first
      | refine EV.inBlock ?_
      | refine rg ?_
      | (refine xw ?_; refine nx ?_)
      | exact ⟨⟩
      | fail
    refine EV.permG ?_ (Cc [[_, _, _], osg 83 ov _, osg 70 o' _] 1 (by simp))
    simp only [List.eraseIdx_cons_succ, List.eraseIdx_cons_zero, List.getElem_cons_succ, List.getElem_cons_zero, List.insertIdx_zero, List.insertIdx_succ_cons, Dy, Dx, Dw, List.nil_append, List.cons_append, List.append_assoc, List.append_nil]
    refine EV.freeze ?_
    have ih3 := ih (i + 1, Mi.add (osg 83 ov ((Ds ts[i]).flatMap Bc)), o', vs' ++ [osv ov (Ds ts[i]).length]) ⟨by dsimp only; omega, Aa.le_trans bN (Aa.le_add _ _), bS, by simp [bt], ?_⟩ (by dsimp only; omega)
    dsimp only at ih3
    refine EV.to ih3 ?_ eS
    ·exact eE
    ·intro k cG cD
     dsimp only at cG cD ⊢
     by_cases fi : k < vs'.length
     ·rw [List.getElem_append_left fi]
      exact (jg k fi cD).mono (Aa.le_add _ _)
     ·have : k = i := by simp at cG; omega
      subst this
      rw [List.getElem_append_right (by omega)]
      simp only [bt, Nat.sub_self, List.getElem_cons_zero]
      exact ⟨_, _, rfl, D9 aP (fun p hp => hp)⟩
  ·have bk : i = ts.length := by omega
   subst bk
   repeat' first
     | fail
   refine EV.permG ?_ (Cc [[_, _], osg 70 oq vs'] 1 (by simp))
   simp only [List.eraseIdx_cons_succ, List.eraseIdx_cons_zero, List.getElem_cons_succ, List.getElem_cons_zero, List.insertIdx_zero, List.insertIdx_succ_cons, Dy, Dx, Dw, List.nil_append, List.cons_append, List.append_assoc, List.append_nil]
   refine EV.freeze ?_
   (refine rt Q67_ok ?_; try with_reducible exact ⟨⟩)
   refine ⟨_, Ap 1 rfl rfl (by simp), .inr ⟨aY, _, rfl, oad oq, L6 oq, vs', by simp, by simpa using bt, ?_, ?_⟩⟩
   ·simpa using D9 jf (fun p hp => hp)
   ·intro k h1 h2
    simp only [List.getElem_map]
    exact (jg k h1 (by simpa using h2)).mono (Aa.le_add _ _)
end
end Go.EV

namespace Go.EV
open Go.Proofs
def Af {α : Type} (f : Nat → α → α) : Nat → α → α
 | 0, r => r
 | i + 1, r => f i (Af f i r)
theorem Bn {f : Nat → Rel → Rel} (h : ∀ i r, (f i r).length = r.length) : ∀ n r, (Af f n r).length = r.length
 | 0, _ => rfl
 | n + 1, r => by rw [Af, h, Bn h n r]
theorem Bq {f : Nat → Rel → Rel} {P : Nat → Prop} {L a b : Nat} (hl : ∀ i r, (f i r).length = r.length) {n : Nat} (h : ∀ i r, i < n → r.length = L → (A1 (f i r) a b = true ↔ A1 r a b = true ∨ P i)) : ∀ m r, m ≤ n → r.length = L → (A1 (Af f m r) a b = true ↔ A1 r a b = true ∨ ∃ i, i < m ∧ P i)
 | 0, r, _, _ => by simp [Af]
 | m + 1, r, hm, hr => by
  rw [Af, h m _ (by omega) (by rw [Bn hl, hr]), Bq hl h m r (by omega) hr]
  constructor
  ·rintro ((h | ⟨i, h1, h2⟩) | h)
   ·exact .inl h
   ·exact .inr ⟨i, by omega, h2⟩
   ·exact .inr ⟨m, by omega, h⟩
  ·rintro (h | ⟨i, h1, h2⟩)
   ·exact .inl (.inl h)
   ·by_cases hi : i = m
    ·subst hi; exact .inr h2
    ·exact .inl (.inr ⟨i, by omega, h2⟩)
theorem loopN_ok {f : Nat → Rel → Rel} {n N : Nat} (h : ∀ i r, i < n → RelOk N r → RelOk N (f i r)) : ∀ m r, m ≤ n → RelOk N r → RelOk N (Af f m r)
 | 0, _, _, h => h
 | m + 1, r, hm, hr => h m _ (by omega) (loopN_ok h m r (by omega) hr)
def F5 (c : Bool) (r : Rel) (a b : Nat) : Rel := if c then Lv r a b else r
theorem Hy {c : Bool} {r : Rel} {a b : Nat} : (F5 c r a b).length = r.length := by
 unfold F5; split
 ·exact D6
 ·rfl
theorem J1 {c : Bool} {r : Rel} {a b x y : Nat} : A1 (F5 c r a b) x y = true ↔ A1 r x y = true ∨ (c = true ∧ x = a ∧ a < r.length ∧ y = b) := by
 unfold F5
 cases c with
 | true => rw [if_pos rfl, Ez]; simp
 | false => simp
theorem putIf_ok {N : Nat} {c : Bool} {r : Rel} (h : RelOk N r) (a : Nat) {b : Nat} (hb : b < N) : RelOk N (F5 c r a b) := by
 unfold F5; split
 ·exact h.put a hb
 ·exact h
def Br : Rel := List.replicate 16 0
theorem Ig {a b : Nat} : A1 Br a b = false := Nb
def S1 (p : List Ev) (a : Nat) (d : Nat) (r : Rel) : Rel := F5 (decide ((evAt p a).th = (evAt p (a + 1 + d)).th)) r a (a + 1 + d)
def It (p : List Ev) (a : Nat) (r : Rel) : Rel := Af (S1 p a) (p.length - (a + 1)) r
def Xo (p : List Ev) : Rel := Af (It p) p.length Br
theorem S2 (p : List Ev) (a : Nat) : ∀ d r, (S1 p a d r).length = r.length := fun _ _ => Hy
theorem Px (p : List Ev) : ∀ a r, (It p a r).length = r.length := fun a r => Bn (S2 p a) _ _
theorem Wk (p : List Ev) : (Xo p).length = 16 := by rw [Xo, Bn (Px p)]; rfl
theorem Wl {p : List Ev} (hp : p.length ≤ 16) {x y : Nat} : A1 (Xo p) x y = true ↔ x < y ∧ y < p.length ∧ (evAt p x).th = (evAt p y).th := by
 have hin : ∀ a r, a < p.length → r.length = 16 → (A1 (It p a r) x y = true ↔ A1 r x y = true ∨ (x = a ∧ x < y ∧ y < p.length ∧ (evAt p x).th = (evAt p y).th)) := by
  intro a r ha hr
  rw [It, Bq (P := fun d => x = a ∧ y = a + 1 + d ∧ (evAt p a).th = (evAt p (a + 1 + d)).th) (n := p.length - (a + 1)) (S2 p a) (fun d r hd hr => ?_) _ r (Nat.le_refl _) hr]
  ·constructor
   ·rintro (h | ⟨d, h1, h2, h3, h4⟩)
    ·exact .inl h
    ·subst h2 h3; exact .inr ⟨rfl, by omega, by omega, h4⟩
   ·rintro (h | ⟨h1, h2, h3, h4⟩)
    ·exact .inl h
    ·subst h1
     exact .inr ⟨y - (x + 1), by omega, rfl, by omega, by rw [show x + 1 + (y - (x + 1)) = y by omega]; exact h4⟩
  ·rw [S1, J1, decide_eq_true_eq]
   constructor
   ·rintro (h | ⟨h1, h2, h3, h4⟩)
    ·exact .inl h
    ·exact .inr ⟨h2, h4, h1⟩
   ·rintro (h | ⟨h1, h2, h3⟩)
    ·exact .inl h
    ·exact .inr ⟨h3, h1, by omega, h2⟩
 rw [Xo, Bq (P := fun a => x = a ∧ x < y ∧ y < p.length ∧ (evAt p x).th = (evAt p y).th) (n := p.length) (Px p) hin _ _ (Nat.le_refl _) rfl, Ig]
 constructor
 ·rintro (h | ⟨a, h1, h2, h3⟩)
  ·cases h
  ·exact h3
 ·intro h
  exact .inr ⟨x, by omega, rfl, h⟩
def Iu (e : Exec) (a : Nat) (r : Rel) : Rel := F5 (decide (0 ≤ Ae e a)) r (Ae e a).toNat a
def I5 (p : List Ev) (e : Exec) : Rel := Af (Iu e) p.length Br
theorem Py (e : Exec) : ∀ a r, (Iu e a r).length = r.length := fun _ _ => Hy
theorem Hz (p : List Ev) (e : Exec) : (I5 p e).length = 16 := by rw [I5, Bn (Py e)]; rfl
theorem S3 {p : List Ev} {e : Exec} (hp : p.length ≤ 16) (hx : ∀ i, i < p.length → Ae e i < p.length) {x y : Nat} : A1 (I5 p e) x y = true ↔ Rf e p.length x y := by
 rw [I5, Bq (P := fun a => y = a ∧ Ae e a = (x : Nat)) (L := 16) (n := p.length) (Py e) (fun a r ha hr => ?_) _ _ (Nat.le_refl _) rfl, Ig]
 ·unfold Rf
  constructor
  ·rintro (h | ⟨a, h1, rfl, h3⟩)
   ·cases h
   ·exact ⟨h1, h3⟩
  ·rintro ⟨h1, h2⟩; exact .inr ⟨y, h1, rfl, h2⟩
 ·have := hx a ha
  rw [Iu, J1, decide_eq_true_eq]
  constructor
  ·rintro (h | ⟨h1, h2, h3, h4⟩)
   ·exact .inl h
   ·exact .inr ⟨h4, by omega⟩
  ·rintro (h | ⟨h1, h2⟩)
   ·exact .inl h
   ·exact .inr ⟨by omega, by omega, by omega, h1⟩
def Nv (fen : List Int) (i d : Nat) (r : Rel) : Rel := Lv r (Ad fen i).toNat (Ad fen (i + 1 + d)).toNat
def Fp (fen : List Int) (i : Nat) (r : Rel) : Rel := Af (Nv fen i) (fen.length - (i + 1)) r
def F6 (fen : List Int) : Rel := Af (Fp fen) fen.length Br
theorem Pz (fen : List Int) (i : Nat) : ∀ d r, (Nv fen i d r).length = r.length := fun _ _ => D6
theorem Nw (fen : List Int) : ∀ i r, (Fp fen i r).length = r.length := fun i r => Bn (Pz fen i) _ _
theorem P0 (fen : List Int) : (F6 fen).length = 16 := by rw [F6, Bn (Nw fen)]; rfl
theorem P1 {fen : List Int} (hin : ∀ k, k < fen.length → 0 ≤ Ad fen k ∧ Ad fen k < 16) {x y : Nat} : A1 (F6 fen) x y = true ↔ Co1 fen x y := by
 have hi : ∀ i r, i < fen.length → r.length = 16 → (A1 (Fp fen i r) x y = true ↔ A1 r x y = true ∨ ∃ j, i < j ∧ j < fen.length ∧ Ad fen i = x ∧ Ad fen j = y) := by
  intro i r cw hr
  rw [Fp, Bq (P := fun d => Ad fen i = x ∧ Ad fen (i + 1 + d) = y) (n := fen.length - (i + 1)) (Pz fen i) (fun d r hd hr => ?_) _ r (Nat.le_refl _) hr]
  ·constructor
   ·rintro (h | ⟨d, h1, h2, h3⟩)
    ·exact .inl h
    ·exact .inr ⟨i + 1 + d, by omega, by omega, h2, h3⟩
   ·rintro (h | ⟨j, h1, h2, h3, h4⟩)
    ·exact .inl h
    ·exact .inr ⟨j - (i + 1), by omega, h3, by rw [show i + 1 + (j - (i + 1)) = j by omega]; exact h4⟩
  ·have q1 := hin i cw
   have q2 := hin (i + 1 + d) (by omega)
   rw [Nv, Ez]
   constructor
   ·rintro (h | ⟨h1, h2, h3⟩)
    ·exact .inl h
    ·exact .inr ⟨by omega, by omega⟩
   ·rintro (h | ⟨h1, h2⟩)
    ·exact .inl h
    ·exact .inr ⟨by omega, by omega, by omega⟩
 rw [F6, Bq (P := fun i => ∃ j, i < j ∧ j < fen.length ∧ Ad fen i = x ∧ Ad fen j = y) (n := fen.length) (Nw fen) hi _ _ (Nat.le_refl _) rfl, Ig]
 unfold Co1
 constructor
 ·rintro (h | ⟨i, h1, j, h2, h3, h4, h5⟩)
  ·cases h
  ·exact ⟨i, j, h2, h3, h4, h5⟩
 ·rintro ⟨i, j, h2, h3, h4, h5⟩; exact .inr ⟨i, by omega, j, h2, h3, h4, h5⟩
def Gv (b : Rel) (i : Nat) (a : Rel) : Rel := a.set i (a[i]?.getD 0 ||| b[i]?.getD 0)
def Eg (a b : Rel) : Rel := Af (Gv b) 16 a
theorem Nx (b : Rel) : ∀ i a, (Gv b i a).length = a.length := fun _ _ => by simp [Gv]
theorem P2 (a b : Rel) : (Eg a b).length = a.length := Bn (Nx b) _ _
theorem Ih {a b : Rel} (ha : a.length = 16) (hb : b.length = 16) {x y : Nat} : A1 (Eg a b) x y = true ↔ A1 a x y = true ∨ A1 b x y = true := by
 rw [Eg, Bq (P := fun i => x = i ∧ A1 b i y = true) (L := 16) (n := 16) (Nx b) (fun i r hi hr => ?_) _ _ (Nat.le_refl _) ha]
 ·constructor
  ·rintro (h | ⟨i, h1, rfl, h3⟩)
   ·exact .inl h
   ·exact .inr h3
  ·rintro (h | h)
   ·exact .inl h
   ·by_cases hx : x < 16
    ·exact .inr ⟨x, hx, rfl, h⟩
    ·rw [Jx (by omega)] at h; cases h
 ·have : Gv b i r = orR r i (b[i]?.getD 0) := rfl
  rw [this, Na, Bool.or_eq_true, Bool.and_eq_true, decide_eq_true_eq]
  constructor
  ·rintro (h | ⟨⟨h1, h2⟩, h3⟩)
   ·exact .inl h
   ·exact .inr ⟨h1, h3⟩
  ·rintro (h | ⟨h1, h3⟩)
   ·exact .inl h
   ·exact .inr ⟨⟨h1, by omega⟩, h3⟩
def Oz (e : Exec) (k : Nat) (i : Nat) (a : Nat) (d : Nat) (r : Rel) : Rel := Lv r a (Ad (e.ord[k]?.getD []) (i + 1 + d)).toNat
def Lj (e : Exec) (k : Nat) (i : Nat) (a b : Nat) (d : Nat) (r : Rel) : Rel := F5 (decide (Ae e b = a) && decide (Ad (e.ord[k]?.getD []) (i + 1 + d) ≠ b)) r b (Ad (e.ord[k]?.getD []) (i + 1 + d)).toNat
def Rn (p : List Ev) (e : Exec) (k : Nat) (i : Nat) (a : Nat) (b : Nat) (r : Rel) : Rel :=
 Af (Lj e k i a b) ((e.ord[k]?.getD []).length - (i + 1)) (F5 (decide (Ae e b = -1) && decide ((evAt p b).op.loc = (k : Int)) && decide (a ≠ b)) r b a)
def Ro (p : List Ev) (e : Exec) (k : Nat) (i : Nat) (r : Rel) : Rel :=
 Af (Rn p e k i (Ad (e.ord[k]?.getD []) i).toNat) p.length (Af (Oz e k i (Ad (e.ord[k]?.getD []) i).toNat) ((e.ord[k]?.getD []).length - (i + 1)) r)
def O0 (p : List Ev) (e : Exec) (k : Nat) (r : Rel) : Rel := Af (Ro p e k) (e.ord[k]?.getD []).length r
def Wm (p : List Ev) (e : Exec) : Rel := Af (O0 p e) 3 (I5 p e)
theorem Ny (e : Exec) (k i a : Nat) : ∀ d r, (Oz e k i a d r).length = r.length := fun _ _ => D6
theorem P3 (e : Exec) (k i a b : Nat) : ∀ d r, (Lj e k i a b d r).length = r.length := fun _ _ => Hy
theorem S4 (p : List Ev) (e : Exec) (k i a : Nat) : ∀ b r, (Rn p e k i a b r).length = r.length := fun b r => by rw [Rn, Bn (P3 e k i a b), Hy]
theorem S5 (p : List Ev) (e : Exec) (k : Nat) : ∀ i r, (Ro p e k i r).length = r.length := fun i r => by rw [Ro, Bn (S4 p e k i _), Bn (Ny e k i _)]
theorem Zt (p : List Ev) (e : Exec) : ∀ k r, (O0 p e k r).length = r.length := fun k r => Bn (S5 p e k) _ _
def Ae0 (p : List Ev) (e : Exec) (k : Nat) (l : List Int) (x y : Nat) : Prop :=
 Co1 l x y ∨ (x < p.length ∧ ∃ i, i < l.length ∧ ((Ae e x = -1 ∧ (evAt p x).op.loc = (k : Int) ∧ Ad l i = y ∧ y ≠ x) ∨ (Ae e x = Ad l i ∧ ∃ j, i < j ∧ j < l.length ∧ Ad l j = y ∧ y ≠ x)))
theorem Zu {p : List Ev} {e : Exec} (hp : p.length ≤ 16) {k : Nat} (hin : ∀ i, i < (e.ord[k]?.getD []).length → 0 ≤ Ad (e.ord[k]?.getD []) i ∧ Ad (e.ord[k]?.getD []) i < p.length) {x y : Nat} (r : Rel) (hr : r.length = 16) :
  A1 (O0 p e k r) x y = true ↔ A1 r x y = true ∨ Ae0 p e k (e.ord[k]?.getD []) x y := by
 unfold Ae0 O0
 have hI : ∀ i r, i < (e.ord[k]?.getD []).length → r.length = 16 → (A1 (Ro p e k i r) x y = true ↔ A1 r x y = true ∨
   ((∃ j, i < j ∧ j < (e.ord[k]?.getD []).length ∧ Ad (e.ord[k]?.getD []) i = x ∧ Ad (e.ord[k]?.getD []) j = y) ∨
    (x < p.length ∧ ((Ae e x = -1 ∧ (evAt p x).op.loc = (k : Int) ∧ Ad (e.ord[k]?.getD []) i = y ∧ y ≠ x) ∨ (Ae e x = Ad (e.ord[k]?.getD []) i ∧ ∃ j, i < j ∧ j < (e.ord[k]?.getD []).length ∧ Ad (e.ord[k]?.getD []) j = y ∧ y ≠ x))))) := by
  intro i r hi hr
  have ue := hin i hi
  obtain ⟨a, ha⟩ : ∃ a : Nat, Ad (e.ord[k]?.getD []) i = a := ⟨(Ad (e.ord[k]?.getD []) i).toNat, by omega⟩
  have hat : (Ad (e.ord[k]?.getD []) i).toNat = a := by omega
  unfold Ro
  rw [hat, ha]
  have hJ : ∀ r : Rel, r.length = 16 → (A1 (Af (Oz e k i a) ((e.ord[k]?.getD []).length - (i + 1)) r) x y = true ↔ A1 r x y = true ∨ ∃ j, i < j ∧ j < (e.ord[k]?.getD []).length ∧ x = a ∧ Ad (e.ord[k]?.getD []) j = y) := by
   intro r hr
   rw [Bq (P := fun d => x = a ∧ Ad (e.ord[k]?.getD []) (i + 1 + d) = y) (n := (e.ord[k]?.getD []).length - (i + 1)) (Ny e k i a) (fun d r hd hr => ?_) _ r (Nat.le_refl _) hr]
   ·constructor
    ·rintro (h | ⟨d, h1, h2, h3⟩)
     ·exact .inl h
     ·exact .inr ⟨i + 1 + d, by omega, by omega, h2, h3⟩
    ·rintro (h | ⟨j, h1, h2, h3, h4⟩)
     ·exact .inl h
     ·exact .inr ⟨j - (i + 1), by omega, h3, by rw [show i + 1 + (j - (i + 1)) = j by omega]; exact h4⟩
   ·have q2 := hin (i + 1 + d) (by omega)
    rw [Oz, Ez]
    constructor
    ·rintro (h | ⟨h1, h2, h3⟩)
     ·exact .inl h
     ·exact .inr ⟨h1, by omega⟩
    ·rintro (h | ⟨h1, h2⟩)
     ·exact .inl h
     ·exact .inr ⟨h1, by omega, by omega⟩
  have hB : ∀ b r, b < p.length → r.length = 16 → (A1 (Rn p e k i a b r) x y = true ↔ A1 r x y = true ∨ (x = b ∧ ((Ae e x = -1 ∧ (evAt p x).op.loc = (k : Int) ∧ y = a ∧ y ≠ x) ∨ (Ae e x = a ∧ ∃ j, i < j ∧ j < (e.ord[k]?.getD []).length ∧ Ad (e.ord[k]?.getD []) j = y ∧ y ≠ x)))) := by
   intro b r hb hr
   unfold Rn
   rw [Bq (P := fun d => x = b ∧ Ae e b = a ∧ Ad (e.ord[k]?.getD []) (i + 1 + d) = y ∧ y ≠ b) (n := (e.ord[k]?.getD []).length - (i + 1)) (L := 16) (P3 e k i a b) (fun d r hd hr => ?_) _ _ (Nat.le_refl _) (by rw [Hy, hr]), J1]
   ·simp only [Bool.and_eq_true, decide_eq_true_eq]
    constructor
    ·rintro ((h | ⟨⟨⟨h1, h2⟩, h3⟩, h4, h5, h6⟩) | ⟨d, h1, h2, h3, h4, h5⟩)
     ·exact .inl h
     ·subst h4; exact .inr ⟨rfl, .inl ⟨h1, h2, h6, by omega⟩⟩
     ·subst h2; exact .inr ⟨rfl, .inr ⟨h3, i + 1 + d, by omega, by omega, h4, h5⟩⟩
    ·rintro (h | ⟨rfl, ⟨h1, h2, h3, h4⟩ | ⟨h1, j, h2, h3, h4, h5⟩⟩)
     ·exact .inl (.inl h)
     ·exact .inl (.inr ⟨⟨⟨h1, h2⟩, by omega⟩, rfl, by omega, h3⟩)
     ·exact .inr ⟨j - (i + 1), by omega, rfl, h1, by rw [show i + 1 + (j - (i + 1)) = j by omega]; exact h4, h5⟩
   ·have q2 := hin (i + 1 + d) (by omega)
    rw [Lj, J1, Bool.and_eq_true, decide_eq_true_eq, decide_eq_true_eq]
    constructor
    ·rintro (h | ⟨⟨h1, h2⟩, h3, h4, h5⟩)
     ·exact .inl h
     ·exact .inr ⟨h3, h1, by omega, by omega⟩
    ·rintro (h | ⟨h1, h2, h3, h4⟩)
     ·exact .inl h
     ·exact .inr ⟨⟨h2, by omega⟩, h1, by omega, by omega⟩
  rw [Bq (P := fun b => x = b ∧ ((Ae e x = -1 ∧ (evAt p x).op.loc = (k : Int) ∧ y = a ∧ y ≠ x) ∨ (Ae e x = a ∧ ∃ j, i < j ∧ j < (e.ord[k]?.getD []).length ∧ Ad (e.ord[k]?.getD []) j = y ∧ y ≠ x))) (n := p.length) (L := 16) (S4 p e k i a) hB _ _ (Nat.le_refl _) (by rw [Bn (Ny e k i a), hr]), hJ r hr]
  constructor
  ·rintro ((h | ⟨j, h1, h2, h3, h4⟩) | ⟨b, h1, rfl, h2⟩)
   ·exact .inl h
   ·exact .inr (.inl ⟨j, h1, h2, by omega, h4⟩)
   ·refine .inr (.inr ⟨h1, ?_⟩)
    rcases h2 with ⟨g1, g2, g3, g4⟩ | h2
    ·exact .inl ⟨g1, g2, by omega, g4⟩
    ·exact .inr h2
  ·rintro (h | ⟨j, h1, h2, h3, h4⟩ | ⟨h1, h2⟩)
   ·exact .inl (.inl h)
   ·exact .inl (.inr ⟨j, h1, h2, by omega, h4⟩)
   ·refine .inr ⟨x, h1, rfl, ?_⟩
    rcases h2 with ⟨g1, g2, g3, g4⟩ | h2
    ·exact .inl ⟨g1, g2, by omega, g4⟩
    ·exact .inr h2
 rw [Bq (n := (e.ord[k]?.getD []).length) (L := 16) (S5 p e k) hI _ r (Nat.le_refl _) hr]
 unfold Co1
 constructor
 ·rintro (h | ⟨i, h1, ⟨j, h2, h3, h4, h5⟩ | ⟨h2, h3⟩⟩)
  ·exact .inl h
  ·exact .inr (.inl ⟨i, j, h2, h3, h4, h5⟩)
  ·exact .inr (.inr ⟨h2, i, h1, h3⟩)
 ·rintro (h | ⟨i, j, h2, h3, h4, h5⟩ | ⟨h2, i, h1, h3⟩)
  ·exact .inl h
  ·exact .inr ⟨i, by omega, .inl ⟨j, h2, h3, h4, h5⟩⟩
  ·exact .inr ⟨i, h1, .inr ⟨h2, h3⟩⟩
theorem Xp {p : List Ev} {e : Exec} (hl : p.length ≤ 16) (hp : POk p) (hs : Shape p e) {x y : Nat} : A1 (Wm p e) x y = true ↔ Ct4 p e x y := by
 have hx := hs.xok (.inr trivial)
 have hin : ∀ k, k < 3 → ∀ i, i < (e.ord[k]?.getD []).length → 0 ≤ Ad (e.ord[k]?.getD []) i ∧ Ad (e.ord[k]?.getD []) i < p.length := by
  intro k hk i hi
  have hm : e.ord[k]?.getD [] ∈ e.ord := by
   have : k < e.ord.length := by rw [hs.ol]; exact hk
   rw [List.getElem?_eq_getElem this, Option.getD_some]; exact List.getElem_mem _
  exact (hx.oin _ hm).1.num hi
 rw [Wm, Bq (P := fun k => Ae0 p e k (e.ord[k]?.getD []) x y) (n := 3) (L := 16) (Zt p e) (fun k r hk hr => Zu hl (hin k hk) r hr) _ _ (Nat.le_refl _) (Hz p e), S3 hl (fun i hi => (hx.fr i hi).1)]
 unfold Ct4 Ae0
 have aH : ∀ {b : Nat} {a : Nat}, b < p.length → Ae e b = a → (evAt p b).reads = true := by
  intro b a hb hf
  cases hr : (evAt p b).reads with
  | true => rfl
  | false => have := hs.out b hb hr; omega
 have eu : ∀ {b : Nat}, b < p.length → Ae e b = -1 → (evAt p b).reads = true := by
  intro b hb hf
  cases hr : (evAt p b).reads with
  | true => rfl
  | false => have := hs.out b hb hr; omega
 have aJ : ∀ k, k < 3 → e.ord[k]?.getD [] ∈ e.ord := by
  intro k hk
  have : k < e.ord.length := by rw [hs.ol]; exact hk
  rw [List.getElem?_eq_getElem this, Option.getD_some]; exact List.getElem_mem _
 have bX : ∀ {b : Nat} {k i : Nat}, b < p.length → k < 3 → i < (e.ord[k]?.getD []).length → Ae e b = Ad (e.ord[k]?.getD []) i → (evAt p b).op.loc = (k : Int) := by
  intro b k i hb hk hi hf
  obtain ⟨w, w1, w2, w3, w4, w5⟩ := A9.1 ((hs.ord k hk).mem_iff.1 (Hs.2 ⟨i, hi, rfl⟩))
  rcases hs.src b hb (aH hb (hf.trans w1)) with h | ⟨w', g1, g2, g3, g4⟩
  ·omega
  ·have : w' = w := by omega
   subst this; rw [← g4]; exact w5
 have hat : ∀ {b : Nat} {k : Nat}, (evAt p b).op.loc = (k : Int) → Kf p e b = e.ord[k]?.getD [] := by
  intro b k h; unfold Kf; rw [h, Int.toNat_natCast]
 constructor
 ·rintro (h | ⟨k, hk, h | ⟨h1, i, hi, ⟨g1, g2, g3, g4⟩ | ⟨g1, j, g2, g3, g4, g5⟩⟩⟩)
  ·exact .inr (.inl ⟨aH h.1 h.2, h⟩)
  ·exact .inl ⟨_, aJ k hk, h⟩
  ·refine .inr (.inr ⟨h1, eu h1 g1, g4, i, ?_, ?_, .inl g1⟩)
   ·rw [hat g2]; exact hi
   ·rw [hat g2]; exact g3
  ·have cE := bX h1 hk hi g1
   have h0 := hin k hk i hi
   obtain ⟨a, ha⟩ : ∃ a : Nat, Ad (e.ord[k]?.getD []) i = a := ⟨(Ad (e.ord[k]?.getD []) i).toNat, by omega⟩
   refine .inr (.inr ⟨h1, aH h1 (g1.trans ha), g5, j, ?_, ?_, .inr ⟨i, g2, ?_⟩⟩)
   ·rw [hat cE]; exact g3
   ·rw [hat cE]; exact g4
   ·rw [hat cE]; exact g1.symm
 ·rintro (⟨l, b7, h⟩ | ⟨_, h⟩ | ⟨h1, h2, h3, j, h4, h5, h6⟩)
  ·obtain ⟨k, hk, rfl⟩ := List.getElem_of_mem b7
   have eV : k < 3 := by rw [← hs.ol]; exact hk
   refine .inr ⟨k, eV, .inl ?_⟩
   rw [List.getElem?_eq_getElem hk, Option.getD_some]; exact h
  ·exact .inl h
  ·have cE := hp.loc x h1
   obtain ⟨k, hk⟩ : ∃ k : Nat, (evAt p x).op.loc = (k : Int) := ⟨(evAt p x).op.loc.toNat, by omega⟩
   rw [hat hk] at h4 h5 h6
   refine .inr ⟨k, by omega, .inr ⟨h1, ?_⟩⟩
   rcases h6 with h6 | ⟨i, i1, i2⟩
   ·exact ⟨j, h4, .inl ⟨h6, hk, h5, h3⟩⟩
   ·exact ⟨i, by omega, .inr ⟨i2.symm, j, i1, h4, h5, h3⟩⟩
end Go.EV

namespace Go.EV
open Go.Proofs
theorem Nz {f : Nat → Nat → Nat} {P : Nat → Prop} {c : Nat} {n : Nat} (h : ∀ i s, i < n → ((f i s).testBit c = true ↔ s.testBit c = true ∨ P i)) : ∀ m s, m ≤ n → ((Af f m s).testBit c = true ↔ s.testBit c = true ∨ ∃ i, i < m ∧ P i)
 | 0, s, _ => by simp [Af]
 | m + 1, s, hm => by
  rw [Af, h m _ (by omega), Nz h m s (by omega)]
  constructor
  ·rintro ((h | ⟨i, h1, h2⟩) | h)
   ·exact .inl h
   ·exact .inr ⟨i, by omega, h2⟩
   ·exact .inr ⟨m, by omega, h⟩
  ·rintro (h | ⟨i, h1, h2⟩)
   ·exact .inl (.inl h)
   ·by_cases hi : i = m
    ·subst hi; exact .inr h2
    ·exact .inl (.inr ⟨i, by omega, h2⟩)
theorem J2 {f : Nat → Nat → Nat} {n N : Nat} (h : ∀ i s, i < n → s < 2 ^ N → f i s < 2 ^ N) : ∀ m s, m ≤ n → s < 2 ^ N → Af f m s < 2 ^ N
 | 0, _, _, h => h
 | m + 1, s, hm, hs => h m _ (by omega) (J2 h m s (by omega) hs)
def Fc (c : Bool) (s a : Nat) : Nat := if c then s ||| 2 ^ a else s
theorem H0 {c : Bool} {s a x : Nat} : (Fc c s a).testBit x = true ↔ s.testBit x = true ∨ (c = true ∧ x = a) := by
 unfold Fc
 cases c with
 | true =>
  rw [if_pos rfl, Nat.testBit_or, Bool.or_eq_true, Nat.testBit_two_pow, decide_eq_true_eq]
  constructor
  ·rintro (h | h)
   ·exact .inl h
   ·exact .inr ⟨rfl, h.symm⟩
  ·rintro (h | ⟨_, h⟩)
   ·exact .inl h
   ·exact .inr h.symm
 | false => simp
theorem L2 {c : Bool} {s a N : Nat} (h : s < 2 ^ N) (ha : a < N) : Fc c s a < 2 ^ N := by
 unfold Fc; split
 ·exact Nat.or_lt_two_pow h (Nat.pow_lt_pow_right (by decide) ha)
 ·exact h
def chS (e : Exec) (a c : Nat) : Nat := Fc (B0 e.dn a && decide (0 ≤ Ae e a) && c.testBit (Ae e a).toNat) c a
def Cs1 (p : List Ev) (e : Exec) (c : Nat) : Nat := Af (chS e) p.length c
def chN (p : List Ev) (e : Exec) (k w : Nat) : Nat := Af (fun _ c => Cs1 p e c) k (2 ^ w)
def chW (p : List Ev) (e : Exec) (w : Nat) : Nat := chN p e p.length w
section
variable {p : List Ev} {e : Exec}
theorem Ai0 {a c x : Nat} (h : c.testBit x = true) : (chS e a c).testBit x = true := H0.2 (.inl h)
theorem Rp {c x : Nat} : ∀ m, c.testBit x = true → (Af (chS e) m c).testBit x = true
 | 0, h => h
 | m + 1, h => Ai0 (Rp m h)
theorem P4 {c x : Nat} {b : Nat} (hd : B0 e.dn x = true) (hf : Ae e x = (b : Nat)) (hb : c.testBit b = true) : ∀ m, x < m → (Af (chS e) m c).testBit x = true
 | 0, h => by omega
 | m + 1, h => by
  by_cases hx : x = m
  ·subst hx
   refine H0.2 (.inr ⟨?_, rfl⟩)
   have h0 : (0 : Int) ≤ Ae e x := by omega
   have ht : (Ae e x).toNat = b := by omega
   rw [hd, ht, Rp x hb, decide_eq_true h0]; rfl
  ·exact Ai0 (P4 hd hf hb m (by omega))
theorem Ey5 {p : List Ev} {e : Exec} (hs : Shape p e) {a b : Nat} (ha : a < p.length) (hd : B0 e.dn a = true) (hf : Ae e a = (b : Nat)) : Ex1 p e a b := by
 refine ⟨?_, hf⟩
 unfold Ms
 have hr : (evAt p a).reads = true := by
  cases hr : (evAt p a).reads with
  | true => rfl
  | false => have := hs.out a ha hr; omega
 rw [hr, Bool.true_and]; exact hd
theorem N0 (hs : Shape p e) {w c : Nat} (hc : ∀ x, c.testBit x = true → x < p.length ∧ Back p e x w) : ∀ m, m ≤ p.length → ∀ x, (Af (chS e) m c).testBit x = true → x < p.length ∧ Back p e x w
 | 0, _, x, h => hc x h
 | m + 1, hm, x, h => by
  have ih := N0 hs hc m (by omega)
  rcases H0.1 h with h | ⟨h1, rfl⟩
  ·exact ih x h
  ·simp only [Bool.and_eq_true, decide_eq_true_eq] at h1
   obtain ⟨⟨h1, h2⟩, h3⟩ := h1
   exact ⟨by omega, .on (Ey5 hs (by omega) h1 (by omega : Ae e x = ((Ae e x).toNat : Nat))) (ih _ h3).2⟩
theorem S6 (hs : Shape p e) {w : Nat} (hw : w < p.length) : ∀ k x, (chN p e k w).testBit x = true → x < p.length ∧ Back p e x w
 | 0, x, h => by
  have : (2 ^ w).testBit x = true := h
  rw [Nat.testBit_two_pow, decide_eq_true_eq] at this
  subst this; exact ⟨hw, .here⟩
 | k + 1, x, h => N0 hs (S6 hs hw k) _ (Nat.le_refl _) x h
theorem U4 (hx : XOk p e) {w : Nat} : ∀ (m k x : Nat), m ≤ k → x < p.length → Ox p e m x w → (chN p e k w).testBit x = true
 | m, 0, x, hk, _, hb => by
  have : m = 0 := by omega
  subst this
  have eO : x = w := hb
  subst eO
  show (2 ^ x).testBit x = true
  simp
 | 0, k + 1, x, hk, hl, hb => Rp _ (U4 hx 0 k x (by omega) hl hb)
 | m + 1, k + 1, x, hk, hl, ⟨v, h1, h2⟩ => by
  have hv : v < p.length := by
   have := (hx.fr x hl).1
   have := h1.2
   unfold Ae at this; omega
  have hd : B0 e.dn x = true := by
   have := h1.1
   unfold Ms at this
   simp only [Bool.and_eq_true] at this
   exact this.2
  exact P4 hd h1.2 (U4 hx m k v (by omega) hv h2) _ hl
theorem Zv (hs : Shape p e) (al : Sg p e) {w x : Nat} (hw : w < p.length) : (chW p e w).testBit x = true ↔ x < p.length ∧ Back p e x w := by
 have hx := hs.xok (.inr trivial)
 refine ⟨S6 hs hw _ x, fun ⟨h1, h2⟩ => ?_⟩
 obtain ⟨m, hm⟩ := h2.n
 refine U4 hx m _ x ?_ h1 hm
 obtain ⟨f, q1, q2, q3⟩ := hm.way
 have := Qy (R := fun a b => Rf e p.length b a) (f := f) (m := m) (n := p.length) (fun a ha => al a ?_) (fun i hi => ?_) (fun i hi => ?_)
 ·omega
 ·have key : ∀ a b, TG (fun a b => Rf e p.length b a) a b → TG (Rf e p.length) b a := by
   intro a b h
   induction h with
   | one h => exact .one h
   | more h _ ih => exact ih.trans (.one h)
  exact key a a ha
 ·have := q3 i hi
  exact ⟨Kl hx this.1, this.2⟩
 ·by_cases h0 : i = 0
  ·subst h0; rw [q1]; exact h1
  ·have := q3 (i - 1) (by omega)
   rw [show i - 1 + 1 = i by omega] at this
   have h1 := (hx.fr _ (Kl hx this.1)).1
   have h2 := this.2
   unfold Ae at h2; omega
end
def gM (p : List Ev) (w a : Nat) : Bool := (evAt p a).rel && (decide (a = w) || (decide ((evAt p a).op.kind = 5) && decide ((evAt p a).th = (evAt p w).th) && decide (a < w)))
def tlC (p : List Ev) (b a : Nat) : Bool := (evAt p a).acq && (decide (a = b) || (decide ((evAt p a).op.kind = 5) && decide ((evAt p a).th = (evAt p b).th) && decide (a > b)))
def i8 (p : List Ev) (w : Nat) : Nat := Af (fun a s => Fc (gM p w a) s a) p.length 0
def tlW (p : List Ev) (b : Nat) : Nat := Af (fun a s => Fc (tlC p b a) s a) p.length 0
theorem Zw {p : List Ev} {w a : Nat} : gM p w a = true ↔ Sf p w a := by
 unfold gM Sf
 simp only [Bool.and_eq_true, Bool.or_eq_true, decide_eq_true_eq]
 constructor
 ·rintro ⟨h1, h2 | ⟨⟨h2, h3⟩, h4⟩⟩
  ·exact ⟨h1, .inl h2⟩
  ·exact ⟨h1, .inr ⟨h4, h3, h2⟩⟩
 ·rintro ⟨h1, h2 | ⟨h4, h3, h2⟩⟩
  ·exact ⟨h1, .inl h2⟩
  ·exact ⟨h1, .inr ⟨⟨h2, h3⟩, h4⟩⟩
theorem Zx {p : List Ev} {w x : Nat} (hw : w < p.length) : (i8 p w).testBit x = true ↔ Sf p w x := by
 rw [i8, Nz (P := fun a => gM p w a = true ∧ x = a) (n := p.length) (fun i s _ => H0) _ _ (Nat.le_refl _)]
 simp only [Nat.zero_testBit, Bool.false_eq_true, false_or]
 constructor
 ·rintro ⟨i, _, h, rfl⟩; exact Zw.1 h
 ·intro h; exact ⟨x, h.lt hw, Zw.2 h, rfl⟩
theorem Au9 {p : List Ev} {b x : Nat} (hb : b < p.length) : (tlW p b).testBit x = true ↔ Ab1 p b x := by
 rw [tlW, Nz (P := fun a => tlC p b a = true ∧ x = a) (n := p.length) (fun i s _ => H0) _ _ (Nat.le_refl _)]
 simp only [Nat.zero_testBit, Bool.false_eq_true, false_or]
 unfold tlC Ab1
 simp only [Bool.and_eq_true, Bool.or_eq_true, decide_eq_true_eq]
 constructor
 ·rintro ⟨i, h0, ⟨h1, h2 | ⟨⟨h2, h3⟩, h4⟩⟩, rfl⟩
  ·exact ⟨h1, .inl h2⟩
  ·exact ⟨h1, .inr ⟨h4, h0, h3, h2⟩⟩
 ·rintro ⟨h1, h2 | ⟨h4, h0, h3, h2⟩⟩
  ·exact ⟨x, by omega, ⟨h1, .inl h2⟩, rfl⟩
  ·exact ⟨x, h0, ⟨h1, .inr ⟨⟨h2, h3⟩, h4⟩⟩, rfl⟩
def mtA (p : List Ev) (w b a : Nat) (r : Rel) : Rel := if (i8 p w).testBit a then orR r a (tlW p b) else r
def mtB (p : List Ev) (e : Exec) (w b : Nat) (r : Rel) : Rel := if decide (Ae e b < 0) || !(chW p e w).testBit (Ae e b).toNat then r else Af (mtA p w b) p.length r
def mtW (p : List Ev) (e : Exec) (w : Nat) (r : Rel) : Rel := if B0 e.dn w then Af (mtB p e w) p.length r else r
def J3 (p : List Ev) (e : Exec) : Rel := Af (mtW p e) p.length Br
theorem Zy (p : List Ev) (w b : Nat) : ∀ a r, (mtA p w b a r).length = r.length := fun a r => by unfold mtA; split; exact Qx; rfl
theorem Zz (p : List Ev) (e : Exec) (w : Nat) : ∀ b r, (mtB p e w b r).length = r.length := fun b r => by unfold mtB; split; rfl; exact Bn (Zy p w b) _ _
theorem Z0 (p : List Ev) (e : Exec) : ∀ w r, (mtW p e w r).length = r.length := fun w r => by unfold mtW; split; exact Bn (Zz p e w) _ _; rfl
theorem P5 (p : List Ev) (e : Exec) : (J3 p e).length = 16 := Bn (Z0 p e) _ _
theorem Xq {p : List Ev} {e : Exec} (hl : p.length ≤ 16) (hs : Shape p e) (al : Sg p e) {x y : Nat} : A1 (J3 p e) x y = true ↔ Sw p e x y := by
 have hx := hs.xok (.inr trivial)
 have hA : ∀ w b a r, w < p.length → b < p.length → a < p.length → r.length = 16 → (A1 (mtA p w b a r) x y = true ↔ A1 r x y = true ∨ (x = a ∧ Sf p w x ∧ Ab1 p b y)) := by
  intro w b a r hw hb ha hr
  unfold mtA
  split
  ·rename_i h
   rw [Na, Bool.or_eq_true, Bool.and_eq_true, decide_eq_true_eq, Au9 hb]
   rw [Zx hw] at h
   constructor
   ·rintro (h1 | ⟨⟨h1, h2⟩, h3⟩)
    ·exact .inl h1
    ·subst h1; exact .inr ⟨rfl, h, h3⟩
   ·rintro (h1 | ⟨h1, h2, h3⟩)
    ·exact .inl h1
    ·exact .inr ⟨⟨h1, by omega⟩, h3⟩
  ·rename_i h
   rw [Zx hw] at h
   constructor
   ·exact .inl
   ·rintro (h1 | ⟨h1, h2, _⟩)
    ·exact h1
    ·subst h1; exact absurd h2 h
 have hB : ∀ w b r, w < p.length → b < p.length → r.length = 16 → (A1 (mtB p e w b r) x y = true ↔ A1 r x y = true ∨ (∃ v : Nat, Ae e b = v ∧ Back p e v w) ∧ Sf p w x ∧ Ab1 p b y) := by
  intro w b r hw hb hr
  unfold mtB
  have uf := (hx.fr b hb).1
  split
  ·rename_i h
   constructor
   ·exact .inl
   ·rintro (h1 | ⟨⟨v, h1, h2⟩, _⟩)
    ·exact h1
    ·exfalso
     simp only [Bool.or_eq_true, decide_eq_true_eq, Bool.not_eq_true'] at h
     rcases h with h | h
     ·omega
     ·have hv : (Ae e b).toNat = v := by omega
      rw [hv, (Zv hs al hw).2 ⟨by unfold Ae at h1; omega, h2⟩] at h
      cases h
  ·rename_i h
   simp only [Bool.or_eq_true, decide_eq_true_eq, Bool.not_eq_true', not_or, Bool.not_eq_false] at h
   obtain ⟨h1, h2⟩ := h
   have tR := ((Zv hs al hw).1 h2).2
   rw [Bq (P := fun a => x = a ∧ Sf p w x ∧ Ab1 p b y) (n := p.length) (L := 16) (Zy p w b) (fun a r ha hr => hA w b a r hw hb ha hr) _ r (Nat.le_refl _) hr]
   constructor
   ·rintro (g | ⟨a, _, _, g⟩)
    ·exact .inl g
    ·exact .inr ⟨⟨(Ae e b).toNat, by omega, tR⟩, g⟩
   ·rintro (g | ⟨_, g⟩)
    ·exact .inl g
    ·exact .inr ⟨x, g.1.lt hw, rfl, g⟩
 have hW : ∀ w r, w < p.length → r.length = 16 → (A1 (mtW p e w r) x y = true ↔ A1 r x y = true ∨ (B0 e.dn w = true ∧ ∃ b, b < p.length ∧ (∃ v : Nat, Ae e b = v ∧ Back p e v w) ∧ Sf p w x ∧ Ab1 p b y)) := by
  intro w r hw hr
  unfold mtW
  split
  ·rename_i h
   rw [Bq (n := p.length) (L := 16) (Zz p e w) (fun b r hb hr => hB w b r hw hb hr) _ r (Nat.le_refl _) hr]
   constructor
   ·rintro (g | ⟨b, hb, g⟩)
    ·exact .inl g
    ·exact .inr ⟨h, b, hb, g⟩
   ·rintro (g | ⟨_, b, hb, g⟩)
    ·exact .inl g
    ·exact .inr ⟨b, hb, g⟩
  ·rename_i h
   constructor
   ·exact .inl
   ·rintro (g | ⟨g, _⟩)
    ·exact g
    ·exact absurd g h
 rw [J3, Bq (n := p.length) (L := 16) (Z0 p e) hW _ _ (Nat.le_refl _) rfl, Ig]
 unfold Sw
 constructor
 ·rintro (h | ⟨w, hw, _, b, hb, ⟨v, h1, h2⟩, h3, h4⟩)
  ·cases h
  ·have hr : (evAt p b).reads = true := by
    cases hr : (evAt p b).reads with
    | true => rfl
    | false => have := hs.out b hb hr; omega
   exact ⟨b, v, w, hb, hr, h1, h2, h3, h4⟩
 ·rintro ⟨r, w, v, h1, h2, h3, h4, h5, h6⟩
  have n8 : w < p.length ∧ B0 e.dn w = true := by
   rcases hs.src r h1 h2 with h | ⟨w', g1, g2, g3, _⟩
   ·omega
   ·have : w' = w := by omega
    subst this; exact ⟨g2, g3⟩
  have rX : v < p.length ∧ B0 e.dn v = true := by
   clear h5 h3
   induction h4 with
   | here => exact n8
   | @on w u v h _ ih =>
    refine ih ?_
    have hl := Kl hx h.1
    have hr : (evAt p w).reads = true := by
     have := h.1; unfold Ms at this; simp only [Bool.and_eq_true] at this; exact this.1
    rcases hs.src w hl hr with g | ⟨w', g1, g2, g3, _⟩
    ·have := h.2; omega
    ·have : w' = u := by have := h.2; omega
     subst this; exact ⟨g2, g3⟩
  exact .inr ⟨v, rX.1, rX.2, r, h1, ⟨w, h3, h4⟩, h5, h6⟩
theorem zero16_ok : RelOk 16 Br := RelOk.zero 16
theorem thrR_ok {p : List Ev} (hp : p.length ≤ 16) : RelOk 16 (Xo p) :=
 loopN_ok (n := p.length) (fun a r ha hr => loopN_ok (n := p.length - (a + 1)) (fun d r hd hr => putIf_ok hr a (by omega)) _ r (Nat.le_refl _) hr) _ _ (Nat.le_refl _) zero16_ok
theorem fromR_ok {p : List Ev} {e : Exec} (hp : p.length ≤ 16) : RelOk 16 (I5 p e) :=
 loopN_ok (n := p.length) (fun a r ha hr => putIf_ok hr _ (by omega)) _ _ (Nat.le_refl _) zero16_ok
theorem turnsR_ok {fen : List Int} (hin : ∀ k, k < fen.length → 0 ≤ Ad fen k ∧ Ad fen k < 16) : RelOk 16 (F6 fen) :=
 loopN_ok (n := fen.length) (fun i r hi hr => loopN_ok (n := fen.length - (i + 1)) (fun d r hd hr => by have := hin (i + 1 + d) (by omega); exact hr.put _ (by omega)) _ r (Nat.le_refl _) hr) _ _ (Nat.le_refl _) zero16_ok
theorem unionR_ok {a b : Rel} (ha : RelOk 16 a) (hb : RelOk 16 b) : RelOk 16 (Eg a b) :=
 loopN_ok (n := 16) (fun i r hi hr => hr.or i (hb.lt i)) _ _ (Nat.le_refl _) ha
theorem Z1 {p : List Ev} (hp : p.length ≤ 16) (b : Nat) : tlW p b < 2 ^ 16 := J2 (n := p.length) (fun i s hi hs => L2 hs (by omega)) _ _ (Nat.le_refl _) (by decide)
theorem meetsR_ok {p : List Ev} {e : Exec} (hp : p.length ≤ 16) : RelOk 16 (J3 p e) := by
 refine loopN_ok (n := p.length) (fun w r hw hr => ?_) _ _ (Nat.le_refl _) zero16_ok
 unfold mtW; split
 ·refine loopN_ok (n := p.length) (fun b r hb hr => ?_) _ _ (Nat.le_refl _) hr
  unfold mtB; split
  ·exact hr
  ·refine loopN_ok (n := p.length) (fun a r ha hr => ?_) _ _ (Nat.le_refl _) hr
   unfold mtA; split
   ·exact hr.or a (Z1 hp b)
   ·exact hr
 ·exact hr
theorem seenR0_ok {p : List Ev} {e : Exec} (hp : p.length ≤ 16) (hin : ∀ k, k < 3 → ∀ i, i < (e.ord[k]?.getD []).length → 0 ≤ Ad (e.ord[k]?.getD []) i ∧ Ad (e.ord[k]?.getD []) i < p.length) : RelOk 16 (Wm p e) := by
 refine loopN_ok (n := 3) (fun k r hk hr => ?_) _ _ (Nat.le_refl _) (fromR_ok hp)
 refine loopN_ok (n := (e.ord[k]?.getD []).length) (fun i r hi hr => ?_) _ _ (Nat.le_refl _) hr
 refine loopN_ok (n := p.length) (fun b r hb hr => ?_) _ _ (Nat.le_refl _) (loopN_ok (n := (e.ord[k]?.getD []).length - (i + 1)) (fun d r hd hr => ?_) _ _ (Nat.le_refl _) hr)
 ·have h1 := hin k hk i hi
  refine loopN_ok (n := (e.ord[k]?.getD []).length - (i + 1)) (fun d r hd hr => ?_) _ _ (Nat.le_refl _) (putIf_ok hr _ (by omega))
  have h2 := hin k hk (i + 1 + d) (by omega)
  exact putIf_ok hr _ (by omega)
 ·have h2 := hin k hk (i + 1 + d) (by omega)
  exact hr.put _ (by omega)
def U5 (p : List Ev) (e : Exec) : Rel := Ch (Eg (Xo p) (Eg (J3 p e) (F6 e.fen)))
def S7 (p : List Ev) (e : Exec) : Rel := Ch (Wm p e)
def Aw1 (p : List Ev) (e : Exec) : Rel := Ch (Eg (Xo p) (Eg (I5 p e) (F6 e.fen)))
def N7 (hb eco : Rel) : Bool := Bp hb || (List.range 16).any fun a => (List.range 16).any fun b => A1 hb a b && A1 eco b a
theorem Wn {p : List Ev} (hm : Lw p) {x y : Nat} (h1 : x < y) (h2 : y < p.length) (h3 : (evAt p x).th = (evAt p y).th) : TG (Sb1 p) x y := by
 have key : ∀ (d a : Nat), a + d + 1 < p.length → (evAt p a).th = (evAt p (a + d + 1)).th → TG (Sb1 p) a (a + d + 1) := by
  intro d
  induction d with
  | zero => intro a h ht; exact .one ⟨rfl, h, ht.symm⟩
  | succ d ih =>
   intro a h ht
   have h1 := hm.between (a := a) (b := a + (d + 1) + 1) (x := a + d + 1) h (by omega) (by omega) ht
   exact (ih a (by omega) (by rw [h1]; exact ht)).trans (.one ⟨by omega, h, h1.symm⟩)
 have := key (y - x - 1) x (by omega) (by rw [show x + (y - x - 1) + 1 = y by omega]; exact h3)
 rwa [show x + (y - x - 1) + 1 = y by omega] at this
theorem Wo {l : List Int} (hp : ∀ k, k < l.length → 0 ≤ Ad l k) {x y : Nat} (h : Co1 l x y) : TG (Fo1 l) x y := by
 obtain ⟨i, j, gQ, hj, h1, h2⟩ := h
 have key : ∀ (d j a b : Nat), j + d + 1 < l.length → Ad l j = a → Ad l (j + d + 1) = b → TG (Fo1 l) a b := by
  intro d
  induction d with
  | zero => intro j a b h ha hb; exact .one ⟨j, h, ha, hb⟩
  | succ d ih =>
   intro j a b h ha hb
   have h1 := hp (j + d + 1) (by omega)
   obtain ⟨c, hc⟩ : ∃ c : Nat, Ad l (j + d + 1) = c := ⟨(Ad l (j + d + 1)).toNat, by omega⟩
   exact (ih j a c (by omega) ha hc).trans (.one ⟨j + d + 1, by omega, hc, by rw [← hb]; congr 1⟩)
 exact key (j - i - 1) i x y (by omega) h1 (by rw [show i + (j - i - 1) + 1 = j by omega]; exact h2)
theorem Ai1 {l : List Int} {x y : Nat} (h : Fo1 l x y) : Co1 l x y := by
 obtain ⟨j, h1, h2, h3⟩ := h; exact ⟨j, j + 1, by omega, h1, h2, h3⟩
theorem Ai2 {p : List Ev} {x y : Nat} (h : Sb1 p x y) : x < y ∧ y < p.length ∧ (evAt p x).th = (evAt p y).th := ⟨by have := h.1; omega, h.2.1, h.2.2.symm⟩
section
variable {p : List Ev} {e : Exec} (hl : p.length ≤ 16) (hm : Lw p) (hs : Shape p e)
include hl hm hs
theorem S8 : ∀ k, k < e.fen.length → 0 ≤ Ad e.fen k ∧ Ad e.fen k < 16 := fun k hk => by
 have := ((hs.xok (.inr trivial)).fin.1).num hk; omega
theorem Ae1 {x y : Nat} : A1 (Aw1 p e) x y = true ↔ TG (fun a b => Sb1 p a b ∨ Fo1 e.fen a b ∨ Rf e p.length a b) x y := by
 have hx := hs.xok (.inr trivial)
 have hf := S8 hl hm hs
 rw [Aw1, E4 (unionR_ok (thrR_ok hl) (unionR_ok (fromR_ok hl) (turnsR_ok hf)))]
 have ci : ∀ a b, A1 (Eg (Xo p) (Eg (I5 p e) (F6 e.fen))) a b = true ↔ (a < b ∧ b < p.length ∧ (evAt p a).th = (evAt p b).th) ∨ Rf e p.length a b ∨ Co1 e.fen a b := fun a b => by
  rw [Ih (Wk p) (by rw [P2, Hz]), Wl hl, Ih (Hz p e) (P0 _), S3 hl (fun i hi => (hx.fr i hi).1), P1 hf]
 refine TG.iff (fun a b h => ?_) (fun a b h => .one ((ci a b).2 ?_))
 ·rcases (ci a b).1 h with ⟨h1, h2, h3⟩ | h | h
  ·exact (Wn hm h1 h2 h3).mono fun _ _ k => .inl k
  ·exact .one (.inr (.inr h))
  ·exact (Wo (fun k hk => (hf k hk).1) h).mono fun _ _ k => .inr (.inl k)
 ·rcases h with h | h | h
  ·exact .inl (Ai2 h)
  ·exact .inr (.inr (Ai1 h))
  ·exact .inr (.inl h)
theorem L3 (al : Sg p e) {x y : Nat} : A1 (U5 p e) x y = true ↔ Hb p e x y := by
 have hf := S8 hl hm hs
 rw [U5, E4 (unionR_ok (thrR_ok hl) (unionR_ok (meetsR_ok hl) (turnsR_ok hf)))]
 have ci : ∀ a b, A1 (Eg (Xo p) (Eg (J3 p e) (F6 e.fen))) a b = true ↔ (a < b ∧ b < p.length ∧ (evAt p a).th = (evAt p b).th) ∨ Sw p e a b ∨ Co1 e.fen a b := fun a b => by
  rw [Ih (Wk p) (by rw [P2, P5]), Wl hl, Ih (P5 p e) (P0 _), Xq hl hs al, P1 hf]
 refine TG.iff (fun a b h => ?_) (fun a b h => .one ((ci a b).2 ?_))
 ·rcases (ci a b).1 h with ⟨h1, h2, h3⟩ | h | h
  ·exact (Wn hm h1 h2 h3).mono fun _ _ k => .inl k
  ·exact .one (.inr (.inr h))
  ·exact (Wo (fun k hk => (hf k hk).1) h).mono fun _ _ k => .inr (.inl k)
 ·rcases h with h | h | h
  ·exact .inl (Ai2 h)
  ·exact .inr (.inr (Ai1 h))
  ·exact .inr (.inl h)
theorem Ai3 : ∀ k, k < 3 → ∀ i, i < (e.ord[k]?.getD []).length → 0 ≤ Ad (e.ord[k]?.getD []) i ∧ Ad (e.ord[k]?.getD []) i < p.length := by
 intro k hk i hi
 have hm : e.ord[k]?.getD [] ∈ e.ord := by
  have : k < e.ord.length := by rw [hs.ol]; exact hk
  rw [List.getElem?_eq_getElem this, Option.getD_some]; exact List.getElem_mem _
 exact ((hs.xok (.inr trivial)).oin _ hm).1.num hi
theorem S9 (hp : POk p) {x y : Nat} : A1 (S7 p e) x y = true ↔ Eco p e x y := by
 rw [S7, E4 (seenR0_ok hl (Ai3 hl hm hs))]
 exact TG.congr fun a b => Xp hl hp hs
theorem Ta (hp : POk p) (al : Sg p e) : N7 (U5 p e) (S7 p e) = true ↔ Rc p e := by
 unfold N7 Rc
 rw [Bool.or_eq_true, Gm]
 refine or_congr (exists_congr fun a => L3 hl hm hs al) ?_
 simp only [List.any_eq_true, List.mem_range, Bool.and_eq_true]
 have ae : RelOk 16 (U5 p e) := (unionR_ok (thrR_ok hl) (unionR_ok (meetsR_ok hl) (turnsR_ok (S8 hl hm hs)))).close
 constructor
 ·rintro ⟨a, _, b, _, h1, h2⟩
  exact ⟨a, b, (L3 hl hm hs al).1 h1, (S9 hl hm hs hp).1 h2⟩
 ·rintro ⟨a, b, h1, h2⟩
  have cT := (L3 hl hm hs al).2 h1
  have := ae.has cT
  exact ⟨a, this.1, b, this.2, cT, (S9 hl hm hs hp).2 h2⟩
theorem P6 : Bp (Aw1 p e) = true ↔ Gp p e := by
 rw [Gm]; exact exists_congr fun a => Ae1 hl hm hs
end
end Go.EV

namespace Go.EV
open Go.Proofs
abbrev vw (n : Nat) : Value := .int .u64 n
theorem Wp {x : Nat} (h : x < 2 ^ 64) : BitVec.ofInt IntKind.u64.bits (x : Int) = (BitVec.ofNat 64 x : BitVec IntKind.u64.bits) := BitVec.ofInt_natCast 64 x
theorem Bd {x : Nat} (h : x < 2 ^ 64) : IntKind.u64.wrap (x : Int) = x := by
 have e : (2 : Int) ^ IntKind.u64.bits = 18446744073709551616 := rfl
 have e3 : IntKind.u64.signed = false := rfl
 have h' : x < 18446744073709551616 := h
 simp only [IntKind.wrap, e, e3, Bool.false_and]
 simp only [Bool.false_eq_true, if_false]
 omega
theorem Wq {x y : Nat} (hx : x < 2 ^ 64) (hy : y < 2 ^ 64) : IntKind.u64.wrap ((BitVec.ofInt IntKind.u64.bits (x : Int) ||| BitVec.ofInt IntKind.u64.bits (y : Int)).toNat : Int) = ((x ||| y : Nat) : Int) := by
 rw [Wp hx, Wp hy]
 have e : (BitVec.ofNat 64 x ||| BitVec.ofNat 64 y).toNat = x ||| y := by
  rw [BitVec.toNat_or, BitVec.toNat_ofNat, BitVec.toNat_ofNat, Nat.mod_eq_of_lt hx, Nat.mod_eq_of_lt hy]
 show IntKind.u64.wrap ((BitVec.ofNat 64 x ||| BitVec.ofNat 64 y).toNat : Int) = _
 rw [e]
 exact Bd (Nat.or_lt_two_pow hx hy)
theorem Gw {b : Nat} (hb : b < 64) : IntKind.u64.wrap (1 * 2 ^ min b IntKind.u64.bits) = ((2 ^ b : Nat) : Int) := by
 rw [show IntKind.u64.bits = 64 from rfl, Nat.min_eq_left (by omega), Int.one_mul]
 rw [show ((2 : Int) ^ b) = ((2 ^ b : Nat) : Int) from by simp]
 exact Bd (Nat.pow_lt_pow_right (by decide) hb)
theorem Gx {x b : Nat} (hx : x < 2 ^ 64) (hb : b < 64) : IntKind.u64.wrap ((BitVec.ofInt IntKind.u64.bits (x : Int) ||| BitVec.ofInt IntKind.u64.bits (2 ^ b)).toNat : Int) = ((x ||| 2 ^ b : Nat) : Int) := by
 have := Wq (y := 2 ^ b) hx (Nat.pow_lt_pow_right (by decide) hb)
 rwa [show ((2 ^ b : Nat) : Int) = 2 ^ b from by simp] at this
theorem H1 {x b : Nat} (hx : x < 2 ^ 64) (hb : b < 64) : decide (IntKind.u64.wrap ((BitVec.ofInt IntKind.u64.bits ((x : Int).fdiv (2 ^ min b IntKind.u64.bits)) &&& BitVec.ofInt IntKind.u64.bits 1).toNat : Int) = 1) = x.testBit b := by
 have e0 : min b IntKind.u64.bits = b := Nat.min_eq_left (show b ≤ 64 by omega)
 rw [e0]
 have e1 : (x : Int).fdiv (2 ^ b) = ((x / 2 ^ b : Nat) : Int) := by
  rw [Int.fdiv_eq_ediv_of_nonneg _ (by exact_mod_cast Nat.zero_le _)]; simp
 have hd : x / 2 ^ b < 2 ^ 64 := Nat.lt_of_le_of_lt (Nat.div_le_self _ _) hx
 rw [e1, Wp hd]
 have e : (BitVec.ofNat 64 (x / 2 ^ b) &&& BitVec.ofInt 64 1).toNat = (x / 2 ^ b) % 2 := by
  rw [BitVec.toNat_and, BitVec.toNat_ofNat, Nat.mod_eq_of_lt hd]
  show (x / 2 ^ b) &&& 1 = _
  exact Nat.and_one_is_mod _
 show decide (IntKind.u64.wrap ((BitVec.ofNat 64 (x / 2 ^ b) &&& BitVec.ofInt 64 1).toNat : Int) = 1) = _
 rw [e, Bd (by omega)]
 rw [Nat.testBit_eq_decide_div_mod_eq]
 simp only [decide_eq_decide]
 omega
abbrev F7 (r : Rel) : Value := .agg (r.map vw).toArray
section
variable {M : Aa}
theorem Lk (r : Rel) (hr : RelOk 16 r) : Aq Tryz.prog 46 #[F7 r] M (vb (Bp r)) := by
 refine Con.enter Q80_ok (args := [F7 r]) (by simp [Q80]) fun w0 => ?_
 simp only [Q80, A5]
 have tS : (r.map vw).length = 16 := by rw [List.length_map, hr.len]
 have bY := hr.len
 repeat' first
   | refine EV.seq ?_
   | refine EV.block ?_
   | refine rg ?_
   | (with_reducible intro b; try refine nx ?_)
   | exact ⟨⟩
   | fail
 refine EV.loopTo (fun i : Nat => ([(1, pv b 0), (3, vi i)], M, [(b, Cl 95 (r.map vw))])) (fun i => i ≤ 16 ∧ ∀ a, a < i → A1 r a a = false) (fun i => 16 - i) 0 rfl ⟨Nat.zero_le _, fun a ha => absurd ha (Nat.not_lt_zero _)⟩ ?env1 (List.Sublist.refl _) ?_
 case env1 =>
  exact eE
 rintro i ⟨hi, aK⟩ ih
 dsimp only at hi aK ih ⊢
 repeat' first
   | refine EV.seq ?_
   | refine EV.skip ?_
   | refine EV.block ?_
   | refine rg ?_
   | (refine cX (fun h => ?_) (fun h => ?_) <;> try exact Ah h)
   | (refine EV.exit rfl ?_)
   | (refine And.intro (by omega) ?_)
   | exact ⟨⟩
   | fail
 ·have aA : i < 16 := by omega
  obtain ⟨cw, ei⟩ := hr.get aA
  have rY := hr.at (show 16 ≤ 32 by omega) i
  rw [ei] at rY
  have p6 : r[i] < 2 ^ 64 := Nat.lt_of_lt_of_le rY (by decide)
  have ku : IntKind.u64.wrap (i : Int) = (i : Int) := Bd (by omega)
  have hin : ¬ ((i : Int) < 0) := by omega
  have an := H1 (b := i) p6 (by omega)
  have hh : A1 r i i = r[i].testBit i := by simp only [A1, ei]
  repeat' first
    | refine EV.seq ?_
    | refine EV.skip ?_
    | refine EV.inBlock ?_
    | (refine EV.reg ?_; (conv => (arg 2; whnf)); (repeat first | refine nx ?_ | simp only [ku, hin]))
    | (refine Exists.intro _ (And.intro (Ca (f := vw) cw) ?_); (repeat first | refine nx ?_ | simp only [ku, hin]))
    | (refine cX (fun h => ?_) (fun h => ?_) <;> try exact Ah h)
    | fail
  ·have ht : r[i].testBit i = true := by rw [← an]; exact decide_eq_true h
   have : Bp r = true := by
    simp only [Bp, List.any_eq_true, List.mem_range]
    exact ⟨i, cw, by rw [hh, ht]⟩
   (refine rt Q80_ok ?_; try with_reducible exact ⟨⟩)
   rw [this]
  ·have ht : r[i].testBit i = false := by rw [← an]; exact decide_eq_false h
   refine EV.to (ih (i + 1) ⟨by omega, fun a ha => ?_⟩ (by omega)) ?_ (List.Sublist.refl _)
   ·by_cases e : a = i
    ·subst e; rw [hh, ht]
    ·exact aK a (by omega)
   ·exact eE
 ·have : Bp r = false := Sb (i := i) aK (by omega)
  (refine rt Q80_ok ?_; try with_reducible exact ⟨⟩)
  rw [this]
theorem Gy (r t : Rel) (hr : RelOk 16 r) (ht : RelOk 16 t) : Con Tryz.prog 48 #[F7 r, F7 t] M [] fun v _ _ => v = F7 (Eg r t) := by
 refine Con.enter Q92_ok (args := [F7 r, F7 t]) (by simp [Q92]) fun w0 => ?_
 simp only [Q92, A5]
 have bY := hr.len
 have aZ := ht.len
 repeat' first
   | refine EV.seq ?_
   | refine EV.block ?_
   | refine rg ?_
   | (with_reducible intro b; try refine nx ?_)
   | exact ⟨⟩
   | fail
 obtain ⟨b3, rfl⟩ : ∃ x, x = b := ⟨_, rfl⟩
 rename_i b1
 obtain ⟨b2, rfl⟩ : ∃ x, x = b := ⟨_, rfl⟩
 obtain ⟨zs, hzs⟩ : ∃ zs : List Value, zs = [vw 0, vw 0, vw 0, vw 0, vw 0, vw 0, vw 0, vw 0, vw 0, vw 0, vw 0, vw 0, vw 0, vw 0, vw 0, vw 0] := ⟨_, rfl⟩
 have aX : ∀ i, i ≤ 16 → RelOk 16 (Af (Gv t) i r) := fun i hi => loopN_ok (n := 16) (fun i q hi hq => hq.or i (ht.lt i)) i r hi hr
 refine EV.loopTo (fun i : Nat => ([(2, pv b1 0), (3, pv b2 0), (4, pv b3 0), (5, vi i)], M, [(b3, Cl 95 zs), (b2, Cl 95 (t.map vw)), (b1, Cl 95 ((Af (Gv t) i r).map vw))])) (fun i => i ≤ 16) (fun i => 16 - i) 0 rfl (Nat.zero_le _) ?env1 (by subst hzs; exact List.Sublist.refl _) ?_
 case env1 =>
  exact eE
 intro i hi ih
 dsimp only at hi ih ⊢
 repeat' first
   | refine EV.seq ?_
   | refine EV.skip ?_
   | refine EV.block ?_
   | refine rg ?_
   | (refine cX (fun h => ?_) (fun h => ?_) <;> try exact Ah h)
   | (refine EV.exit rfl ?_)
   | exact ⟨⟩
   | fail
 ·have aA : i < 16 := by omega
  have hq := aX i (by omega)
  obtain ⟨cw, e1⟩ := hq.get aA
  obtain ⟨lU, e2⟩ := ht.get aA
  have bP := hq.at (show 16 ≤ 32 by omega) i
  have cv := ht.at (show 16 ≤ 32 by omega) i
  rw [e1] at bP
  rw [e2] at cv
  have ih2 := ih (i + 1) (by omega) (by omega)
  simp only [Af, Gv] at ih2
  generalize Af (Gv t) i r = q at *
  have ai := Wq (show q[i] < 2 ^ 64 from Nat.lt_of_lt_of_le bP (by decide)) (show t[i] < 2 ^ 64 from Nat.lt_of_lt_of_le cv (by decide))
  refine EV.any (t := Bj8) [(b2, Cl 95 (t.map vw)), (b1, Cl 95 (q.map vw))] (List.Sublist.cons _ (List.Sublist.refl _)) ?_
  simp only [Ao, As, Am, Au, reduceIte, Nat.reduceEqDiff]
  repeat' first
    | ((first | refine zo (fun lq aB => ?_) | refine zl ?_ | refine Exists.intro _ (And.intro (Ca (f := vw) cw) ?_) | refine Exists.intro _ (And.intro (Ca (f := vw) lU) ?_) | fail); (repeat first | refine nz ?_ | simp only [ai]))
    | (refine Ec (by first | with_reducible assumption | rfl) (fun tq aE => ?_) (fun tq aE => ?_) <;> (repeat first | refine nz ?_ | simp only [ai]))
    | exact zn
    | (refine And.intro (by omega) ?_)
    | (refine xw ?_; (repeat first | refine nz ?_ | simp only [ai]))
    | fail
  refine ⟨by rw [List.length_map, hq.len]; omega, ?_⟩
  rw [Ar vw q cw]
  repeat' first
    | (refine zl ?_; try refine nz ?_)
    | refine zq (fun lq tq aB aE => ?_)
    | refine zf ?_
    | exact ⟨⟩
    | fail
  repeat' first
    | refine EV.inBlock ?_
    | refine rg ?_
    | exact ⟨⟩
    | fail
  rw [e1, e2] at ih2
  refine EV.to ih2 ?_ (List.Sublist.refl _)
  exact eE
 ·have bM : i = 16 := by omega
  subst bM
  have bQ : (Af (Gv t) 16 r).length = 16 := (aX 16 (Nat.le_refl _)).len
  refine ⟨_, Fd (f := vw) bQ, _, zs, [], _, rfl, by subst hzs; simp, by rw [List.length_map, bQ], fun v hv => by obtain ⟨x, _, rfl⟩ := List.mem_map.1 hv; rfl, ?_⟩
  rw [List.length_map, bQ, show zs.drop 16 = [] by subst hzs; rfl, List.append_nil, List.nil_append]
  (refine rt Q92_ok ?_; try with_reducible exact ⟨⟩)
  exact ⟨_, Fd (f := vw) bQ, rfl⟩
theorem H2 (r : Rel) (hr : RelOk 16 r) : Con Tryz.prog 47 #[F7 r] M [] fun v _ _ => v = F7 (Ch r) := by
 refine Con.enter Q81_ok (args := [F7 r]) (by simp [Q81]) fun w0 => ?_
 simp only [Q81, A5]
 have bY := hr.len
 repeat' first
   | refine EV.seq ?_
   | refine EV.block ?_
   | refine rg ?_
   | (with_reducible intro b; try refine nx ?_)
   | exact ⟨⟩
   | fail
 obtain ⟨b3, rfl⟩ : ∃ x, x = b := ⟨_, rfl⟩
 obtain ⟨b1, rfl⟩ : ∃ x, x = b := ⟨_, rfl⟩
 obtain ⟨zs, hzs⟩ : ∃ zs : List Value, zs = [vw 0, vw 0, vw 0, vw 0, vw 0, vw 0, vw 0, vw 0, vw 0, vw 0, vw 0, vw 0, vw 0, vw 0, vw 0, vw 0] := ⟨_, rfl⟩
 refine EV.loopTo (fun k : Nat => ([(1, pv b1 0), (2, pv b3 0), (3, vi k)], M, [(b3, Cl 95 zs), (b1, Cl 95 ((closeGo r k).map vw))])) (fun k => k ≤ 16) (fun k => 16 - k) 0 rfl (Nat.zero_le _) ?env1 (by subst hzs; exact List.Sublist.refl _) ?_
 case env1 =>
  exact eE
 intro k hk ih
 dsimp only at hk ih ⊢
 have hgo := hr.closeGo k
 repeat' first
   | refine EV.seq ?_
   | refine EV.skip ?_
   | refine EV.block ?_
   | refine rg ?_
   | (refine cX (fun h => ?_) (fun h => ?_) <;> try exact Ah h)
   | (refine EV.exit rfl ?_)
   | exact ⟨⟩
   | fail
 ·have a8 : k < 16 := by omega
  have ihk := ih (k + 1) (by omega) (by omega)
  have bw := fun a => hgo.closeRow k a
  simp only [closeGo, bY] at ihk
  generalize closeGo r k = g at *
  refine EV.loopTo (fun a : Nat => ([(1, pv b1 0), (2, pv b3 0), (3, vi k), (4, vi a)], M, [(b3, Cl 95 zs), (b1, Cl 95 ((closeRow g k a).map vw))])) (fun a => a ≤ 16) (fun a => 16 - a) 0 rfl (Nat.zero_le _) ?env2 (List.Sublist.refl _) ?_
  case env2 =>
   exact eE
  intro a ha ih2
  dsimp only at ha ih2 ⊢
  repeat' first
    | refine EV.seq ?_
    | refine EV.skip ?_
    | refine EV.block ?_
    | refine EV.inBlock ?_
    | refine rg ?_
    | (refine cX (fun h => ?_) (fun h => ?_) <;> try exact Ah h)
    | (refine EV.exit rfl ?_)
    | (refine And.intro (by omega) ?_)
    | exact ⟨⟩
    | fail
  ·have aT : a < 16 := by omega
   have hq := bw a
   obtain ⟨cg, e1⟩ := hq.get aT
   obtain ⟨fi, e2⟩ := hq.get a8
   have bP := hq.at (show 16 ≤ 32 by omega) a
   have cv := hq.at (show 16 ≤ 32 by omega) k
   rw [e1] at bP
   rw [e2] at cv
   have ih3 := ih2 (a + 1) (by omega) (by omega)
   simp only [closeRow] at ih3
   generalize closeRow g k a = q at *
   have cU : q[a] < 2 ^ 64 := Nat.lt_of_lt_of_le bP (by decide)
   have dj : q[k] < 2 ^ 64 := Nat.lt_of_lt_of_le cv (by decide)
   have ai := Wq cU dj
   have an := H1 (b := k) cU (by omega)
   have rZ : IntKind.u64.wrap (k : Int) = (k : Int) := Bd (by omega)
   have jI : ¬ ((k : Int) < 0) := by omega
   repeat' first
     | refine EV.skip ?_
     | refine EV.inBlock ?_
     | (refine EV.reg ?_; (conv => (arg 2; whnf)); (repeat first | refine nx ?_ | simp only [rZ, jI]))
     | (refine Exists.intro _ (And.intro (Ca (f := vw) cg) ?_); (repeat first | refine nx ?_ | simp only [rZ, jI]))
     | (refine cX (fun h => ?_) (fun h => ?_) <;> try exact Ah h)
     | fail
   ·have ht : q[a].testBit k = true := by rw [← an]; exact decide_eq_true h
    refine EV.any (t := Bj5) [(b1, Cl 95 (q.map vw))] (List.Sublist.cons _ (List.Sublist.refl _)) ?_
    simp only [Ao, As, Am, Au, reduceIte, Nat.reduceEqDiff]
    repeat' first
      | ((first | refine zo (fun lq aB => ?_) | refine zl ?_ | refine Exists.intro _ (And.intro (Ca (f := vw) cg) ?_) | refine Exists.intro _ (And.intro (Ca (f := vw) fi) ?_) | fail); (repeat first | refine nz ?_ | simp only [ai]))
      | (refine Ec (by first | with_reducible assumption | rfl) (fun tq aE => ?_) (fun tq aE => ?_) <;> (repeat first | refine nz ?_ | simp only [ai]))
      | exact zn
      | (refine And.intro (by omega) ?_)
      | (refine xw ?_; (repeat first | refine nz ?_ | simp only [ai]))
      | fail
    refine ⟨by rw [List.length_map, hq.len]; omega, ?_⟩
    rw [Ar vw q cg]
    repeat' first
      | (refine zl ?_; try refine nz ?_)
      | refine zq (fun lq tq aB aE => ?_)
      | refine zf ?_
      | exact ⟨⟩
      | fail
    repeat' first
      | refine EV.inBlock ?_
      | refine rg ?_
      | exact ⟨⟩
      | fail
    rw [if_pos (show A1 q a k = true by simp only [A1, e1]; exact ht), orR, e1, e2] at ih3
    refine EV.to ih3 ?_ (List.Sublist.refl _)
    exact eE
   ·have ht : q[a].testBit k = false := by rw [← an]; exact decide_eq_false h
    rw [if_neg (show ¬ A1 q a k = true by simp only [A1, e1]; rw [ht]; decide)] at ih3
    refine EV.to ih3 ?_ (List.Sublist.refl _)
    exact eE
  ·have dG : a = 16 := by omega
   subst dG
   refine EV.to ihk ?_ (List.Sublist.refl _)
   exact eE
 ·have dY : k = 16 := by omega
  subst dY
  have aO : Ch r = closeGo r 16 := by rw [Ch, bY]
  rw [aO]
  refine ⟨_, Fd (f := vw) hgo.len, _, zs, [], _, rfl, by subst hzs; simp, by rw [List.length_map, hgo.len], fun v hv => by obtain ⟨x, _, rfl⟩ := List.mem_map.1 hv; rfl, ?_⟩
  rw [List.length_map, hgo.len, show zs.drop 16 = [] by subst hzs; rfl, List.append_nil, List.nil_append]
  (refine rt Q81_ok ?_; try with_reducible exact ⟨⟩)
  exact ⟨_, Fd (f := vw) hgo.len, rfl⟩
end
end Go.EV

namespace Go.EV
open Go.Proofs
abbrev Hf (e : Ev) : List Value := [vi e.th, vi e.op.kind, vi e.op.loc, vi e.op.v, vi e.op.w, vi e.op.ord]
def En (o : OpV) : Bool := decide (o.kind = 0) || (decide (2 ≤ o.kind) && decide (o.kind ≤ 4))
def Cw (o : OpV) : Bool := decide (1 ≤ o.kind) && decide (o.kind ≤ 4)
def N8 (o : OpV) : Bool := decide (o.kind = 5) && decide (o.ord = 4)
theorem H3 {e : Ev} (h : 0 ≤ e.op.kind ∧ e.op.kind ≤ 5) : En e.op = e.reads := by
 unfold En Ev.reads
 rw [Bool.eq_iff_iff]
 simp only [Bool.or_eq_true, Bool.and_eq_true, decide_eq_true_eq]
 omega
section
variable {M : Aa}
theorem I6 (o : OpV) : Aq Tryz.prog 56 #[vop o] M (vb (En o)) := by
 refine Con.enter Q86_ok (args := [vop o]) (by simp [Q86]) fun w0 => ?_
 simp only [Q86, A5]
 repeat' first
   | refine EV.seq ?_
   | refine rg ?_
   | with_reducible assumption
   | (refine A0.merge ?_ (fun hc K' hK => ?_) ?_; rotate_left)
   | refine rt Q86_ok ?_
   | ((first | with_reducible intro b | refine xiA rfl ?_ | fail); try refine nx ?_)
   | exact ⟨⟩
   | fail
 all_goals simp_all [En]
theorem Ll (o : OpV) : Aq Tryz.prog 93 #[vop o] M (vb (Cw o)) := by
 refine Con.enter Q94_ok (args := [vop o]) (by simp [Q94]) fun w0 => ?_
 simp only [Q94, A5]
 repeat' first
   | refine EV.seq ?_
   | refine rg ?_
   | with_reducible assumption
   | (refine A0.merge ?_ (fun hc K' hK => ?_) ?_; rotate_left)
   | refine rt Q94_ok ?_
   | ((first | with_reducible intro b | refine xiA rfl ?_ | fail); try refine nx ?_)
   | exact ⟨⟩
   | fail
 all_goals simp_all [Cw]
theorem N9 (o : OpV) : Aq Tryz.prog 94 #[vop o] M (vb (N8 o)) := by
 refine Con.enter Q82_ok (args := [vop o]) (by simp [Q82]) fun w0 => ?_
 simp only [Q82, A5]
 repeat' first
   | refine EV.seq ?_
   | refine rg ?_
   | with_reducible assumption
   | (refine A0.merge ?_ (fun hc K' hK => ?_) ?_; rotate_left)
   | refine rt Q82_ok ?_
   | ((first | with_reducible intro b | refine xiA rfl ?_ | fail); try refine nx ?_)
   | exact ⟨⟩
   | fail
 all_goals simp_all [N8]
theorem thrIn_ok {p : List Ev} {a d : Nat} {r : Rel} (h : RelOk 16 r) (hd : a + 1 + d < 16) : RelOk 16 (S1 p a d r) := putIf_ok h a hd
theorem J4 (p : List Ev) (s : Value) (hs : Sl M 6 Hf s p) (hp : p.length ≤ 16) : Con Tryz.prog 49 #[s] M [] fun v _ _ => v = F7 (Xo p) := by
 obtain ⟨pa, pc, rfl, am⟩ := hs
 refine Con.enter Q90_ok (args := [.slice pa p.length pc]) (by simp [Q90]) fun w0 => ?_
 simp only [Q90, A5]
 repeat' first
   | refine EV.seq ?_
   | refine EV.block ?_
   | refine rg ?_
   | (with_reducible intro b; try refine nx ?_)
   | exact ⟨⟩
   | fail
 obtain ⟨b3, rfl⟩ : ∃ x, x = b := ⟨_, rfl⟩
 obtain ⟨b2, rfl⟩ : ∃ x, x = b := ⟨_, rfl⟩
 obtain ⟨zs, hzs⟩ : ∃ zs : List Value, zs = [vw 0, vw 0, vw 0, vw 0, vw 0, vw 0, vw 0, vw 0, vw 0, vw 0, vw 0, vw 0, vw 0, vw 0, vw 0, vw 0] := ⟨_, rfl⟩
 have tT : RelOk 16 Br := ⟨rfl, fun a => by simp only [Br, List.getElem?_replicate]; split <;> simp⟩
 have ac : ∀ a, a ≤ p.length → RelOk 16 (Af (It p) a Br) := fun a ha => loopN_ok (n := p.length) (fun i q hi hq => loopN_ok (n := p.length - (i + 1)) (fun d q hd hq => thrIn_ok hq (by omega)) _ _ (Nat.le_refl _) hq) a _ ha tT
 refine EV.loopTo (fun a : Nat => ([(0, .slice pa p.length pc), (2, pv b2 0), (3, pv b3 0), (4, vi a)], M, [(b3, Cl 95 ((Af (It p) a Br).map vw)), (b2, Cl 95 zs)])) (fun a => a ≤ p.length) (fun a => p.length - a) 0 rfl (Nat.zero_le _) ?env1 (by subst hzs; exact List.Sublist.refl _) ?_
 case env1 =>
  exact eE
 intro a ha ih
 dsimp only at ha ih ⊢
 repeat' first
   | refine EV.seq ?_
   | refine EV.skip ?_
   | refine EV.block ?_
   | refine rg ?_
   | (refine cX (fun h => ?_) (fun h => ?_) <;> try exact Ah h)
   | (refine EV.exit rfl ?_)
   | exact ⟨⟩
   | fail
 ·have aT : a < p.length := by omega
  have kO := ac a ha
  have ihk := ih (a + 1) (by omega) (by omega)
  simp only [Af] at ihk
  obtain ⟨pb, po, rfl, hat⟩ := Sl.at (sz := 6) (enc := Hf) (fun _ => rfl) (by decide) am (by omega)
  have jF := hat a aT
  rw [← B8 aT] at jF
  have jr := jF.pt 0 1 (by omega) rfl
  generalize Af (It p) a Br = q0 at *
  refine EV.loopTo (fun d : Nat => ([(0, .slice (some ⟨pb, po, none⟩) p.length pc), (2, pv b2 0), (3, pv b3 0), (4, vi a), (5, vi (a + 1 + d : Nat))], M, [(b3, Cl 95 ((Af (S1 p a) d q0).map vw)), (b2, Cl 95 zs)])) (fun d => d ≤ p.length - (a + 1)) (fun d => p.length - (a + 1) - d) 0 rfl (Nat.zero_le _) ?env2 (List.Sublist.refl _) ?_
  case env2 =>
   exact eE
  intro d hd ih2
  dsimp only at hd ih2 ⊢
  obtain ⟨x, hx⟩ : ∃ x, x = a + 1 + d := ⟨_, rfl⟩
  rw [← hx]
  repeat' first
    | refine EV.seq ?_
    | refine EV.skip ?_
    | refine EV.block ?_
    | refine EV.inBlock ?_
    | refine rg ?_
    | (refine cX (fun h => ?_) (fun h => ?_) <;> try exact Ah h)
    | (refine EV.exit rfl ?_)
    | exact ⟨⟩
    | fail
  ·have fE : x < p.length := by omega
   have hq : RelOk 16 (Af (S1 p a) d q0) := loopN_ok (n := p.length - (a + 1)) (fun d q hd hq => thrIn_ok hq (by omega)) d _ hd kO
   have ih3 := ih2 (d + 1) (by omega) (by omega)
   simp only [Af, S1] at ih3
   generalize Af (S1 p a) d q0 = q at *
   rw [← hx, show a + 1 + (d + 1) = x + 1 by omega] at ih3
   have r5 := hat x fE
   rw [← B8 fE] at r5
   have p7 := r5.pt 0 1 (by omega) rfl
   simp only [Nat.add_zero] at jr p7
   obtain ⟨cg, e1⟩ := hq.get (show a < 16 by omega)
   have bP := hq.at (show 16 ≤ 32 by omega) a
   rw [e1] at bP
   have cU : q[a] < 2 ^ 64 := Nat.lt_of_lt_of_le bP (by decide)
   have eO : IntKind.u64.wrap (x : Int) = (x : Int) := Bd (by omega)
   have di : ¬ ((x : Int) < 0) := by omega
   have bL := Gw (show x < 64 by omega)
   have ai := Gx (b := x) cU (by omega)
   refine EV.any (t := Bk0) [] (List.nil_sublist _) ?_
   simp only [Ao, As, Am, Au, reduceIte, Nat.reduceEqDiff]
   repeat' first
     | ((first | refine zo (fun lq aB => ?_) | refine zl ?_ | fail); try refine nz ?_)
     | refine zf ?_
     | (refine And.intro (by omega) ?_)
     | (refine xm ?_; try refine nz ?_)
     | exact ⟨⟩
     | fail
   repeat' first
     | refine EV.skip ?_
     | refine EV.inBlock ?_
     | (refine EV.reg ?_; (conv => (arg 2; whnf)); (repeat first | refine nx ?_ | simp only [eO, di, bL, ai]))
     | (refine Exists.intro _ (And.intro (Ca (f := vw) cg) ?_); (repeat first | refine nx ?_ | simp only [eO, di, bL, ai]))
     | (refine cX (fun h => ?_) (fun h => ?_) <;> try exact Ah h)
     | (refine And.intro (by omega) ?_)
     | (refine xw ?_; (repeat first | refine nx ?_ | simp only [eO, di, bL, ai]))
     | fail
   ·refine ⟨by rw [List.length_map, hq.len]; omega, ?_⟩
    rw [Ar vw q cg]
    repeat' first
      | refine EV.inBlock ?_
      | refine rg ?_
      | exact ⟨⟩
      | fail
    rw [F5, if_pos (decide_eq_true h), Lv, orR, e1] at ih3
    refine EV.to ih3 ?_ (List.Sublist.refl _)
    exact eE
   ·rw [F5, if_neg (by rw [decide_eq_false h]; decide)] at ih3
    refine EV.to ih3 ?_ (List.Sublist.refl _)
    exact eE
  ·have iB : d = p.length - (a + 1) := by omega
   subst iB
   refine EV.to ihk ?_ (List.Sublist.refl _)
   exact eE
 ·have dG : a = p.length := by omega
  subst dG
  have bQ := (ac p.length (Nat.le_refl _)).len
  have aO : Xo p = Af (It p) p.length Br := rfl
  rw [aO]
  refine ⟨_, Fd (f := vw) bQ, _, zs, [(b3, Cl 95 ((Af (It p) p.length Br).map vw))], _, rfl, by subst hzs; simp, by rw [List.length_map, bQ], fun v hv => by obtain ⟨x, _, rfl⟩ := List.mem_map.1 hv; rfl, ?_⟩
  rw [List.length_map, bQ, show zs.drop 16 = [] by subst hzs; rfl, List.append_nil]
  simp only [List.cons_append, List.nil_append]
  (refine rt Q90_ok ?_; try with_reducible exact ⟨⟩)
  exact ⟨_, Bv (T := 95) (cs := (Af (It p) p.length Br).map vw) (by simp) (by rw [List.drop_zero, List.take_of_length_le (by rw [List.length_map, bQ]; exact Nat.le_refl _)]) (by rw [List.length_map, bQ]; exact Nat.le_refl _), rfl⟩
end
end Go.EV

namespace Go.EV
open Go.Proofs
theorem U6 {l m : List Int} (hl : l.Nodup) (hm : m.Nodup) (h : ∀ x, x ∈ l ↔ x ∈ m) : l.Perm m := (List.perm_ext_iff_of_nodup hl hm).2 h
structure Emb (p q : List Ev) (ι j : Nat → Nat) (σ : Int → Int) : Prop where
 lt : ∀ a, a < p.length → ι a < q.length
 inv : ∀ a, a < p.length → j (ι a) = a
 back : ∀ b, b < q.length → (evAt q b).op.kind ≠ 5 → j b < p.length ∧ ι (j b) = b
 sb : ∀ a b, a < b → b < p.length → (evAt p a).th = (evAt p b).th → ι a < ι b ∧ (evAt q (ι a)).th = (evAt q (ι b)).th
 kind : ∀ a, a < p.length → (evAt q (ι a)).op.kind = (evAt p a).op.kind
 v : ∀ a, a < p.length → (evAt q (ι a)).op.v = (evAt p a).op.v
 w : ∀ a, a < p.length → (evAt q (ι a)).op.w = (evAt p a).op.w
 loc : ∀ a, a < p.length → (evAt p a).op.kind ≠ 5 → (evAt q (ι a)).op.loc = σ (evAt p a).op.loc
 rel : ∀ a, a < p.length → (evAt p a).rel = true → (evAt q (ι a)).rel = true
 acq : ∀ a, a < p.length → (evAt p a).acq = true → (evAt q (ι a)).acq = true
 strong : ∀ a, a < p.length → (evAt p a).strong = true → (evAt q (ι a)).strong = true
 σ3 : ∀ k, 0 ≤ k → k < 3 → 0 ≤ σ k ∧ σ k < 3
 σi : ∀ k k', 0 ≤ k → k < 3 → 0 ≤ k' → k' < 3 → σ k = σ k' → k = k'
theorem I7 {p : List Ev} {x : Int} : x ∈ Bk p ↔ ∃ i : Nat, x = i ∧ i < p.length ∧ (evAt p i).strong = true := by
 rw [Bk, Dm]
 constructor
 ·rintro ⟨i, h1, h2, h3⟩; exact ⟨i, h3, h1, h2⟩
 ·rintro ⟨i, h3, h1, h2⟩; exact ⟨i, h1, h2, h3⟩
section
variable {p q : List Ev} {ι j : Nat → Nat} {σ : Int → Int} {e : Exec}
section
variable (H : Emb p q ι j σ) (hp : POk p) (hq : POk q) (p8 : Lw q) (hs : Shape q e)
include H hs
include hp in
include hp in
omit hs in
omit hs in
omit hs in
include p8 in
omit H hs in
include hp in
include hp p8 in
include hp in
include hp hq p8 in
omit H hs in
include hp in
end
end
end Go.EV

namespace Go.EV
open Go.Proofs
def LimS.wk (s : LimS) (k : Int) : Int := if k = 0 then s.w0 else if k = 1 then s.w1 else s.w2
theorem Ab2.nodup {p : List Ev} {l : List (List Int)} (h : Ab2 p l) : l.Nodup := by
 rw [List.nodup_iff_pairwise_ne]
 exact h.1.imp fun {a b} h e => by rw [e, Ef] at h; omega
end Go.EV

namespace Go.EV
open Go.Proofs
end Go.EV

namespace Go.EV
open Go.Proofs
theorem F8 {ts : List (List OpV)} (h : A7 ts = 0) : (Al ts).length ≤ 14 := by
 obtain ⟨hl, hn, hall⟩ := Cz h
 have az : (ts.map Ds).flatten = Ds ts.flatten := by simp [Ds, List.flatMap_def, List.map_flatten, List.flatten_flatten, List.map_map]; rfl
 have h1 := (Wf ts.flatten (List.all_eq_true.1 hall)).1
 simp only [Fk, Bool.and_eq_true, decide_eq_true_eq] at hl
 have : (Al ts).length = (Ds ts.flatten).length := by rw [Al, Hk, az]
 omega
end Go.EV

namespace Go.EV
open Go.Proofs
section
variable {M : Aa}
set_option maxHeartbeats 1000000 in
theorem Eh (ts : List (List OpV)) (s : Value) (hs : Em M 5 Bc s ts) (aY : A7 ts = 0) :
  Con Tryz.prog 39 #[.agg #[s]] M [] fun v M' _ => Sl M' 6 Hf v (Al ts) := by
 have aI := hs
 obtain ⟨a, c, vs, rfl, hl, aH, hk⟩ := hs
 have oF := Hi aY
 have gA := F8 aY
 refine Con.enter Q74_ok (args := [.agg #[.slice a ts.length c]]) (by simp [Q74]) fun w0 => ?_
 simp only [Q74, A5]
 repeat' first
   | refine EV.seq ?_
   | refine rg ?_
   | ((first | with_reducible intro b | refine xrA rfl ?_ | fail); try refine nx ?_)
   | exact ⟨⟩
   | fail
 refine Con.callS (G1 := []) (S0 ts _ aI (by omega) (by omega)) ?_
 rintro v M1 G1 ap (⟨hne, rfl⟩ | ⟨_, s', rfl, bo⟩)
 ·exact absurd aY hne
 have iM := bo
 obtain ⟨a1, c1, vs1, rfl, gI, eu, cG⟩ := iM
 (refine nx ?_; try with_reducible exact ⟨⟩)
 repeat' first
   | refine EV.seq ?_
   | refine EV.block ?_
   | refine rg ?_
   | (with_reducible intro b; try refine nx ?_)
   | (refine xw ?_; refine nx ?_)
   | exact ⟨⟩
   | fail
 refine EV.keepS [] ?_
 generalize hR : M1.add _ = N
 have aC : M1.le N := hR ▸ Aa.le_add _ _
 have dH : rd N b 0 1 [.slice a1 (ts.map Ds).length c1] := hR ▸ Ap 0 rfl rfl (by simp)
 clear hR
 have sN : (ts.map Ds).flatten.length ≤ 14 := by rw [← Hk _ 0]; exact gA
 have fH : Al ts = Co 0 (ts.map Ds) := rfl
 rw [fH]
 have sO : (ts.map Ds).length = ts.length := by simp
 have dD := eu.mono aC
 have cD : ∀ i (h : i < vs1.length) (h' : i < (ts.map Ds).length), Sl N 5 Bc vs1[i] (ts.map Ds)[i] := fun i h h' => (cG i h h').mono aC
 generalize ts.map Ds = q at *
 clear bo eu cG aI aH hk
 refine EV.loopTo (fun x : Nat × Vec => ([(3, pv b 0), (5, osv x.2 (Co 0 (q.take x.1)).length), (6, vi x.1)], N, osg 103 x.2 ((Co 0 (q.take x.1)).flatMap Hf)))
  (fun x => x.1 ≤ q.length ∧ E6 6 x.2 (Co 0 (q.take x.1)).length ((Co 0 (q.take x.1)).flatMap Hf)) (fun x => q.length - x.1) (0, none) rfl ⟨Nat.zero_le _, rfl, rfl⟩ ?env1 (List.nil_sublist _) ?_
 case env1 =>
  exact eE
 rintro ⟨i, ov⟩ ⟨hi, aP⟩ ih
 dsimp only at hi aP ih ⊢
 refine EV.seq ?_
 refine EV.seq ?_
 repeat' first
   | refine EV.skip ?_
   | refine rg ?_
   | (refine cX (fun h => ?_) (fun h => ?_) <;> try exact Ah h)
   | (refine EV.exit rfl ?_)
   | (refine xn ?_; try refine nx ?_)
   | exact ⟨⟩
   | fail
 ·have aA : i < q.length := by omega
  obtain ⟨pb, po, rfl, hat⟩ := Em.at dD gI cD (by omega)
  obtain ⟨a', c', aW, aS⟩ := hat i aA
  simp only [Nat.mul_one] at aW
  have aG : ∀ j, (C5 q i j).length ≤ q.flatten.length := fun j => Kc aA j
  have lX : q[i].length ≤ q.flatten.length := Ml aA
  repeat' first
    | refine EV.seq ?_
    | refine EV.block ?_
    | refine rg ?_
    | exact ⟨⟩
    | fail
  refine EV.loopTo (fun x : Nat × Vec => ([(3, pv b 0), (5, osv x.2 (C5 q i x.1).length), (6, vi i), (7, vi x.1)], N,
    osg 103 x.2 ((C5 q i x.1).flatMap Hf)))
   (fun x => x.1 ≤ q[i].length ∧ E6 6 x.2 (C5 q i x.1).length ((C5 q i x.1).flatMap Hf))
   (fun x => q[i].length - x.1) (0, ov) rfl ⟨Nat.zero_le _, by rw [D2]; exact aP⟩ ?env2 (by rw [D2]; exact List.Sublist.refl _) ?_
  case env2 =>
   repeat' first
    | (refine List.forall_mem_cons.2 (And.intro ?_ ?_))
    | (intro _ b8; cases b8; done)
    | rfl
    | (simp (disch := omega) only [Am, Au, reduceIte, Nat.reduceEqDiff, Option.some.injEq, Value.int.injEq, w64, Int.natCast_add, Int.natCast_one, Int.cast_ofNat_Int, Int.natCast_zero, D2]; done)
    | fail
  rintro ⟨j, o1⟩ ⟨hj, bF⟩ ih2
  dsimp only at hj bF ih2 ⊢
  refine EV.seq ?_
  refine EV.seq ?_
  repeat' first
    | refine EV.skip ?_
    | refine EV.inBlock ?_
    | refine rg ?_
    | (refine cX (fun h => ?_) (fun h => ?_) <;> try exact Ah h)
    | (refine EV.exit rfl ?_)
    | (refine And.intro (by omega) ?_)
    | (refine xn ?_; try refine nx ?_)
    | exact ⟨⟩
    | fail
  ·have aM : j < q[i].length := by omega
   have lY := aG j
   obtain ⟨qb, qo, rfl, aL⟩ := Sl.at (enc := Bc) (fun _ => rfl) (by omega) aS (by omega)
   have cu := aL j aM
   repeat' first
     | refine EV.seq ?_
     | refine EV.block ?_
     | refine rg ?_
     | (with_reducible intro b; try refine nx ?_)
     | (refine And.intro (by omega) ?_)
     | ((first | refine xm ?_ | refine xn ?_ | fail); try refine nx ?_)
     | exact ⟨⟩
     | fail
   refine ⟨Hf ⟨q[i][j], i⟩, Or.inr ⟨_, 0, rfl, Ap 0 rfl rfl (by simp)⟩, by simp [B2, Ct, Value.oneCell'], Or.inl ⟨o1, _, rfl, _, bF, _, Cc [[_], osg 103 o1 _] 1 (by simp), ?_, ?_, ?_⟩⟩
   ·simp only [maxLen]; omega
   ·omega
   intro o2 bD _
   simp only [List.eraseIdx_cons_succ, List.eraseIdx_cons_zero, List.getElem_cons_succ, List.getElem_cons_zero, List.insertIdx_zero, List.insertIdx_succ_cons, Dy, Dx, Dw, List.nil_append, List.cons_append, List.append_assoc, List.append_nil]
   repeat' first
     | refine EV.inBlock ?_
     | refine rg ?_
     | exact ⟨⟩
     | fail
   have e := Mh aA aM
   have ih3 := ih2 (j + 1, o2) ⟨by dsimp only; omega, by rw [e, List.length_append, List.flatMap_append]; exact bD⟩ (by dsimp only; omega)
   dsimp only at ih3
   rw [e, List.length_append, List.flatMap_append] at ih3
   refine EV.to ih3 ?_ eS
   exact eE
  ·have aM : j = q[i].length := by omega
   subst aM
   rw [Kb aA] at bF ⊢
   repeat' first
     | fail
   refine EV.to (ih (i + 1, o1) ⟨by dsimp only; omega, bF⟩ (by dsimp only; omega)) ?_ eS
   exact eE
 ·have bk : i = q.length := by omega
  subst bk
  rw [List.take_length] at aP ⊢
  repeat' first
    | refine EV.seq ?_
    | refine rg ?_
    | exact ⟨⟩
    | fail
  rw [← List.append_nil (osg _ _ _)]
  refine EV.freeze ?_
  (refine rt Q74_ok ?_; try with_reducible exact ⟨⟩)
  exact ⟨_, _, rfl, D9 aP (fun p hp => hp)⟩
theorem U7 (ts : List (List OpV)) (s : Value) (hs : Em M 5 Bc s ts) (aY : A7 ts = 0) :
  Con Tryz.prog 28 #[.agg #[s]] M [] fun v _ _ => v = vi (Al ts).length := by
 have aI := hs
 obtain ⟨a, c, vs, rfl, hl, aH, hk⟩ := hs
 refine Con.enter Q73_ok (args := [.agg #[.slice a ts.length c]]) (by simp [Q73]) fun w0 => ?_
 simp only [Q73, A5]
 repeat' first
   | refine EV.seq ?_
   | refine rg ?_
   | ((first | with_reducible intro b | refine xrA rfl ?_ | fail); try refine nx ?_)
   | exact ⟨⟩
   | fail
 refine Con.callS (G1 := []) (Eh ts _ aI aY) ?_
 rintro v M1 G1 ap ⟨a1, c1, rfl, aW⟩
 (refine nx ?_; try with_reducible exact ⟨⟩)
 repeat' first
   | fail
 (refine rt Q73_ok ?_; try with_reducible exact ⟨⟩)
end
end Go.EV

namespace Go.EV
open Go.Proofs
section
variable {M : Aa}
theorem P7 (p : List Ev) (s : Value) (hs : Sl M 6 Hf s p) (hp : p.length ≤ 16) (e : Exec) (v : Value) (hv : IsX M v e) (az : e.frm.length = p.length) (cl : ∀ i, i < p.length → Ae e i < p.length) : Con Tryz.prog 50 #[s, v] M [] fun u _ _ => u = F7 (I5 p e) := by
 obtain ⟨pa, pc, rfl, am⟩ := hs
 obtain ⟨f, d, o, n, rfl, ⟨fa, fc, rfl, bU⟩, ⟨da, dc, rfl, _⟩, ⟨oa, oc, ovs, rfl, _, _, _⟩, ⟨na, nc, rfl, _⟩⟩ := hv
 refine Con.enter Q83_ok (args := [.slice pa p.length pc, .agg #[.slice fa e.frm.length fc, .slice da e.dn.length dc, .slice oa e.ord.length oc, .slice na e.fen.length nc]]) (by simp [Q83]) fun w0 => ?_
 simp only [Q83, A5]
 repeat' first
   | refine EV.seq ?_
   | refine EV.block ?_
   | refine rg ?_
   | (with_reducible intro b; try refine nx ?_)
   | exact ⟨⟩
   | fail
 obtain ⟨b3, rfl⟩ : ∃ x, x = b := ⟨_, rfl⟩
 obtain ⟨b2, rfl⟩ : ∃ x, x = b := ⟨_, rfl⟩
 obtain ⟨xb, rfl⟩ : ∃ x, x = b := ⟨_, rfl⟩
 obtain ⟨zs, hzs⟩ : ∃ zs : List Value, zs = [vw 0, vw 0, vw 0, vw 0, vw 0, vw 0, vw 0, vw 0, vw 0, vw 0, vw 0, vw 0, vw 0, vw 0, vw 0, vw 0] := ⟨_, rfl⟩
 have ac : ∀ a, a ≤ p.length → RelOk 16 (Af (Iu e) a Br) := fun a ha => loopN_ok (n := p.length) (fun i q hi hq => putIf_ok hq _ (by omega)) a _ ha zero16_ok
 refine EV.frz [(xb, Cl 37 [.slice fa e.frm.length fc, .slice da e.dn.length dc, .slice oa e.ord.length oc, .slice na e.fen.length nc])] ?_
 generalize hR : M.add _ = N
 have aC : M.le N := hR ▸ Aa.le_add _ _
 have au : rd N xb 0 4 [.slice fa e.frm.length fc, .slice da e.dn.length dc, .slice oa e.ord.length oc, .slice na e.fen.length nc] := hR ▸ Ap 0 rfl rfl (by simp)
 clear hR
 have nI := au.pt 0 1 (by omega) rfl
 simp only [Nat.zero_add] at nI
 refine EV.loopTo (fun a : Nat => ([(0, .slice pa p.length pc), (3, pv xb 0), (4, pv b2 0), (5, pv b3 0), (6, vi a)], N, [(b3, Cl 95 ((Af (Iu e) a Br).map vw)), (b2, Cl 95 zs)])) (fun a => a ≤ p.length) (fun a => p.length - a) 0 rfl (Nat.zero_le _) ?env1 (by subst hzs; exact List.Sublist.refl _) ?_
 case env1 =>
  exact eE
 intro a ha ih
 dsimp only at ha ih ⊢
 repeat' first
   | refine EV.seq ?_
   | refine EV.skip ?_
   | refine EV.block ?_
   | refine rg ?_
   | (refine cX (fun h => ?_) (fun h => ?_) <;> try exact Ah h)
   | (refine EV.exit rfl ?_)
   | (refine xn ?_; try refine nx ?_)
   | exact ⟨⟩
   | fail
 ·have aT : a < p.length := by omega
  have hq := ac a ha
  have ih3 := ih (a + 1) (by omega) (by omega)
  simp only [Af, Iu] at ih3
  obtain ⟨fb, fo, rfl, hat⟩ := Sl.at (sz := 1) (enc := ei) (fun _ => rfl) (by decide) bU (by omega)
  have dt : rd N fb (fo + a) 1 [vi (Ae e a)] := (B6 hat a (by omega)).mono aC
  have aZ := cl a aT
  generalize Ae e a = w at dt aZ ih3
  generalize Af (Iu e) a Br = q at *
  repeat' first
    | refine EV.skip ?_
    | refine EV.inBlock ?_
    | refine rg ?_
    | (refine cX (fun h => ?_) (fun h => ?_) <;> try exact Ah h)
    | (refine And.intro (by omega) ?_)
    | (refine xm ?_; try refine nx ?_)
    | exact ⟨⟩
    | fail
  ·obtain ⟨u, rfl⟩ : ∃ u : Nat, w = u := ⟨w.toNat, by omega⟩
   obtain ⟨bQ, e1⟩ := hq.get (show u < 16 by omega)
   have bP := hq.at (show 16 ≤ 32 by omega) u
   rw [e1] at bP
   have cU : q[u] < 2 ^ 64 := Nat.lt_of_lt_of_le bP (by decide)
   have eO : IntKind.u64.wrap (a : Int) = (a : Int) := Bd (by omega)
   have di : ¬ ((a : Int) < 0) := by omega
   have bL := Gw (show a < 64 by omega)
   have ai := Gx (b := a) cU (by omega)
   refine EV.any (t := Bk3) [(b3, Cl 95 (q.map vw))] (List.Sublist.cons_cons _ (List.nil_sublist _)) ?_
   simp only [Ao, As, Am, Au, reduceIte, Nat.reduceEqDiff]
   repeat' first
     | ((first | refine zo (fun lq aB => ?_) | refine zl ?_ | refine Exists.intro _ (And.intro (Ca (f := vw) bQ) ?_) | fail); (repeat first | refine nz ?_ | simp only [eO, di, bL, ai]))
     | (refine Ec (by first | with_reducible assumption | rfl) (fun tq aE => ?_) (fun tq aE => ?_) <;> (repeat first | refine nz ?_ | simp only [eO, di, bL, ai]))
     | exact zn
     | (refine And.intro (by omega) ?_)
     | ((first | refine xm ?_ | refine xn ?_ | refine xw ?_ | fail); (repeat first | refine nz ?_ | simp only [eO, di, bL, ai]))
     | fail
   refine ⟨by rw [List.length_map, hq.len]; omega, ?_⟩
   rw [Ar vw q bQ]
   repeat' first
     | (refine zl ?_; try refine nz ?_)
     | refine zq (fun lq tq aB aE => ?_)
     | refine zf ?_
     | exact ⟨⟩
     | fail
   repeat' first
     | refine EV.inBlock ?_
     | refine rg ?_
     | exact ⟨⟩
     | fail
   rw [F5, if_pos (decide_eq_true (by omega)), Int.toNat_natCast, Lv, orR, e1] at ih3
   refine EV.to ih3 ?_ (List.Sublist.refl _)
   exact eE
  ·rw [F5, if_neg (by rw [decide_eq_false (by omega)]; decide)] at ih3
   refine EV.to ih3 ?_ (List.Sublist.refl _)
   exact eE
 ·have dG : a = p.length := by omega
  subst dG
  have bQ := (ac p.length (Nat.le_refl _)).len
  have aO : I5 p e = Af (Iu e) p.length Br := rfl
  rw [aO]
  refine ⟨_, Fd (f := vw) bQ, _, zs, [(b3, Cl 95 ((Af (Iu e) p.length Br).map vw))], _, rfl, by subst hzs; simp, by rw [List.length_map, bQ], fun v hv => by obtain ⟨x, _, rfl⟩ := List.mem_map.1 hv; rfl, ?_⟩
  rw [List.length_map, bQ, show zs.drop 16 = [] by subst hzs; rfl, List.append_nil]
  simp only [List.cons_append, List.nil_append]
  (refine rt Q83_ok ?_; try with_reducible exact ⟨⟩)
  exact ⟨_, Bv (T := 95) (cs := (Af (Iu e) p.length Br).map vw) (by simp) (by rw [List.drop_zero, List.take_of_length_le (by rw [List.length_map, bQ]; exact Nat.le_refl _)]) (by rw [List.length_map, bQ]; exact Nat.le_refl _), rfl⟩
end
end Go.EV

namespace Go.EV
open Go.Proofs
section
variable {M : Aa}
theorem Oa (e : Exec) (v : Value) (hv : IsX M v e) (hl : e.fen.length ≤ 16) (hin : ∀ k, k < e.fen.length → 0 ≤ Ad e.fen k ∧ Ad e.fen k < 16) : Con Tryz.prog 51 #[v] M [] fun u _ _ => u = F7 (F6 e.fen) := by
 obtain ⟨f, d, o, n, rfl, ⟨fa, fc, rfl, _⟩, ⟨da, dc, rfl, _⟩, ⟨oa, oc, ovs, rfl, _, _, _⟩, ⟨na, nc, rfl, iQ⟩⟩ := hv
 refine Con.enter Q91_ok (args := [.agg #[.slice fa e.frm.length fc, .slice da e.dn.length dc, .slice oa e.ord.length oc, .slice na e.fen.length nc]]) (by simp [Q91]) fun w0 => ?_
 simp only [Q91, A5]
 repeat' first
   | refine EV.seq ?_
   | refine EV.block ?_
   | refine rg ?_
   | (with_reducible intro b; try refine nx ?_)
   | exact ⟨⟩
   | fail
 obtain ⟨b3, rfl⟩ : ∃ x, x = b := ⟨_, rfl⟩
 obtain ⟨b2, rfl⟩ : ∃ x, x = b := ⟨_, rfl⟩
 obtain ⟨xb, rfl⟩ : ∃ x, x = b := ⟨_, rfl⟩
 obtain ⟨zs, hzs⟩ : ∃ zs : List Value, zs = [vw 0, vw 0, vw 0, vw 0, vw 0, vw 0, vw 0, vw 0, vw 0, vw 0, vw 0, vw 0, vw 0, vw 0, vw 0, vw 0] := ⟨_, rfl⟩
 have ac : ∀ a, a ≤ e.fen.length → RelOk 16 (Af (Fp e.fen) a Br) := fun a ha => loopN_ok (n := e.fen.length) (fun i q hi hq => loopN_ok (n := e.fen.length - (i + 1)) (fun d q hd hq => hq.put _ (by have := hin (i + 1 + d) (by omega); omega)) _ _ (Nat.le_refl _) hq) a _ ha zero16_ok
 refine EV.frz [(xb, Cl 37 [.slice fa e.frm.length fc, .slice da e.dn.length dc, .slice oa e.ord.length oc, .slice na e.fen.length nc])] ?_
 generalize hR : M.add _ = N
 have aC : M.le N := hR ▸ Aa.le_add _ _
 have au : rd N xb 0 4 [.slice fa e.frm.length fc, .slice da e.dn.length dc, .slice oa e.ord.length oc, .slice na e.fen.length nc] := hR ▸ Ap 0 rfl rfl (by simp)
 clear hR
 have di := au.pt 3 1 (by omega) rfl
 simp only [Nat.zero_add] at di
 refine EV.loopTo (fun a : Nat => ([(1, pv xb 0), (2, pv b2 0), (3, pv b3 0), (4, vi a)], N, [(b3, Cl 95 ((Af (Fp e.fen) a Br).map vw)), (b2, Cl 95 zs)])) (fun a => a ≤ e.fen.length) (fun a => e.fen.length - a) 0 rfl (Nat.zero_le _) ?env1 (by subst hzs; exact List.Sublist.refl _) ?_
 case env1 =>
  exact eE
 intro a ha ih
 dsimp only at ha ih ⊢
 repeat' first
   | refine EV.seq ?_
   | refine EV.skip ?_
   | refine EV.block ?_
   | refine rg ?_
   | (refine cX (fun h => ?_) (fun h => ?_) <;> try exact Ah h)
   | (refine EV.exit rfl ?_)
   | (refine xn ?_; try refine nx ?_)
   | exact ⟨⟩
   | fail
 ·have aT : a < e.fen.length := by omega
  have kO := ac a ha
  have ihk := ih (a + 1) (by omega) (by omega)
  simp only [Af] at ihk
  obtain ⟨fb, fo, rfl, hat⟩ := Sl.at (sz := 1) (enc := ei) (fun _ => rfl) (by decide) iQ (by omega)
  have cm : ∀ k, k < e.fen.length → rd N fb (fo + k) 1 [vi (Ad e.fen k)] := fun k hk => by
   have := (hat k hk).mono aC
   rw [Nat.mul_one] at this
   rw [Ad, List.getElem?_eq_getElem hk]
   exact this
  have dt := cm a aT
  obtain ⟨g0, g1⟩ := hin a aT
  obtain ⟨u, hu⟩ : ∃ u : Nat, Ad e.fen a = u := ⟨(Ad e.fen a).toNat, by omega⟩
  rw [hu] at dt
  generalize Af (Fp e.fen) a Br = q0 at *
  refine EV.loopTo (fun d : Nat => ([(1, pv xb 0), (2, pv b2 0), (3, pv b3 0), (4, vi a), (5, vi (a + 1 + d : Nat))], N, [(b3, Cl 95 ((Af (Nv e.fen a) d q0).map vw)), (b2, Cl 95 zs)])) (fun d => d ≤ e.fen.length - (a + 1)) (fun d => e.fen.length - (a + 1) - d) 0 rfl (Nat.zero_le _) ?env2 (List.Sublist.refl _) ?_
  case env2 =>
   exact eE
  intro d hd ih2
  dsimp only at hd ih2 ⊢
  obtain ⟨x, hx⟩ : ∃ x, x = a + 1 + d := ⟨_, rfl⟩
  rw [← hx]
  repeat' first
    | refine EV.seq ?_
    | refine EV.skip ?_
    | refine EV.block ?_
    | refine EV.inBlock ?_
    | refine rg ?_
    | (refine cX (fun h => ?_) (fun h => ?_) <;> try exact Ah h)
    | (refine EV.exit rfl ?_)
    | (refine xn ?_; try refine nx ?_)
    | exact ⟨⟩
    | fail
  ·have fE : x < e.fen.length := by omega
   have hq : RelOk 16 (Af (Nv e.fen a) d q0) := loopN_ok (n := e.fen.length - (a + 1)) (fun d q hd hq => hq.put _ (by have := hin (a + 1 + d) (by omega); omega)) d _ hd kO
   have ih3 := ih2 (d + 1) (by omega) (by omega)
   simp only [Af, Nv] at ih3
   generalize Af (Nv e.fen a) d q0 = q at *
   rw [← hx, show a + 1 + (d + 1) = x + 1 by omega] at ih3
   have cl := cm x fE
   obtain ⟨g2, g3⟩ := hin x fE
   obtain ⟨w, hw⟩ : ∃ w : Nat, Ad e.fen x = w := ⟨(Ad e.fen x).toNat, by omega⟩
   rw [hw] at cl ih3
   rw [hu] at ih3
   obtain ⟨bQ, e1⟩ := hq.get (show u < 16 by omega)
   have bP := hq.at (show 16 ≤ 32 by omega) u
   rw [e1] at bP
   have cU : q[u] < 2 ^ 64 := Nat.lt_of_lt_of_le bP (by decide)
   have eO : IntKind.u64.wrap (w : Int) = (w : Int) := Bd (by omega)
   have fI : ¬ ((w : Int) < 0) := by omega
   have bL := Gw (show w < 64 by omega)
   have ai := Gx (b := w) cU (by omega)
   refine EV.any (t := Bk5) [(b3, Cl 95 (q.map vw))] (List.Sublist.cons_cons _ (List.nil_sublist _)) ?_
   simp only [Ao, As, Am, Au, reduceIte, Nat.reduceEqDiff]
   repeat' first
     | ((first | refine zo (fun lq aB => ?_) | refine zl ?_ | refine Exists.intro _ (And.intro (Ca (f := vw) bQ) ?_) | fail); (repeat first | refine nz ?_ | simp only [eO, fI, bL, ai]))
     | (refine Ec (by first | with_reducible assumption | rfl) (fun tq aE => ?_) (fun tq aE => ?_) <;> (repeat first | refine nz ?_ | simp only [eO, fI, bL, ai]))
     | exact zn
     | (refine And.intro (by omega) ?_)
     | ((first | refine xm ?_ | refine xn ?_ | refine xw ?_ | fail); (repeat first | refine nz ?_ | simp only [eO, fI, bL, ai]))
     | fail
   refine ⟨by rw [List.length_map, hq.len]; omega, ?_⟩
   rw [Ar vw q bQ]
   repeat' first
     | (refine zl ?_; try refine nz ?_)
     | refine zq (fun lq tq aB aE => ?_)
     | refine zf ?_
     | exact ⟨⟩
     | fail
   repeat' first
     | refine EV.inBlock ?_
     | refine rg ?_
     | exact ⟨⟩
     | fail
   rw [Int.toNat_natCast, Int.toNat_natCast, Lv, orR, e1] at ih3
   refine EV.to ih3 ?_ (List.Sublist.refl _)
   exact eE
  ·have iB : d = e.fen.length - (a + 1) := by omega
   subst iB
   refine EV.to ihk ?_ (List.Sublist.refl _)
   exact eE
 ·have dG : a = e.fen.length := by omega
  subst dG
  have bQ := (ac e.fen.length (Nat.le_refl _)).len
  have aO : F6 e.fen = Af (Fp e.fen) e.fen.length Br := rfl
  rw [aO]
  refine ⟨_, Fd (f := vw) bQ, _, zs, [(b3, Cl 95 ((Af (Fp e.fen) e.fen.length Br).map vw))], _, rfl, by subst hzs; simp, by rw [List.length_map, bQ], fun v hv => by obtain ⟨x, _, rfl⟩ := List.mem_map.1 hv; rfl, ?_⟩
  rw [List.length_map, bQ, show zs.drop 16 = [] by subst hzs; rfl, List.append_nil]
  simp only [List.cons_append, List.nil_append]
  (refine rt Q91_ok ?_; try with_reducible exact ⟨⟩)
  exact ⟨_, Bv (T := 95) (cs := (Af (Fp e.fen) e.fen.length Br).map vw) (by simp) (by rw [List.drop_zero, List.take_of_length_le (by rw [List.length_map, bQ]; exact Nat.le_refl _)]) (by rw [List.length_map, bQ]; exact Nat.le_refl _), rfl⟩
end
end Go.EV

namespace Go.EV
open Go.Proofs
section
variable {M : Aa}
theorem P8 (o : Int) (h : Bs o = true) : Aq Tryz.prog 155 #[vi o] M (vi (At0 o)) := by
 rcases Dk h with rfl | rfl | rfl | rfl | rfl
 all_goals
  refine Con.enter Q64_ok (by simp [Q64]) fun w0 => ?_
  simp only [Q64, A5]
  repeat' first
    | refine EV.seq ?_
    | refine rg ?_
    | refine rt Q64_ok ?_
    | (with_reducible intro b; try refine nx ?_)
    | (refine And.intro (by omega) ?_)
    | (refine xiA rfl ?_; try refine nx ?_)
    | exact ⟨⟩
    | fail
 all_goals rfl
theorem O1 (o : Int) (h : Bs o = true) : Aq Tryz.prog 130 #[vi o] M (vb (Ct3 o)) := by
 refine Con.enter Q65_ok (args := [vi o]) (by simp [Q65]) fun w0 => ?_
 simp only [Q65, A5]
 repeat' first
   | refine EV.seq ?_
   | refine rg ?_
   | (refine Aq.call (P8 _ h) ?_; try refine nx ?_)
   | refine rt Q65_ok ?_
   | exact ⟨⟩
   | fail
 all_goals (rcases Dk h with rfl | rfl | rfl | rfl | rfl <;> (congr 1 <;> decide))
theorem O2 (o : Int) (h : Bs o = true) : Aq Tryz.prog 131 #[vi o] M (vb (Ct2 o)) := by
 refine Con.enter Q63_ok (args := [vi o]) (by simp [Q63]) fun w0 => ?_
 simp only [Q63, A5]
 repeat' first
   | refine EV.seq ?_
   | refine rg ?_
   | (refine Aq.call (P8 _ h) ?_; try refine nx ?_)
   | refine rt Q63_ok ?_
   | exact ⟨⟩
   | fail
 all_goals (rcases Dk h with rfl | rfl | rfl | rfl | rfl <;> (congr 1 <;> decide))
theorem Tb (r o : Rel) (hh : RelOk 16 r) (ho : RelOk 16 o) : Aq Tryz.prog 52 #[F7 r, F7 o] M (vb (N7 r o)) := by
 refine Con.enter Q79_ok (args := [F7 r, F7 o]) (by simp [Q79]) fun w0 => ?_
 simp only [Q79, A5]
 have nk := hh.len
 have hlo := ho.len
 have km := fun G => Lk (M := M.add G) r hh
 repeat' first
   | refine EV.seq ?_
   | refine EV.skip ?_
   | refine EV.block ?_
   | refine rg ?_
   | ((first | refine Aq.call (km _) ?_ | refine Exists.intro _ (And.intro (Fd (f := vw) nk) ?_) | fail); try refine nx ?_)
   | (refine cX (fun h => ?_) (fun h => ?_) <;> try exact Ah h)
   | (with_reducible intro b; try refine nx ?_)
   | exact ⟨⟩
   | fail
 ·(refine rt Q79_ok ?_; try with_reducible exact ⟨⟩)
  simp only [N7, h, Bool.true_or]
 obtain ⟨b3, rfl⟩ : ∃ x, x = b := ⟨_, rfl⟩
 obtain ⟨b2, rfl⟩ : ∃ x, x = b := ⟨_, rfl⟩
 refine EV.loopTo (fun a : Nat => ([(2, pv b2 0), (3, pv b3 0), (4, vb false), (5, vi a)], M, [(b3, Cl 95 (o.map vw)), (b2, Cl 95 (r.map vw))])) (fun a => a ≤ 16 ∧ ∀ x, x < a → ∀ y, y < 16 → (A1 r x y && A1 o y x) = false) (fun a => 16 - a) 0 rfl ⟨Nat.zero_le _, fun x hx => absurd hx (Nat.not_lt_zero _)⟩ ?env1 (List.Sublist.refl _) ?_
 case env1 =>
  exact eE
 rintro a ⟨ha, aK⟩ ih
 dsimp only at ha aK ih ⊢
 repeat' first
   | refine EV.seq ?_
   | refine EV.skip ?_
   | refine EV.block ?_
   | refine rg ?_
   | (refine cX (fun h => ?_) (fun h => ?_) <;> try exact Ah h)
   | (refine EV.exit rfl ?_)
   | exact ⟨⟩
   | fail
 ·have aT : a < 16 := by omega
  refine EV.loopTo (fun c : Nat => ([(2, pv b2 0), (3, pv b3 0), (4, vb false), (5, vi a), (6, vi c)], M, [(b3, Cl 95 (o.map vw)), (b2, Cl 95 (r.map vw))])) (fun c => c ≤ 16 ∧ ∀ y, y < c → (A1 r a y && A1 o y a) = false) (fun c => 16 - c) 0 rfl ⟨Nat.zero_le _, fun x hx => absurd hx (Nat.not_lt_zero _)⟩ ?env2 (List.Sublist.refl _) ?_
  case env2 =>
   exact eE
  rintro c ⟨hc, bc⟩ ih2
  dsimp only at hc bc ih2 ⊢
  repeat' first
    | refine EV.seq ?_
    | refine EV.skip ?_
    | refine EV.block ?_
    | refine EV.inBlock ?_
    | refine rg ?_
    | (refine cX (fun h => ?_) (fun h => ?_) <;> try exact Ah h)
    | (refine EV.exit rfl ?_)
    | (refine And.intro (by omega) ?_)
    | exact ⟨⟩
    | fail
  ·have bq : c < 16 := by omega
   obtain ⟨cg, e1⟩ := hh.get aT
   obtain ⟨aO, e2⟩ := ho.get bq
   have bP := hh.at (show 16 ≤ 32 by omega) a
   have cv := ho.at (show 16 ≤ 32 by omega) c
   rw [e1] at bP
   rw [e2] at cv
   have cU : r[a] < 2 ^ 64 := Nat.lt_of_lt_of_le bP (by decide)
   have dj : o[c] < 2 ^ 64 := Nat.lt_of_lt_of_le cv (by decide)
   have iT := H1 (b := c) cU (by omega)
   have dS := H1 (b := a) dj (by omega)
   have eP : IntKind.u64.wrap (a : Int) = (a : Int) := Bd (by omega)
   have cN : ¬ ((a : Int) < 0) := by omega
   have dW : IntKind.u64.wrap (c : Int) = (c : Int) := Bd (by omega)
   have ke : ¬ ((c : Int) < 0) := by omega
   have g1 : A1 r a c = r[a].testBit c := by simp only [A1, e1]
   have g2 : A1 o c a = o[c].testBit a := by simp only [A1, e2]
   repeat' first
     | refine EV.seq ?_
     | refine EV.skip ?_
     | refine EV.inBlock ?_
     | (refine EV.reg ?_; (conv => (arg 2; whnf)); (repeat first | refine nx ?_ | simp only [eP, cN, dW, ke, iT, dS]))
     | with_reducible assumption
     | ((first | refine Exists.intro _ (And.intro (Ca (f := vw) aO) ?_) | refine Exists.intro _ (And.intro (Ca (f := vw) cg) ?_) | fail); (repeat first | refine nx ?_ | simp only [eP, cN, dW, ke, iT, dS]))
     | (refine A0.merge ?_ (fun hc K' hK => ?_) ?_; rotate_left)
     | (refine cX (fun h => ?_) (fun h => ?_) <;> try exact Ah h)
     | (refine And.intro (by omega) ?_)
     | fail
   ·have : N7 r o = true := by
     simp only [N7, Bool.or_eq_true, List.any_eq_true, List.mem_range]
     exact .inr ⟨a, aT, c, bq, by rw [g1, g2]; simpa using h⟩
    (refine rt Q79_ok ?_; try with_reducible exact ⟨⟩)
    rw [this]
   ·refine EV.to (ih2 (c + 1) ⟨by omega, fun y hy => ?_⟩ (by omega)) ?_ (List.Sublist.refl _)
    ·by_cases e : y = c
     ·subst e; rw [g1, g2, Bool.and_eq_false_iff]; simpa using h
     ·exact bc y (by omega)
    ·exact eE
  ·refine EV.to (ih (a + 1) ⟨by omega, fun x hx => ?_⟩ (by omega)) ?_ (List.Sublist.refl _)
   ·by_cases e : x = a
    ·subst e; intro y hy; exact bc y (by omega)
    ·exact aK x (by omega)
   ·exact eE
 ·have lQ : Bp r = false := by assumption
  have : N7 r o = false := by
   cases hb : N7 r o with
   | false => rfl
   | true =>
    simp only [N7, lQ, Bool.false_or, List.any_eq_true, List.mem_range] at hb
    obtain ⟨x, hx, y, hy, dq⟩ := hb
    rw [aK x (by omega) y hy] at dq; cases dq
  (refine rt Q79_ok ?_; try with_reducible exact ⟨⟩)
  rw [this]
end
end Go.EV

namespace Go.EV
open Go.Proofs
theorem seenJ_ok {e : Exec} {k i a d : Nat} {r : Rel} (h : RelOk 16 r) (hx : 0 ≤ Ad (e.ord[k]?.getD []) (i + 1 + d) ∧ Ad (e.ord[k]?.getD []) (i + 1 + d) < 16) : RelOk 16 (Oz e k i a d r) := h.put _ (by omega)
theorem seenJ2_ok {e : Exec} {k i a b d : Nat} {r : Rel} (h : RelOk 16 r) (hx : 0 ≤ Ad (e.ord[k]?.getD []) (i + 1 + d) ∧ Ad (e.ord[k]?.getD []) (i + 1 + d) < 16) : RelOk 16 (Lj e k i a b d r) := putIf_ok h _ (by omega)
theorem Ae2 {l z : List Value} (h : l.length = 16) (hz : z.length = 16) : l ++ z.drop l.length = l := by
 rw [h, List.drop_of_length_le (by omega), List.append_nil]
section
variable {p : List Ev} {e : Exec} (hp : p.length ≤ 16) (hin : ∀ k, k < 3 → ∀ i, i < (e.ord[k]?.getD []).length → 0 ≤ Ad (e.ord[k]?.getD []) i ∧ Ad (e.ord[k]?.getD []) i < p.length)
include hp hin
theorem loopJ_ok {k : Nat} (hk : k < 3) {i a : Nat} : ∀ d, d ≤ (e.ord[k]?.getD []).length - (i + 1) → ∀ {r : Rel}, RelOk 16 r → RelOk 16 (Af (Oz e k i a) d r) :=
 fun d hd r h => loopN_ok (n := (e.ord[k]?.getD []).length - (i + 1)) (fun d q hd hq => seenJ_ok hq (by have := hin k hk (i + 1 + d) (by omega); omega)) d r hd h
theorem loopJ2_ok {k : Nat} (hk : k < 3) {i a b : Nat} : ∀ d, d ≤ (e.ord[k]?.getD []).length - (i + 1) → ∀ {r : Rel}, RelOk 16 r → RelOk 16 (Af (Lj e k i a b) d r) :=
 fun d hd r h => loopN_ok (n := (e.ord[k]?.getD []).length - (i + 1)) (fun d q hd hq => seenJ2_ok hq (by have := hin k hk (i + 1 + d) (by omega); omega)) d r hd h
theorem loopB_ok {k : Nat} (hk : k < 3) {i a : Nat} (ha : a < 16) : ∀ b, b ≤ p.length → ∀ {r : Rel}, RelOk 16 r → RelOk 16 (Af (Rn p e k i a) b r) :=
 fun b hb r h => loopN_ok (n := p.length) (fun b q hb hq => loopJ2_ok hp hin hk _ (Nat.le_refl _) (putIf_ok hq _ ha)) b r hb h
theorem loopI_ok {k : Nat} (hk : k < 3) : ∀ i, i ≤ (e.ord[k]?.getD []).length → ∀ {r : Rel}, RelOk 16 r → RelOk 16 (Af (Ro p e k) i r) :=
 fun i hi r h => loopN_ok (n := (e.ord[k]?.getD []).length) (fun i q hi hq => loopB_ok hp hin hk (by have := hin k hk i hi; omega) _ (Nat.le_refl _) (loopJ_ok hp hin hk _ (Nat.le_refl _) hq)) i r hi h
theorem loopK_ok : ∀ k, k ≤ 3 → ∀ {r : Rel}, RelOk 16 r → RelOk 16 (Af (O0 p e) k r) :=
 fun k hk r h => loopN_ok (n := 3) (fun k q hk hq => loopI_ok hp hin hk _ (Nat.le_refl _) hq) k r hk h
end
section
variable {M : Aa}
set_option maxHeartbeats 4000000 in
theorem Xr (p : List Ev) (s : Value) (hs : Sl M 6 Hf s p) (hp : p.length ≤ 16) (e : Exec) (v : Value) (hv : IsX M v e) (az : e.frm.length = p.length) (cl : ∀ i, i < p.length → Ae e i < p.length)
  (dX : e.ord.length = 3) (hin : ∀ k, k < 3 → ∀ i, i < (e.ord[k]?.getD []).length → 0 ≤ Ad (e.ord[k]?.getD []) i ∧ Ad (e.ord[k]?.getD []) i < p.length) (aN : ∀ k, k < 3 → (e.ord[k]?.getD []).length ≤ 16) :
  Con Tryz.prog 54 #[s, v] M [] fun u _ _ => u = F7 (S7 p e) := by
 have aI := hs
 have aQ := hv
 obtain ⟨pa, pc, rfl, am⟩ := hs
 obtain ⟨f, d, o, n, rfl, ⟨fa, fc, rfl, bU⟩, ⟨da, dc, rfl, _⟩, ⟨oa, oc, ovs, rfl, bG, bJ, bu⟩, ⟨na, nc, rfl, _⟩⟩ := hv
 obtain ⟨ob, oo, rfl, bA⟩ := C7.at bJ bG bu (by omega)
 refine Con.enter Q88_ok (args := [.slice pa p.length pc, .agg #[.slice fa e.frm.length fc, .slice da e.dn.length dc, .slice (some ⟨ob, oo, none⟩) e.ord.length oc, .slice na e.fen.length nc]]) (by simp [Q88]) fun w0 => ?_
 simp only [Q88, A5]
 have mX := fun G => P7 (M := M.add G) p _ (aI.mono (Aa.le_add _ _)) hp e _ (IsX.mono (Aa.le_add _ _) aQ) az cl
 repeat' first
   | refine EV.seq ?_
   | refine rg ?_
   | ((first | refine Aq.call (mX _) ?_ | with_reducible intro b | refine xrA rfl ?_ | fail); try refine nx ?_)
   | (refine xw ?_; refine nx ?_)
   | exact ⟨⟩
   | fail
 obtain ⟨b5, rfl⟩ : ∃ x, x = b := ⟨_, rfl⟩
 obtain ⟨b4, rfl⟩ : ∃ x, x = b := ⟨_, rfl⟩
 obtain ⟨xb, rfl⟩ : ∃ x, x = b := ⟨_, rfl⟩
 refine ⟨by rw [List.length_map, Hz], fun v hv => by obtain ⟨x, _, rfl⟩ := List.mem_map.1 hv; rfl, ?_⟩
 rw [Ae2 (by rw [List.length_map, Hz]) rfl]
 repeat' first
   | refine EV.seq ?_
   | refine EV.block ?_
   | refine rg ?_
   | exact ⟨⟩
   | fail
 obtain ⟨zs, hzs⟩ : ∃ zs : List Value, zs = [vw 0, vw 0, vw 0, vw 0, vw 0, vw 0, vw 0, vw 0, vw 0, vw 0, vw 0, vw 0, vw 0, vw 0, vw 0, vw 0] := ⟨_, rfl⟩
 have bO := fromR_ok (e := e) hp
 refine EV.frz [(xb, Cl 37 [.slice fa e.frm.length fc, .slice da e.dn.length dc, .slice (some ⟨ob, oo, none⟩) e.ord.length oc, .slice na e.fen.length nc])] ?_
 generalize hR : M.add _ = N
 have aC : M.le N := hR ▸ Aa.le_add _ _
 have au : rd N xb 0 4 [.slice fa e.frm.length fc, .slice da e.dn.length dc, .slice (some ⟨ob, oo, none⟩) e.ord.length oc, .slice na e.fen.length nc] := hR ▸ Ap 0 rfl rfl (by simp)
 clear hR mX
 have dO := au.pt 0 1 (by omega) rfl
 have cv := au.pt 2 1 (by omega) rfl
 simp only [Nat.zero_add] at dO cv
 have bz := am.mono aC
 have af : ∀ b, b < p.length → ∃ pb po, pa = some ⟨pb, po, none⟩ ∧ rd N pb (po + b * 6) 6 (Hf (evAt p b)) := fun b hb => by
  obtain ⟨pb, po, e1, hat⟩ := Sl.at (sz := 6) (enc := Hf) (fun _ => rfl) (by decide) bz (by omega)
  have := hat b hb
  rw [← B8 hb] at this
  exact ⟨pb, po, e1, this⟩
 have cB : ∀ b, b < p.length → ∃ fb fo, fa = some ⟨fb, fo, none⟩ ∧ rd N fb (fo + b) 1 [vi (Ae e b)] := fun b hb => by
  obtain ⟨fb, fo, e1, hat⟩ := Sl.at (sz := 1) (enc := ei) (fun _ => rfl) (by decide) bU (by omega)
  exact ⟨fb, fo, e1, (B6 hat b (by omega)).mono aC⟩
 have bf : ∀ k, k < 3 → ∃ a' c', rd N ob (oo + k) 1 [.slice a' (e.ord[k]?.getD []).length c'] ∧ rdS N 1 a' (e.ord[k]?.getD []).length ((e.ord[k]?.getD []).flatMap ei) := fun k hk => by
  obtain ⟨a', c', h1, _, h2⟩ := bA k (by omega)
  rw [Nat.mul_one] at h1
  rw [List.getElem?_eq_getElem (show k < e.ord.length by omega), Option.getD_some]
  exact ⟨a', c', h1.mono aC, h2.mono aC⟩
 clear bA bJ bu bU am bz
 refine EV.loopTo (fun k : Nat => ([(0, .slice pa p.length pc), (3, pv xb 0), (4, pv b4 0), (5, pv b5 0), (6, vi k)], N, [(b5, Cl 95 ((Af (O0 p e) k (I5 p e)).map vw)), (b4, Cl 95 zs)])) (fun k => k ≤ 3) (fun k => 3 - k) 0 rfl (Nat.zero_le _) ?env1 (by subst hzs; exact List.Sublist.refl _) ?_
 case env1 =>
  exact eE
 intro k hk ih
 dsimp only at hk ih ⊢
 repeat' first
   | refine EV.seq ?_
   | refine EV.skip ?_
   | refine EV.block ?_
   | refine rg ?_
   | (refine cX (fun h => ?_) (fun h => ?_) <;> try exact Ah h)
   | (refine EV.exit rfl ?_)
   | exact ⟨⟩
   | fail
 ·have a8 : k < 3 := by omega
  have kO := loopK_ok hp hin k hk bO
  have ihk := ih (k + 1) (by omega) (by omega)
  simp only [Af, O0] at ihk
  obtain ⟨la, lc, gb, dm⟩ := bf k a8
  have fJ := hin k a8
  have p9 := aN k a8
  have oI := @loopI_ok p e hp hin k a8
  have oB := @loopB_ok p e hp hin k a8
  have oJ := @loopJ_ok p e hp hin k a8
  have oJ2 := @loopJ2_ok p e hp hin k a8
  generalize Af (O0 p e) k (I5 p e) = q0 at *
  refine EV.loopTo (fun i : Nat => ([(0, .slice pa p.length pc), (3, pv xb 0), (4, pv b4 0), (5, pv b5 0), (6, vi k), (7, vi i)], N, [(b5, Cl 95 ((Af (Ro p e k) i q0).map vw)), (b4, Cl 95 zs)])) (fun i => i ≤ (e.ord[k]?.getD []).length) (fun i => (e.ord[k]?.getD []).length - i) 0 rfl (Nat.zero_le _) ?env2 (List.Sublist.refl _) ?_
  case env2 =>
   exact eE
  intro i hi ih2
  dsimp only at hi ih2 ⊢
  repeat' first
    | refine EV.seq ?_
    | refine EV.skip ?_
    | refine EV.block ?_
    | refine EV.inBlock ?_
    | refine rg ?_
    | (refine cX (fun h => ?_) (fun h => ?_) <;> try exact Ah h)
    | (refine EV.exit rfl ?_)
    | (refine And.intro (by omega) ?_)
    | (refine xn ?_; try refine nx ?_)
    | exact ⟨⟩
    | fail
  ·have aA : i < (e.ord[k]?.getD []).length := by omega
   have iK := oI i hi kO
   have ih3 := ih2 (i + 1) (by omega) (by omega)
   simp only [Af, Ro] at ih3
   obtain ⟨wb, wo, rfl, ay⟩ := Sl.at (sz := 1) (enc := ei) (fun _ => rfl) (by decide) dm (by omega)
   have cm := B6 ay
   obtain ⟨a, ha⟩ : ∃ a : Nat, Ad (e.ord[k]?.getD []) i = a := ⟨(Ad (e.ord[k]?.getD []) i).toNat, by have := fJ i aA; omega⟩
   have js := cm i aA
   have i9 : a < p.length := by have := fJ i aA; omega
   rw [ha, Int.toNat_natCast] at ih3
   rw [ha] at js
   have oB := @oB i a (by omega)
   have oJ := fun d hd => @oJ i a d hd _ iK
   have oJ2 := @oJ2 i a
   generalize hL : (e.ord[k]?.getD []) = L at *
   generalize Af (Ro p e k) i q0 = q1 at *
   repeat' first
     | refine EV.seq ?_
     | refine EV.block ?_
     | refine rg ?_
     | (refine And.intro (by omega) ?_)
     | (refine xm ?_; try refine nx ?_)
     | exact ⟨⟩
     | fail
   refine EV.loopTo (fun d : Nat => ([(0, .slice pa p.length pc), (3, pv xb 0), (4, pv b4 0), (5, pv b5 0), (6, vi k), (7, vi i), (8, vi a), (9, vi (i + 1 + d : Nat))], N, [(b5, Cl 95 ((Af (Oz e k i a) d q1).map vw)), (b4, Cl 95 zs)])) (fun d => d ≤ L.length - (i + 1)) (fun d => L.length - (i + 1) - d) 0 rfl (Nat.zero_le _) ?env3 (List.Sublist.refl _) ?_
   case env3 =>
    exact eE
   intro d hd ih4
   dsimp only at hd ih4 ⊢
   obtain ⟨x, hx⟩ : ∃ x, x = i + 1 + d := ⟨_, rfl⟩
   rw [← hx]
   repeat' first
     | refine EV.seq ?_
     | refine EV.skip ?_
     | refine EV.block ?_
     | refine rg ?_
     | (refine cX (fun h => ?_) (fun h => ?_) <;> try exact Ah h)
     | (refine EV.exit rfl ?_)
     | (refine And.intro (by omega) ?_)
     | (refine xn ?_; try refine nx ?_)
     | exact ⟨⟩
     | fail
   ·have fE : x < L.length := by omega
    have hq := oJ d hd
    have ih5 := ih4 (d + 1) (by omega) (by omega)
    simp only [Af, Oz, hL] at ih5
    generalize Af (Oz e k i a) d q1 = q at *
    rw [← hx, show i + 1 + (d + 1) = x + 1 by omega] at ih5
    have iN := cm x fE
    have pd := fJ x fE
    obtain ⟨w, hw⟩ : ∃ w : Nat, Ad L x = w := ⟨(Ad L x).toNat, by omega⟩
    rw [hw] at iN ih5
    obtain ⟨bQ, e1⟩ := hq.get (show a < 16 by omega)
    have bP := hq.at (show 16 ≤ 32 by omega) a
    rw [e1] at bP
    have cU : q[a] < 2 ^ 64 := Nat.lt_of_lt_of_le bP (by decide)
    have eO : IntKind.u64.wrap (w : Int) = (w : Int) := Bd (by omega)
    have fI : ¬ ((w : Int) < 0) := by omega
    have bL := Gw (show w < 64 by omega)
    have ai := Gx (b := w) cU (by omega)
    refine EV.any (t := Bl1) [(b5, Cl 95 (q.map vw))] (List.Sublist.cons_cons _ (List.nil_sublist _)) ?_
    simp only [Ao, As, Am, Au, reduceIte, Nat.reduceEqDiff]
    repeat' first
      | ((first | refine zo (fun lq aB => ?_) | refine zl ?_ | refine Exists.intro _ (And.intro (Ca (f := vw) bQ) ?_) | fail); (repeat first | refine nz ?_ | simp only [eO, fI, bL, ai]))
      | (refine Ec (by first | with_reducible assumption | rfl) (fun tq aE => ?_) (fun tq aE => ?_) <;> (repeat first | refine nz ?_ | simp only [eO, fI, bL, ai]))
      | exact zn
      | (refine And.intro (by omega) ?_)
      | ((first | refine xm ?_ | refine xn ?_ | refine xw ?_ | fail); (repeat first | refine nz ?_ | simp only [eO, fI, bL, ai]))
      | fail
    refine ⟨by rw [List.length_map, hq.len]; omega, ?_⟩
    rw [Ar vw q bQ]
    repeat' first
      | (refine zl ?_; try refine nz ?_)
      | refine zq (fun lq tq aB aE => ?_)
      | refine zf ?_
      | exact ⟨⟩
      | fail
    repeat' first
      | refine EV.inBlock ?_
      | refine rg ?_
      | exact ⟨⟩
      | fail
    rw [Int.toNat_natCast, Lv, orR, e1] at ih5
    refine EV.to ih5 ?_ (List.Sublist.refl _)
    exact eE
   ·have iB : d = L.length - (i + 1) := by omega
    subst iB
    have kL := oJ _ (Nat.le_refl _)
    generalize Af (Oz e k i a) (L.length - (i + 1)) q1 = q2 at *
    repeat' first
      | fail
    refine EV.loopTo (fun c : Nat => ([(0, .slice pa p.length pc), (3, pv xb 0), (4, pv b4 0), (5, pv b5 0), (6, vi k), (7, vi i), (8, vi a), (10, vi c)], N, [(b5, Cl 95 ((Af (Rn p e k i a) c q2).map vw)), (b4, Cl 95 zs)])) (fun c => c ≤ p.length) (fun c => p.length - c) 0 rfl (Nat.zero_le _) ?env4 (List.Sublist.refl _) ?_
    case env4 =>
     exact eE
    intro c hc ih4
    dsimp only at hc ih4 ⊢
    refine EV.seq ?_
    refine EV.seq ?_
    repeat' first
      | refine EV.skip ?_
      | refine EV.inBlock ?_
      | refine rg ?_
      | (refine cX (fun h => ?_) (fun h => ?_) <;> try exact Ah h)
      | (refine EV.exit rfl ?_)
      | exact ⟨⟩
      | fail
    ·have bq : c < p.length := by omega
     have n9 := oB c hc kL
     have ih5 := ih4 (c + 1) (by omega) (by omega)
     simp only [Af, Rn, hL] at ih5
     generalize Af (Rn p e k i a) c q2 = q3 at *
     obtain ⟨pb, po, rfl, d9⟩ := af c bq
     obtain ⟨fb, fo, rfl, jO⟩ := cB c bq
     have cE : rd N pb (po + c * 6 + 1 + 1) 1 [vi (evAt p c).op.loc] := d9.pt 2 1 (by omega) rfl
     obtain ⟨aO, e1⟩ := n9.get (show c < 16 by omega)
     have bP := n9.at (show 16 ≤ 32 by omega) c
     rw [e1] at bP
     have cU : q3[c] < 2 ^ 64 := Nat.lt_of_lt_of_le bP (by decide)
     have eP : IntKind.u64.wrap (a : Int) = (a : Int) := Bd (by omega)
     have cN : ¬ ((a : Int) < 0) := by omega
     have bL := Gw (show a < 64 by omega)
     have ai := Gx (b := a) cU (by omega)
     have tU : RelOk 16 (F5 (decide (Ae e c = -1) && decide ((evAt p c).op.loc = (k : Int)) && decide (a ≠ c)) q3 c a) := putIf_ok n9 _ (by omega)
     have oJ3 := fun d hd => @oJ2 c d hd _ tU
     generalize pe : F5 (decide (Ae e c = -1) && decide ((evAt p c).op.loc = (k : Int)) && decide (a ≠ c)) q3 c a = q4 at *
     refine EV.seq ?_
     refine EV.block ?_
     refine EV.seq (EV.thru (fun ρ' M' G' => M' = N ∧ (∀ q ∈ [(0, .slice (some ⟨pb, po, none⟩) p.length pc), (3, pv xb 0), (4, pv b4 0), (5, pv b5 0), (6, vi k), (7, vi i), (8, vi a), (10, vi c)], get ρ' q.1 = some q.2) ∧ G' = [(b5, Cl 95 (q4.map vw)), (b4, Cl 95 zs)]) ?_ ?_)
     ·intro k' key
      clear ih ihk ih2 ih3 ih4 ih5
      rw [← pe] at key
      repeat' first
        | refine EV.seq ?_
        | refine EV.skip ?_
        | (refine EV.reg ?_; (conv => (arg 2; whnf)); (repeat first | refine nx ?_ | simp only [eP, cN, bL, ai]))
        | with_reducible assumption
        | (refine Exists.intro _ (And.intro (Ca (f := vw) aO) ?_); (repeat first | refine nx ?_ | simp only [eP, cN, bL, ai]))
        | (refine A0.merge ?_ (fun hc K' hK => ?_) ?_; rotate_left)
        | (refine cX (fun h => ?_) (fun h => ?_) <;> try exact Ah h)
        | (refine And.intro (by omega) ?_)
        | ((first | refine xm ?_ | refine xn ?_ | fail); (repeat first | refine nx ?_ | simp only [eP, cN, bL, ai]))
        | (refine xw ?_; (repeat first | refine nx ?_ | simp only [eP, cN, bL, ai]))
        | fail
      ·refine ⟨by rw [List.length_map, n9.len]; omega, ?_⟩
       rw [Ar vw q3 aO]
       rw [F5, if_pos (by simp at h ⊢; omega), Lv, orR, e1] at key
       refine EV.reS (key _ _ _ ⟨rfl, ?_, rfl⟩)
       exact eE
      ·rw [F5, if_neg (by simp at h ⊢; omega)] at key
       refine EV.reS (key _ _ _ ⟨rfl, ?_, rfl⟩)
       exact eE
     rintro ρ' M' G' ⟨e0, hρ, e2⟩
     rw [e0, e2]
     clear e0 e2
     refine EV.to (ρ' := [(0, .slice (some ⟨pb, po, none⟩) p.length pc), (3, pv xb 0), (4, pv b4 0), (5, pv b5 0), (6, vi k), (7, vi i), (8, vi a), (10, vi c)]) ?_ hρ (List.Sublist.refl _)
     repeat' first
       | refine EV.seq ?_
       | refine EV.block ?_
       | refine rg ?_
       | exact ⟨⟩
       | fail
     refine EV.loopTo (fun d : Nat => ([(0, .slice (some ⟨pb, po, none⟩) p.length pc), (3, pv xb 0), (4, pv b4 0), (5, pv b5 0), (6, vi k), (7, vi i), (8, vi a), (10, vi c), (11, vi (i + 1 + d : Nat))], N, [(b5, Cl 95 ((Af (Lj e k i a c) d q4).map vw)), (b4, Cl 95 zs)])) (fun d => d ≤ L.length - (i + 1)) (fun d => L.length - (i + 1) - d) 0 rfl (Nat.zero_le _) ?env5 (List.Sublist.refl _) ?_
     case env5 =>
      exact eE
     intro d hd ih6
     dsimp only at hd ih6 ⊢
     obtain ⟨x, hx⟩ : ∃ x, x = i + 1 + d := ⟨_, rfl⟩
     rw [← hx]
     refine EV.seq ?_
     refine EV.seq ?_
     repeat' first
       | refine EV.skip ?_
       | refine EV.inBlock ?_
       | refine rg ?_
       | (refine cX (fun h => ?_) (fun h => ?_) <;> try exact Ah h)
       | (refine EV.exit rfl ?_)
       | (refine And.intro (by omega) ?_)
       | (refine xn ?_; try refine nx ?_)
       | exact ⟨⟩
       | fail
     ·have fE : x < L.length := by omega
      have pf := oJ3 d hd
      have ih7 := ih6 (d + 1) (by omega) (by omega)
      simp only [Af, Lj, hL] at ih7
      generalize Af (Lj e k i a c) d q4 = q5 at *
      rw [← hx, show i + 1 + (d + 1) = x + 1 by omega] at ih7
      have iN := cm x fE
      have pd := fJ x fE
      obtain ⟨w, hw⟩ : ∃ w : Nat, Ad L x = w := ⟨(Ad L x).toNat, by omega⟩
      rw [hw] at iN ih7
      obtain ⟨mY, e5⟩ := pf.get (show c < 16 by omega)
      have n7 := pf.at (show 16 ≤ 32 by omega) c
      rw [e5] at n7
      have tV : q5[c] < 2 ^ 64 := Nat.lt_of_lt_of_le n7 (by decide)
      have fS : IntKind.u64.wrap (w : Int) = (w : Int) := Bd (by omega)
      have dE : ¬ ((w : Int) < 0) := by omega
      have gB := Gw (show w < 64 by omega)
      have kP := Gx (b := w) tV (by omega)
      repeat' first
        | refine EV.seq ?_
        | refine EV.skip ?_
        | refine EV.block ?_
        | refine EV.inBlock ?_
        | refine rg ?_
        | with_reducible assumption
        | (refine A0.merge ?_ (fun hc K' hK => ?_) ?_; rotate_left)
        | (refine cX (fun h => ?_) (fun h => ?_) <;> try exact Ah h)
        | (refine And.intro (by omega) ?_)
        | ((first | refine xm ?_ | refine xn ?_ | fail); try refine nx ?_)
        | exact ⟨⟩
        | fail
      ·refine EV.any (t := Ag8) [(b5, Cl 95 (q5.map vw))] (List.Sublist.cons_cons _ (List.nil_sublist _)) ?_
       simp only [Ao, As, Am, Au, reduceIte, Nat.reduceEqDiff]
       repeat' first
         | ((first | refine zo (fun lq aB => ?_) | refine zl ?_ | refine Exists.intro _ (And.intro (Ca (f := vw) mY) ?_) | fail); (repeat first | refine nz ?_ | simp only [fS, dE, gB, kP]))
         | (refine Ec (by first | with_reducible assumption | rfl) (fun tq aE => ?_) (fun tq aE => ?_) <;> (repeat first | refine nz ?_ | simp only [fS, dE, gB, kP]))
         | exact zn
         | (refine And.intro (by omega) ?_)
         | ((first | refine xm ?_ | refine xn ?_ | refine xw ?_ | fail); (repeat first | refine nz ?_ | simp only [fS, dE, gB, kP]))
         | fail
       refine ⟨by rw [List.length_map, pf.len]; omega, ?_⟩
       rw [Ar vw q5 mY]
       repeat' first
         | (refine zl ?_; try refine nz ?_)
         | refine zq (fun lq tq aB aE => ?_)
         | refine zf ?_
         | exact ⟨⟩
         | fail
       repeat' first
         | refine EV.inBlock ?_
         | refine rg ?_
         | exact ⟨⟩
         | fail
       rw [F5, if_pos (by simp at h ⊢; omega), Int.toNat_natCast, Lv, orR, e5] at ih7
       refine EV.to ih7 ?_ (List.Sublist.refl _)
       exact eE
      ·rw [F5, if_neg (by simp at h ⊢; omega)] at ih7
       refine EV.to ih7 ?_ (List.Sublist.refl _)
       exact eE
     ·have iB : d = L.length - (i + 1) := by omega
      subst iB
      refine EV.to ih5 ?_ (List.Sublist.refl _)
      exact eE
    ·have jR : c = p.length := by omega
     subst jR
     refine EV.to ih3 ?_ (List.Sublist.refl _)
     exact eE
  ·have bM : i = (e.ord[k]?.getD []).length := by omega
   subst bM
   refine EV.to ihk ?_ (List.Sublist.refl _)
   exact eE
 ·have dY : k = 3 := by omega
  subst dY
  have eV := loopK_ok hp hin 3 (Nat.le_refl _) bO
  have aO : S7 p e = Ch (Af (O0 p e) 3 (I5 p e)) := rfl
  rw [aO]
  generalize Af (O0 p e) 3 (I5 p e) = q at *
  have gC := fun G => H2 (M := N.add G) q eV
  repeat' first
    | ((first | refine Aq.call (gC _) ?_ | refine Exists.intro _ (And.intro (Fd (f := vw) eV.len) ?_) | fail); try refine nx ?_)
    | (refine xw ?_; refine nx ?_)
    | exact ⟨⟩
    | fail
  refine ⟨by subst hzs; simp, by rw [List.length_map, eV.close.len], fun v hv => by obtain ⟨x, _, rfl⟩ := List.mem_map.1 hv; rfl, ?_⟩
  rw [Ae2 (by rw [List.length_map, eV.close.len]) (by subst hzs; rfl)]
  (refine rt Q88_ok ?_; try with_reducible exact ⟨⟩)
  exact ⟨_, Bv (T := 95) (cs := (Ch q).map vw) (by simp) (by rw [List.drop_zero, List.take_of_length_le (by rw [List.length_map, eV.close.len]; exact Nat.le_refl _)]) (by rw [List.length_map, eV.close.len]; exact Nat.le_refl _), rfl⟩
end
end Go.EV

namespace Go.EV
open Go.Proofs
section
variable {p : List Ev} (hp : p.length ≤ 16)
include hp
theorem Ai4 (w : Nat) : ∀ m, m ≤ p.length → Af (fun a s => Fc (gM p w a) s a) m 0 < 2 ^ 16 := fun m hm => J2 (n := p.length) (fun i s hi hs => L2 hs (by omega)) m 0 hm (by decide)
theorem Cs2 (w : Nat) : ∀ m, m ≤ p.length → Af (fun a s => Fc (tlC p w a) s a) m 0 < 2 ^ 16 := fun m hm => J2 (n := p.length) (fun i s hi hs => L2 hs (by omega)) m 0 hm (by decide)
end
set_option maxHeartbeats 4000000 in
theorem U8 {C : Cx Tryz.prog} {k : List RItem} {p : List Ev} {N : Aa} {pb po pc xb b4 b5 w c ch : Nat} {G : Own} (hp : p.length ≤ 16) (bZ : Xa p) (fH : ∀ b, b < p.length → rd N pb (po + b * 6) 6 (Hf (evAt p b))) (fd : w < p.length) (bq : c < p.length)
  (key : EV C [0, 1, 3, 4, 5, 6, 7, 8, 9, 10, 11, 12, 13, 14, 15] k [(0, .slice (some ⟨pb, po, none⟩) p.length pc), (3, pv xb 0), (4, pv b4 0), (5, pv b5 0), (6, vi w), (7, vw ch), (10, vi c), (11, vw (i8 p w)), (12, vw (tlW p c))] N G) :
  EV C [0, 1, 3, 4, 5, 6, 7, 8, 9, 10, 11, 12, 13, 14, 15] (.code (.loop Y0) :: .inBlock 8 :: k)
   [(13, vi 0), (0, .slice (some ⟨pb, po, none⟩) p.length pc), (3, pv xb 0), (4, pv b4 0), (5, pv b5 0), (6, vi w), (7, vw ch), (10, vi c), (11, vw 0), (12, vw 0)] N G := by
 refine EV.loopTo (fun a : Nat => ([(0, .slice (some ⟨pb, po, none⟩) p.length pc), (3, pv xb 0), (4, pv b4 0), (5, pv b5 0), (6, vi w), (7, vw ch), (10, vi c), (11, vw (Af (fun a s => Fc (gM p w a) s a) a 0)), (12, vw (Af (fun a s => Fc (tlC p c a) s a) a 0)), (13, vi a)], N, G)) (fun a => a ≤ p.length) (fun a => p.length - a) 0 rfl (Nat.zero_le _) ?env1 (List.Sublist.refl _) ?_
 case env1 =>
  exact eE
 intro a ha ih
 dsimp only at ha ih ⊢
 refine EV.seq ?_
 refine EV.seq ?_
 repeat' first
   | refine EV.skip ?_
   | refine rg ?_
   | (refine cX (fun h => ?_) (fun h => ?_) <;> try exact Ah h)
   | (refine EV.exit rfl ?_)
   | exact ⟨⟩
   | fail
 ·have aT : a < p.length := by omega
  have ih2 := ih (a + 1) (by omega) (by omega)
  simp only [Af] at ih2
  have gI := Ai4 hp w a ha
  have nC := Cs2 hp c a ha
  generalize Af (fun a s => Fc (gM p w a) s a) a 0 = m1 at *
  generalize Af (fun a s => Fc (tlC p c a) s a) a 0 = m2 at *
  have cU : m1 < 2 ^ 64 := Nat.lt_of_lt_of_le gI (by decide)
  have dj : m2 < 2 ^ 64 := Nat.lt_of_lt_of_le nC (by decide)
  have eP : IntKind.u64.wrap (a : Int) = (a : Int) := Bd (by omega)
  have cN : ¬ ((a : Int) < 0) := by omega
  have gx := Gw (show a < 64 by omega)
  have pg := Gx (b := a) cU (by omega)
  have ph := Gx (b := a) dj (by omega)
  have r6 := fH a aT
  have tW : rd N pb (po + a * 6 + 1) 5 [vi (evAt p a).op.kind, vi (evAt p a).op.loc, vi (evAt p a).op.v, vi (evAt p a).op.w, vi (evAt p a).op.ord] := r6.pt 1 5 (by omega) rfl
  have pi : rd N pb (po + a * 6 + 0) 1 [vi (evAt p a).th] := r6.pt 0 1 (by omega) rfl
  have pj : rd N pb (po + w * 6 + 0) 1 [vi (evAt p w).th] := (fH w fd).pt 0 1 (by omega) rfl
  have pk : rd N pb (po + c * 6 + 0) 1 [vi (evAt p c).th] := (fH c bq).pt 0 1 (by omega) rfl
  simp only [Nat.add_zero] at pi pj pk
  have jS := bZ a aT
  have pm := fun G => O1 (M := N.add G) _ jS
  have pn := fun G => O2 (M := N.add G) _ jS
  generalize pp : (evAt p a).op = o at *
  refine EV.seq ?_
  refine EV.block ?_
  refine EV.seq ?_
  repeat' first
    | refine rg ?_
    | (with_reducible intro b; try refine nx ?_)
    | (refine And.intro (by omega) ?_)
    | (refine xm ?_; try refine nx ?_)
    | (refine xw ?_; refine nx ?_)
    | exact ⟨⟩
    | fail
  have kG := Ap (M := N) (G := (b, Cl 83 [vi o.kind, vi o.loc, vi o.v, vi o.w, vi o.ord]) :: G) (b := b) (off := 4) (n := 1) 0 rfl rfl (by simp)
  have tX := Ap (M := N) (G := (b, Cl 83 [vi o.kind, vi o.loc, vi o.v, vi o.w, vi o.ord]) :: G) (b := b) (off := 0) (n := 1) 0 rfl rfl (by simp)
  refine EV.seq (EV.thru (fun ρ' M' G' => M' = N ∧ (∀ q ∈ [(0, .slice (some ⟨pb, po, none⟩) p.length pc), (3, pv xb 0), (4, pv b4 0), (5, pv b5 0), (6, vi w), (7, vw ch), (10, vi c), (11, vw (Fc (gM p w a) m1 a)), (12, vw m2), (13, vi a), (14, pv b 0)], get ρ' q.1 = some q.2) ∧ G' = (b, Cl 83 [vi o.kind, vi o.loc, vi o.v, vi o.w, vi o.ord]) :: G) ?_ ?_)
  ·intro k' key2
   clear ih ih2
   refine EV.seq ?_
   refine EV.any (t := Ah0) [(b, Cl 83 [vi o.kind, vi o.loc, vi o.v, vi o.w, vi o.ord])] (List.Sublist.cons_cons _ (List.nil_sublist _)) ?_
   simp only [Ao, As, Am, Au, reduceIte, Nat.reduceEqDiff]
   repeat' first
     | ((refine Mg (by first | with_reducible assumption | rfl) rfl ?_ (fun lq aB hc => ?_) (fun lq aB => ?_); rotate_left) <;> (try (exfalso; simp at hc; done)) <;> try refine nz ?_)
     | ((first | refine zo (fun lq aB => ?_) | refine zl ?_ | refine Exists.intro _ (And.intro (pm _) ?_) | fail); try refine nz ?_)
     | refine zf ?_
     | with_reducible rfl
     | (refine And.intro (by omega) ?_)
     | ((first | refine xm ?_ | refine xiA rfl ?_ | fail); try refine nz ?_)
     | exact ⟨⟩
     | fail
   have hh : (Ct3 o.ord && (decide ((a : Int) = (w : Int)) || decide (o.kind = 5) && decide ((evAt p a).th = (evAt p w).th) && decide ((a : Int) < (w : Int)))) = gM p w a := by
    simp [gM, Ev.rel, pp, Int.natCast_inj, Int.ofNat_lt]
   rw [hh]
   generalize gM p w a = y at *
   repeat' first
     | refine EV.skip ?_
     | (refine EV.reg ?_; (conv => (arg 2; whnf)); (repeat first | refine nx ?_ | simp only [eP, cN, gx, pg]))
     | (refine cX (fun h => ?_) (fun h => ?_) <;> try exact Ah h)
     | fail
   ·rw [Fc, if_pos h] at key2
    refine EV.reS (key2 _ _ _ ⟨rfl, ?_, rfl⟩)
    exact eE
   ·rw [Fc, if_neg (by rw [h]; decide)] at key2
    refine EV.reS (key2 _ _ _ ⟨rfl, ?_, rfl⟩)
    exact eE
  ·rintro ρ' M' G' ⟨e0, hρ, e2⟩
   rw [e0, e2]
   clear e0 e2
   generalize Fc (gM p w a) m1 a = m3 at *
   refine EV.to (ρ' := [(0, .slice (some ⟨pb, po, none⟩) p.length pc), (3, pv xb 0), (4, pv b4 0), (5, pv b5 0), (6, vi w), (7, vw ch), (10, vi c), (11, vw m3), (12, vw m2), (13, vi a), (14, pv b 0)]) ?_ hρ (List.Sublist.refl _)
   refine EV.seq ?_
   refine EV.any (t := Ah1) [(b, Cl 83 [vi o.kind, vi o.loc, vi o.v, vi o.w, vi o.ord])] (List.Sublist.cons_cons _ (List.nil_sublist _)) ?_
   simp only [Ao, As, Am, Au, reduceIte, Nat.reduceEqDiff]
   repeat' first
     | ((refine Mg (by first | with_reducible assumption | rfl) rfl ?_ (fun lq aB hc => ?_) (fun lq aB => ?_); rotate_left) <;> (try (exfalso; simp at hc; done)) <;> try refine nz ?_)
     | ((first | refine zo (fun lq aB => ?_) | refine zl ?_ | refine Exists.intro _ (And.intro (pn _) ?_) | fail); try refine nz ?_)
     | refine zf ?_
     | with_reducible rfl
     | (refine And.intro (by omega) ?_)
     | ((first | refine xm ?_ | refine xiA rfl ?_ | fail); try refine nz ?_)
     | exact ⟨⟩
     | fail
   have hh : (Ct2 o.ord && (decide ((a : Int) = (c : Int)) || decide (o.kind = 5) && decide ((evAt p a).th = (evAt p c).th) && decide ((c : Int) < (a : Int)))) = tlC p c a := by
    simp [tlC, Ev.acq, pp, Int.natCast_inj, Int.ofNat_lt]
   rw [hh]
   generalize tlC p c a = y at *
   repeat' first
     | refine EV.skip ?_
     | refine EV.inBlock ?_
     | (refine EV.reg ?_; (conv => (arg 2; whnf)); (repeat first | refine nx ?_ | simp only [eP, cN, gx, ph]))
     | (refine cX (fun h => ?_) (fun h => ?_) <;> try exact Ah h)
     | fail
   ·rw [Fc, if_pos h] at ih2
    refine EV.to ih2 ?_ (List.Sublist.cons _ (List.Sublist.refl _))
    exact eE
   ·rw [Fc, if_neg (by rw [h]; decide)] at ih2
    refine EV.to ih2 ?_ (List.Sublist.cons _ (List.Sublist.refl _))
    exact eE
 ·have dG : a = p.length := by omega
  subst dG
  repeat' first
    | fail
  refine EV.to key ?_ (List.Sublist.refl _)
  exact eE
end Go.EV

namespace Go.EV
open Go.Proofs
theorem loopMA_ok {p : List Ev} (hp : p.length ≤ 16) {w b : Nat} : ∀ m, m ≤ p.length → ∀ {r : Rel}, RelOk 16 r → RelOk 16 (Af (mtA p w b) m r) := fun m hm r h => loopN_ok (n := p.length) (fun a q ha hq => by
 unfold mtA; split
 ·exact hq.or a (Z1 hp b)
 ·exact hq) m r hm h
set_option maxHeartbeats 4000000 in
theorem Xs {C : Cx Tryz.prog} {k : List RItem} {p : List Ev} {N : Aa} {pb po pc xb b4 b5 w c ch : Nat} {zs : List Value} {q1 : Rel} (hp : p.length ≤ 16) (iK : RelOk 16 q1)
  (key : EV C [0, 1, 3, 4, 5, 6, 7, 8, 9, 10, 11, 12, 13, 14, 15] k [(0, .slice (some ⟨pb, po, none⟩) p.length pc), (3, pv xb 0), (4, pv b4 0), (5, pv b5 0), (6, vi w), (7, vw ch), (10, vi c)] N [(b5, Cl 95 ((Af (mtA p w c) p.length q1).map vw)), (b4, Cl 95 zs)]) :
  EV C [0, 1, 3, 4, 5, 6, 7, 8, 9, 10, 11, 12, 13, 14, 15] (.code (.seq (.reg Ah2) (.block 10 (.loop Y1))) :: k)
   [(0, .slice (some ⟨pb, po, none⟩) p.length pc), (3, pv xb 0), (4, pv b4 0), (5, pv b5 0), (6, vi w), (7, vw ch), (10, vi c), (11, vw (i8 p w)), (12, vw (tlW p c))] N [(b5, Cl 95 (q1.map vw)), (b4, Cl 95 zs)] := by
 have pq : i8 p w < 2 ^ 16 := Ai4 hp w _ (Nat.le_refl _)
 have lU := Z1 hp c
 have pu : i8 p w < 2 ^ 64 := Nat.lt_of_lt_of_le pq (by decide)
 have pw : tlW p c < 2 ^ 64 := Nat.lt_of_lt_of_le lU (by decide)
 repeat' first
   | refine EV.seq ?_
   | refine EV.block ?_
   | refine rg ?_
   | exact ⟨⟩
   | fail
 refine EV.loopTo (fun a : Nat => ([(0, .slice (some ⟨pb, po, none⟩) p.length pc), (3, pv xb 0), (4, pv b4 0), (5, pv b5 0), (6, vi w), (7, vw ch), (10, vi c), (11, vw (i8 p w)), (12, vw (tlW p c)), (15, vi a)], N, [(b5, Cl 95 ((Af (mtA p w c) a q1).map vw)), (b4, Cl 95 zs)])) (fun a => a ≤ p.length) (fun a => p.length - a) 0 rfl (Nat.zero_le _) ?env1 (List.Sublist.refl _) ?_
 case env1 =>
  exact eE
 intro a ha ih
 dsimp only at ha ih ⊢
 refine EV.seq ?_
 refine EV.seq ?_
 repeat' first
   | refine EV.skip ?_
   | refine rg ?_
   | (refine cX (fun h => ?_) (fun h => ?_) <;> try exact Ah h)
   | (refine EV.exit rfl ?_)
   | exact ⟨⟩
   | fail
 ·have aT : a < p.length := by omega
  have hq := loopMA_ok (w := w) (b := c) hp a ha iK
  have ih2 := ih (a + 1) (by omega) (by omega)
  simp only [Af, mtA] at ih2
  generalize Af (mtA p w c) a q1 = q at *
  generalize i8 p w = hd at *
  generalize tlW p c = tl at *
  have eP : IntKind.u64.wrap (a : Int) = (a : Int) := Bd (by omega)
  have cN : ¬ ((a : Int) < 0) := by omega
  have an := H1 (b := a) pu (by omega)
  obtain ⟨cg, e1⟩ := hq.get (show a < 16 by omega)
  have bP := hq.at (show 16 ≤ 32 by omega) a
  rw [e1] at bP
  have cU : q[a] < 2 ^ 64 := Nat.lt_of_lt_of_le bP (by decide)
  have ai := Wq cU pw
  repeat' first
    | refine EV.seq ?_
    | refine EV.skip ?_
    | refine EV.block ?_
    | refine EV.inBlock ?_
    | (refine EV.reg ?_; (conv => (arg 2; whnf)); (repeat first | refine nx ?_ | simp only [eP, cN, an, ai]))
    | (refine Exists.intro _ (And.intro (Ca (f := vw) cg) ?_); (repeat first | refine nx ?_ | simp only [eP, cN, an, ai]))
    | (refine cX (fun h => ?_) (fun h => ?_) <;> try exact Ah h)
    | (refine And.intro (by omega) ?_)
    | (refine xw ?_; (repeat first | refine nx ?_ | simp only [eP, cN, an, ai]))
    | fail
  ·refine ⟨by rw [List.length_map, hq.len]; omega, ?_⟩
   rw [Ar vw q cg]
   repeat' first
     | refine EV.inBlock ?_
     | refine rg ?_
     | exact ⟨⟩
     | fail
   rw [if_pos (by simpa using h), orR, e1] at ih2
   refine EV.to ih2 ?_ (List.Sublist.refl _)
   exact eE
  ·rw [if_neg (by simpa using h)] at ih2
   refine EV.to ih2 ?_ (List.Sublist.refl _)
   exact eE
 ·have dG : a = p.length := by omega
  subst dG
  repeat' first
    | fail
  refine EV.to key ?_ (List.Sublist.refl _)
  exact eE
end Go.EV

namespace Go.EV
open Go.Proofs
theorem Ai5 (r : Rel) : ok1 (r.map vw) := fun v hv => by obtain ⟨x, _, rfl⟩ := List.mem_map.1 hv; rfl
theorem Wr {x b : Nat} (hx : x < 2 ^ 64) (hb : b < 64) : decide (IntKind.u64.wrap ((BitVec.ofInt IntKind.u64.bits ((x : Int).fdiv (2 ^ min b IntKind.u64.bits)) &&& BitVec.ofInt IntKind.u64.bits 1).toNat : Int) = 0) = !x.testBit b := by
 have h := H1 hx hb
 have e0 : min b IntKind.u64.bits = b := Nat.min_eq_left (show b ≤ 64 by omega)
 rw [e0] at h ⊢
 have e1 : (x : Int).fdiv (2 ^ b) = ((x / 2 ^ b : Nat) : Int) := by
  rw [Int.fdiv_eq_ediv_of_nonneg _ (by exact_mod_cast Nat.zero_le _)]; simp
 have hd : x / 2 ^ b < 2 ^ 64 := Nat.lt_of_le_of_lt (Nat.div_le_self _ _) hx
 rw [e1, Wp hd] at h ⊢
 have e : (BitVec.ofNat 64 (x / 2 ^ b) &&& BitVec.ofInt 64 1).toNat = (x / 2 ^ b) % 2 := by
  rw [BitVec.toNat_and, BitVec.toNat_ofNat, Nat.mod_eq_of_lt hd]
  show (x / 2 ^ b) &&& 1 = _
  exact Nat.and_one_is_mod _
 have e2 : IntKind.u64.wrap ((BitVec.ofNat 64 (x / 2 ^ b) &&& BitVec.ofInt 64 1).toNat : Int) = ((x / 2 ^ b % 2 : Nat) : Int) := by rw [e, Bd (by omega)]
 change decide (IntKind.u64.wrap ((BitVec.ofNat 64 (x / 2 ^ b) &&& BitVec.ofInt 64 1).toNat : Int) = 1) = _ at h
 change decide (IntKind.u64.wrap ((BitVec.ofNat 64 (x / 2 ^ b) &&& BitVec.ofInt 64 1).toNat : Int) = 0) = _
 rw [e2] at h ⊢
 rw [← h, ← decide_not, decide_eq_decide]
 omega
section
variable {p : List Ev} {e : Exec} (hp : p.length ≤ 16)
include hp
theorem Ws {c : Nat} (hc : c < 2 ^ 16) : ∀ m, m ≤ p.length → Af (chS e) m c < 2 ^ 16 := fun m hm => J2 (n := p.length) (fun i s hi hs => L2 hs (by omega)) m c hm hc
theorem Z2 {w : Nat} (hw : w < p.length) : ∀ k, chN p e k w < 2 ^ 16
 | 0 => Nat.pow_lt_pow_right (by decide) (by omega)
 | k + 1 => by
  show Cs1 p e (chN p e k w) < 2 ^ 16
  exact Ws hp (Z2 hw k) _ (Nat.le_refl _)
theorem loopMB_ok {w : Nat} : ∀ m, m ≤ p.length → ∀ {r : Rel}, RelOk 16 r → RelOk 16 (Af (mtB p e w) m r) := fun m hm r h => loopN_ok (n := p.length) (fun b q hb hq => by
 unfold mtB; split
 ·exact hq
 ·exact loopMA_ok hp _ (Nat.le_refl _) hq) m r hm h
theorem loopMW_ok : ∀ m, m ≤ p.length → ∀ {r : Rel}, RelOk 16 r → RelOk 16 (Af (mtW p e) m r) := fun m hm r h => loopN_ok (n := p.length) (fun w q hw hq => by
 unfold mtW; split
 ·exact loopMB_ok hp _ (Nat.le_refl _) hq
 ·exact hq) m r hm h
end
section
variable {M : Aa}
set_option maxHeartbeats 4000000 in
theorem U9 (p : List Ev) (s : Value) (hs : Sl M 6 Hf s p) (hp : p.length ≤ 16) (bZ : Xa p) (e : Exec) (v : Value) (hv : IsX M v e) (az : e.frm.length = p.length) (bI : e.dn.length = p.length) (cl : ∀ i, i < p.length → Ae e i < p.length) :
  Con Tryz.prog 95 #[s, v] M [] fun u _ _ => u = F7 (J3 p e) := by
 obtain ⟨pa, pc, rfl, am⟩ := hs
 obtain ⟨f, d, o, n, rfl, ⟨fa, fc, rfl, bU⟩, ⟨da, dc, rfl, aH⟩, ⟨oa, oc, ovs, rfl, bG, bJ, bu⟩, ⟨na, nc, rfl, _⟩⟩ := hv
 refine Con.enter Q84_ok (args := [.slice pa p.length pc, .agg #[.slice fa e.frm.length fc, .slice da e.dn.length dc, .slice oa e.ord.length oc, .slice na e.fen.length nc]]) (by simp [Q84]) fun w0 => ?_
 simp only [Q84, A5]
 repeat' first
   | refine EV.seq ?_
   | refine EV.block ?_
   | refine rg ?_
   | (with_reducible intro b; try refine nx ?_)
   | exact ⟨⟩
   | fail
 obtain ⟨b5, rfl⟩ : ∃ x, x = b := ⟨_, rfl⟩
 obtain ⟨b4, rfl⟩ : ∃ x, x = b := ⟨_, rfl⟩
 obtain ⟨xb, rfl⟩ : ∃ x, x = b := ⟨_, rfl⟩
 obtain ⟨zs, hzs⟩ : ∃ zs : List Value, zs = [vw 0, vw 0, vw 0, vw 0, vw 0, vw 0, vw 0, vw 0, vw 0, vw 0, vw 0, vw 0, vw 0, vw 0, vw 0, vw 0] := ⟨_, rfl⟩
 refine EV.frz [(xb, Cl 37 [.slice fa e.frm.length fc, .slice da e.dn.length dc, .slice oa e.ord.length oc, .slice na e.fen.length nc])] ?_
 generalize hR : M.add _ = N
 have aC : M.le N := hR ▸ Aa.le_add _ _
 have au : rd N xb 0 4 [.slice fa e.frm.length fc, .slice da e.dn.length dc, .slice oa e.ord.length oc, .slice na e.fen.length nc] := hR ▸ Ap 0 rfl rfl (by simp)
 clear hR
 have dO := au.pt 0 1 (by omega) rfl
 have bP := au.pt 1 1 (by omega) rfl
 simp only [Nat.zero_add] at dO bP
 have bz := am.mono aC
 refine EV.loopTo (fun w : Nat => ([(0, .slice pa p.length pc), (3, pv xb 0), (4, pv b4 0), (5, pv b5 0), (6, vi w)], N, [(b5, Cl 95 ((Af (mtW p e) w Br).map vw)), (b4, Cl 95 zs)])) (fun w => w ≤ p.length) (fun w => p.length - w) 0 rfl (Nat.zero_le _) ?env1 (by subst hzs; exact List.Sublist.refl _) ?_
 case env1 =>
  exact eE
 intro w hw ih
 dsimp only at hw ih ⊢
 refine EV.seq ?_
 refine EV.seq ?_
 repeat' first
   | refine EV.skip ?_
   | refine rg ?_
   | (refine cX (fun h => ?_) (fun h => ?_) <;> try exact Ah h)
   | (refine EV.exit rfl ?_)
   | exact ⟨⟩
   | fail
 ·have fd : w < p.length := by omega
  obtain ⟨pb, po, rfl, cn⟩ := Sl.at (sz := 6) (enc := Hf) (fun _ => rfl) (by decide) bz (by omega)
  obtain ⟨fb, fo, rfl, ia⟩ := Sl.at (sz := 1) (enc := ei) (fun _ => rfl) (by decide) bU (by omega)
  obtain ⟨db, dof, rfl, eQ⟩ := Sl.at (sz := 1) (enc := eb) (fun _ => rfl) (by decide) aH (by omega)
  have fH : ∀ b, b < p.length → rd N pb (po + b * 6) 6 (Hf (evAt p b)) := fun b hb => by
   have := cn b hb
   rwa [← B8 hb] at this
  have cB : ∀ b, b < p.length → rd N fb (fo + b) 1 [vi (Ae e b)] := fun b hb => (B6 ia b (by omega)).mono aC
  have cp : ∀ b, b < p.length → rd N db (dof + b) 1 [vb (B0 e.dn b)] := fun b hb => by
   have := (eQ b (by omega)).mono aC
   rw [Nat.mul_one] at this
   rw [B0, List.getElem?_eq_getElem (by omega)]; exact this
  clear bJ bu bU am bz cn ia eQ aH
  have kO := loopMW_ok (e := e) hp w hw zero16_ok
  have ihk := ih (w + 1) (by omega) (by omega)
  simp only [Af, mtW] at ihk
  generalize Af (mtW p e) w Br = q0 at *
  have jo := cp w fd
  cases mZ : B0 e.dn w with
  | false =>
   rw [mZ] at jo ihk
   repeat' first
     | refine EV.seq ?_
     | refine EV.block ?_
     | refine rg ?_
     | (refine cX (fun h => ?_) (fun h => ?_) <;> try exact Ah h)
     | (refine EV.exit rfl ?_)
     | (refine And.intro (by omega) ?_)
     | ((first | refine xm ?_ | refine xn ?_ | fail); try refine nx ?_)
     | exact ⟨⟩
     | fail
   refine EV.to ihk ?_ (List.Sublist.refl _)
   exact eE
  | true =>
   rw [mZ] at jo ihk
   have fS : IntKind.u64.wrap (w : Int) = (w : Int) := Bd (by omega)
   have dE : ¬ ((w : Int) < 0) := by omega
   have gB := Gw (show w < 64 by omega)
   repeat' first
     | refine EV.seq ?_
     | refine EV.skip ?_
     | refine EV.block ?_
     | (refine EV.reg ?_; (conv => (arg 2; whnf)); (repeat first | refine nx ?_ | simp only [fS, dE, gB]))
     | (refine cX (fun h => ?_) (fun h => ?_) <;> try exact Ah h)
     | (refine And.intro (by omega) ?_)
     | ((first | refine xm ?_ | refine xn ?_ | fail); (repeat first | refine nx ?_ | simp only [fS, dE, gB]))
     | fail
   refine EV.loopTo (fun r : Nat => ([(0, .slice (some ⟨pb, po, none⟩) p.length pc), (3, pv xb 0), (4, pv b4 0), (5, pv b5 0), (6, vi w), (7, vw (chN p e r w)), (8, vi r)], N, [(b5, Cl 95 ((q0).map vw)), (b4, Cl 95 zs)])) (fun r => r ≤ p.length) (fun r => p.length - r) 0 rfl (Nat.zero_le _) ?env2 (List.Sublist.refl _) ?_
   case env2 =>
    exact eE
   intro r hr ih2
   dsimp only at hr ih2 ⊢
   repeat' first
     | refine EV.seq ?_
     | refine EV.skip ?_
     | refine EV.block ?_
     | refine rg ?_
     | (refine cX (fun h => ?_) (fun h => ?_) <;> try exact Ah h)
     | (refine EV.exit rfl ?_)
     | exact ⟨⟩
     | fail
   ·have bj : r < p.length := by omega
    have lQ := Z2 (e := e) hp fd r
    have ih3 := ih2 (r + 1) (by omega) (by omega)
    rw [show chN p e (r + 1) w = Af (chS e) p.length (chN p e r w) from rfl] at ih3
    generalize chN p e r w = c0 at *
    refine EV.loopTo (fun a : Nat => ([(0, .slice (some ⟨pb, po, none⟩) p.length pc), (3, pv xb 0), (4, pv b4 0), (5, pv b5 0), (6, vi w), (7, vw (Af (chS e) a c0)), (8, vi r), (9, vi a)], N, [(b5, Cl 95 ((q0).map vw)), (b4, Cl 95 zs)])) (fun a => a ≤ p.length) (fun a => p.length - a) 0 rfl (Nat.zero_le _) ?env3 (List.Sublist.refl _) ?_
    case env3 =>
     exact eE
    intro a ha ih4
    dsimp only at ha ih4 ⊢
    refine EV.seq ?_
    refine EV.seq ?_
    repeat' first
      | refine EV.skip ?_
      | refine EV.inBlock ?_
      | refine rg ?_
      | (refine cX (fun h => ?_) (fun h => ?_) <;> try exact Ah h)
      | (refine EV.exit rfl ?_)
      | exact ⟨⟩
      | fail
    ·have aT : a < p.length := by omega
     have hc := Ws (e := e) hp lQ a ha
     have ih5 := ih4 (a + 1) (by omega) (by omega)
     simp only [Af, chS] at ih5
     generalize Af (chS e) a c0 = c at *
     have tY := cp a aT
     have m4 := cB a aT
     have eP : IntKind.u64.wrap (a : Int) = (a : Int) := Bd (by omega)
     have cN : ¬ ((a : Int) < 0) := by omega
     have gx := Gw (show a < 64 by omega)
     have cU : c < 2 ^ 64 := Nat.lt_of_lt_of_le hc (by decide)
     have ai := Gx (b := a) cU (by omega)
     by_cases h0 : 0 ≤ Ae e a
     ·obtain ⟨u, hu⟩ : ∃ u : Nat, Ae e a = u := ⟨(Ae e a).toNat, by omega⟩
      have kQ := cl a aT
      rw [hu] at m4 kQ ih5
      have jT : IntKind.u64.wrap (u : Int) = (u : Int) := Bd (by omega)
      have cZ : ¬ ((u : Int) < 0) := by omega
      have an := H1 (b := u) cU (by omega)
      rw [Int.toNat_natCast, decide_eq_true (show (0 : Int) ≤ (u : Int) by omega), Bool.and_true] at ih5
      generalize pK : B0 e.dn a = y at *
      have r7 : decide ((0 : Int) ≤ (u : Int)) = true := decide_eq_true (by omega)
      repeat' first
        | refine EV.seq ?_
        | refine EV.skip ?_
        | refine EV.block ?_
        | refine EV.inBlock ?_
        | (refine EV.reg ?_; (conv => (arg 2; whnf)); (repeat first | refine nx ?_ | simp only [eP, cN, gx, ai, jT, cZ, an, r7, Bool.and_true]))
        | with_reducible assumption
        | (refine A0.merge ?_ (fun hc K' hK => ?_) ?_; rotate_left)
        | (refine cX (fun h => ?_) (fun h => ?_) <;> try exact Ah h)
        | (refine And.intro (by omega) ?_)
        | ((first | refine xm ?_ | refine xn ?_ | fail); (repeat first | refine nx ?_ | simp only [eP, cN, gx, ai, jT, cZ, an, r7, Bool.and_true]))
        | fail
      ·rw [Fc, if_pos (by simpa using h)] at ih5
       refine EV.to ih5 ?_ (List.Sublist.refl _)
       exact eE
      ·rw [Fc, if_neg (by rw [Bool.not_eq_true, Bool.and_eq_false_iff]; simpa using h)] at ih5
       refine EV.to ih5 ?_ (List.Sublist.refl _)
       exact eE
     ·have bh : decide ((0 : Int) ≤ Ae e a) = false := decide_eq_false h0
      rw [bh, Bool.and_false, Bool.false_and, Fc, if_neg (by decide)] at ih5
      generalize pK : B0 e.dn a = y at *
      repeat' first
        | refine EV.seq ?_
        | refine EV.skip ?_
        | refine EV.block ?_
        | refine EV.inBlock ?_
        | (refine EV.reg ?_; (conv => (arg 2; whnf)); (repeat first | refine nx ?_ | simp only [bh, Bool.and_false]))
        | with_reducible assumption
        | (refine A0.merge ?_ (fun hc K' hK => ?_) ?_; rotate_left)
        | (refine cX (fun h => ?_) (fun h => ?_) <;> try exact Ah h)
        | (refine And.intro (by omega) ?_)
        | ((first | refine xm ?_ | refine xn ?_ | fail); (repeat first | refine nx ?_ | simp only [bh, Bool.and_false]))
        | (exfalso; simp at hc; done)
        | fail
      refine EV.to ih5 ?_ (List.Sublist.refl _)
      exact eE
    ·have dG : a = p.length := by omega
     subst dG
     refine EV.to ih3 ?_ (List.Sublist.refl _)
     exact eE
   ·have hre : r = p.length := by omega
    subst hre
    have dW : chN p e p.length w = chW p e w := rfl
    have aO := Z2 (e := e) hp fd p.length
    rw [dW] at aO
    rw [dW]
    have jU : chW p e w < 2 ^ 64 := Nat.lt_of_lt_of_le aO (by decide)
    rw [if_pos rfl] at ihk
    have nm := fun m hm => loopMB_ok (e := e) (w := w) hp m hm kO
    refine EV.loopTo (fun c : Nat => ([(0, .slice (some ⟨pb, po, none⟩) p.length pc), (3, pv xb 0), (4, pv b4 0), (5, pv b5 0), (6, vi w), (7, vw (chW p e w)), (10, vi c)], N, [(b5, Cl 95 ((Af (mtB p e w) c q0).map vw)), (b4, Cl 95 zs)])) (fun c => c ≤ p.length) (fun c => p.length - c) 0 rfl (Nat.zero_le _) ?env4 (List.Sublist.refl _) ?_
    case env4 =>
     exact eE
    intro c hc ih3
    dsimp only at hc ih3 ⊢
    refine EV.seq ?_
    refine EV.seq ?_
    repeat' first
      | refine EV.skip ?_
      | refine EV.inBlock ?_
      | refine rg ?_
      | (refine cX (fun h => ?_) (fun h => ?_) <;> try exact Ah h)
      | (refine EV.exit rfl ?_)
      | exact ⟨⟩
      | fail
    ·have bq : c < p.length := by omega
     have iK := nm c hc
     have ih4 := ih3 (c + 1) (by omega) (by omega)
     simp only [Af, mtB] at ih4
     generalize Af (mtB p e w) c q0 = q1 at *
     have jO := cB c bq
     generalize ft : chW p e w = ch at *
     by_cases hgo : (decide (Ae e c < 0) || !ch.testBit (Ae e c).toNat) = true
     ·rw [if_pos hgo] at ih4
      by_cases h0 : Ae e c < 0
      ·have dd : decide (Ae e c < 0) = true := decide_eq_true h0
       repeat' first
         | refine EV.seq ?_
         | refine EV.block ?_
         | (refine EV.reg ?_; (conv => (arg 2; whnf)); (repeat first | refine nx ?_ | simp only [dd, Bool.true_or]))
         | (refine A0.merge ?_ (fun hc K' hK => ?_) ?_; rotate_left)
         | (refine cX (fun h => ?_) (fun h => ?_) <;> try exact Ah h)
         | (refine EV.exit rfl ?_)
         | (refine And.intro (by omega) ?_)
         | ((first | refine xm ?_ | refine xn ?_ | fail); (repeat first | refine nx ?_ | simp only [dd, Bool.true_or]))
         | (exfalso; simp at hc; done)
         | exact false
         | fail
       refine EV.to ih4 ?_ (List.Sublist.refl _)
       exact eE
      ·obtain ⟨u, hu⟩ : ∃ u : Nat, Ae e c = u := ⟨(Ae e c).toNat, by omega⟩
       have kQ := cl c bq
       rw [hu] at jO kQ hgo
       have jT : IntKind.u64.wrap (u : Int) = (u : Int) := Bd (by omega)
       have cZ : ¬ ((u : Int) < 0) := by omega
       have an := Wr (b := u) jU (by omega)
       have bh : decide ((u : Int) < 0) = false := decide_eq_false cZ
       rw [bh, Bool.false_or, Int.toNat_natCast] at hgo
       repeat' first
         | refine EV.seq ?_
         | refine EV.block ?_
         | (refine EV.reg ?_; (conv => (arg 2; whnf)); (repeat first | refine nx ?_ | simp only [jT, cZ, an, bh, Bool.false_or, hgo]))
         | with_reducible assumption
         | (refine A0.merge ?_ (fun hc K' hK => ?_) ?_; rotate_left)
         | (refine cX (fun h => ?_) (fun h => ?_) <;> try exact Ah h)
         | (refine EV.exit rfl ?_)
         | (refine And.intro (by omega) ?_)
         | ((first | refine xm ?_ | refine xn ?_ | fail); (repeat first | refine nx ?_ | simp only [jT, cZ, an, bh, Bool.false_or, hgo]))
         | fail
       refine EV.to ih4 ?_ (List.Sublist.refl _)
       exact eE
     ·rw [if_neg hgo] at ih4
      have dB : (decide (Ae e c < 0) || !ch.testBit (Ae e c).toNat) = false := by simpa using hgo
      rw [Bool.or_eq_false_iff] at dB
      have h0 : ¬ Ae e c < 0 := of_decide_eq_false dB.1
      obtain ⟨u, hu⟩ : ∃ u : Nat, Ae e c = u := ⟨(Ae e c).toNat, by omega⟩
      have kQ := cl c bq
      rw [hu] at jO kQ dB
      have jT : IntKind.u64.wrap (u : Int) = (u : Int) := Bd (by omega)
      have cZ : ¬ ((u : Int) < 0) := by omega
      have an := Wr (b := u) jU (by omega)
      have bh : decide ((u : Int) < 0) = false := decide_eq_false cZ
      have px := dB.2
      rw [Int.toNat_natCast] at px
      repeat' first
        | refine EV.seq ?_
        | refine EV.skip ?_
        | refine EV.block ?_
        | (refine EV.reg ?_; (conv => (arg 2; whnf)); (repeat first | refine nx ?_ | simp only [jT, cZ, an, bh, Bool.false_or, px]))
        | with_reducible assumption
        | (refine A0.merge ?_ (fun hc K' hK => ?_) ?_; rotate_left)
        | (refine cX (fun h => ?_) (fun h => ?_) <;> try exact Ah h)
        | (refine And.intro (by omega) ?_)
        | ((first | refine xm ?_ | refine xn ?_ | fail); (repeat first | refine nx ?_ | simp only [jT, cZ, an, bh, Bool.false_or, px]))
        | fail
      refine U8 (w := w) (c := c) hp bZ fH fd bq ?_
      refine Xs hp iK ?_
      repeat' first
        | refine EV.inBlock ?_
        | refine rg ?_
        | exact ⟨⟩
        | fail
      refine EV.to ih4 ?_ (List.Sublist.refl _)
      exact eE
    ·have jR : c = p.length := by omega
     subst jR
     refine EV.to ihk ?_ (List.Sublist.refl _)
     exact eE
 ·have tZ : w = p.length := by omega
  subst tZ
  have bQ : (Af (mtW p e) p.length Br).length = 16 := (loopMW_ok (e := e) hp _ (Nat.le_refl _) zero16_ok).len
  have aO : J3 p e = Af (mtW p e) p.length Br := rfl
  rw [aO]
  generalize Af (mtW p e) p.length Br = q at *
  repeat' first
    | refine EV.seq ?_
    | refine rg ?_
    | (refine Exists.intro _ (And.intro (Fd (f := vw) bQ) ?_); try refine nx ?_)
    | (refine xw ?_; refine nx ?_)
    | exact ⟨⟩
    | fail
  refine ⟨by subst hzs; simp, by rw [List.length_map, bQ], Ai5 _, ?_⟩
  rw [Ae2 (by rw [List.length_map, bQ]) (by subst hzs; rfl)]
  (refine rt Q84_ok ?_; try with_reducible exact ⟨⟩)
  exact ⟨_, Bv (T := 95) (cs := q.map vw) (by simp) (by rw [List.drop_zero, List.take_of_length_le (by rw [List.length_map, bQ]; exact Nat.le_refl _)]) (by rw [List.length_map, bQ]; exact Nat.le_refl _), rfl⟩
end
end Go.EV

namespace Go.EV
open Go.Proofs
inductive Kn (p : List Ev) (f : List Int) : Nat → Int → Prop
 | init {i : Nat} (hi : i < p.length) (hr : (evAt p i).reads = true) (h : Bu f i = -1) : Kn p f i 0
 | store {i w : Nat} (hi : i < p.length) (hr : (evAt p i).reads = true) (h : Bu f i = w) (hk : (evAt p w).op.kind = 1) : Kn p f i (evAt p w).op.v
 | cas {i w : Nat} (hi : i < p.length) (hr : (evAt p i).reads = true) (h : Bu f i = w) (hk : (evAt p w).op.kind = 3 ∨ (evAt p w).op.kind = 4) : Kn p f i (evAt p w).op.w
 | add {i w : Nat} {x : Int} (hi : i < p.length) (hr : (evAt p i).reads = true) (h : Bu f i = w) (hk : (evAt p w).op.kind = 2) (hw : Kn p f w x) : Kn p f i (IntKind.i64.wrap (x + (evAt p w).op.v))
theorem Kn.lt {p : List Ev} {f : List Int} {i : Nat} {x : Int} (h : Kn p f i x) : i < p.length ∧ (evAt p i).reads = true := by cases h <;> exact ⟨by assumption, by assumption⟩
theorem Kn.uniq {p : List Ev} {f : List Int} {i : Nat} {x y : Int} (h : Kn p f i x) (k : Kn p f i y) : x = y := by
 induction h generalizing y with
 | init hi hr h => cases k with
  | init => rfl
  | store _ _ h' => omega
  | cas _ _ h' => omega
  | add _ _ h' => omega
 | @store i w hi hr h hk => cases k with
  | init _ _ h' => omega
  | @store _ w' _ _ h' a8 =>
   have : w' = w := by omega
   subst this; rfl
  | @cas _ w' _ _ h' a8 =>
   have : w' = w := by omega
   subst this; omega
  | @add _ w' _ _ _ h' a8 =>
   have : w' = w := by omega
   subst this; omega
 | @cas i w hi hr h hk => cases k with
  | init _ _ h' => omega
  | @store _ w' _ _ h' a8 =>
   have : w' = w := by omega
   subst this; omega
  | @cas _ w' _ _ h' a8 =>
   have : w' = w := by omega
   subst this; rfl
  | @add _ w' _ _ _ h' a8 =>
   have : w' = w := by omega
   subst this; omega
 | @add i w x hi hr h hk hw ih => cases k with
  | init _ _ h' => omega
  | @store _ w' _ _ h' a8 =>
   have : w' = w := by omega
   subst this; omega
  | @cas _ w' _ _ h' a8 =>
   have : w' = w := by omega
   subst this; omega
  | @add _ w' y _ _ h' a8 fd =>
   have : w' = w := by omega
   subst this; rw [ih fd]
theorem Kn.ends {p : List Ev} {f : List Int} {i : Nat} {x : Int} (h : Kn p f i x) (g : Nat → Nat) (h0 : g 0 = i) (hg : ∀ j, Bu f (g j) = (g (j + 1) : Nat) ∧ (evAt p (g (j + 1))).op.kind = 2) : False := by
 induction h generalizing g with
 | init hi hr h => have := (hg 0).1; rw [h0] at this; omega
 | @store i w hi hr h hk =>
  have h1 := hg 0
  rw [h0, Nat.zero_add] at h1
  have : w = g 1 := by omega
  rw [this] at hk; omega
 | @cas i w hi hr h hk =>
  have h1 := hg 0
  rw [h0, Nat.zero_add] at h1
  have : w = g 1 := by omega
  rw [this] at hk; omega
 | @add i w x hi hr h hk hw ih =>
  have h1 := hg 0
  rw [h0, Nat.zero_add] at h1
  exact ih (fun j => g (j + 1)) (by show g 1 = w; omega) (fun j => hg (j + 1))
theorem Tc {n m : Nat} {g : Nat → Nat} {F : Nat → Int} {Q : Nat → Prop} (hm : n ≤ m) (hl : ∀ j, j ≤ m → g j < n) (hg : ∀ j, j < m → F (g j) = (g (j + 1) : Nat) ∧ Q (g (j + 1))) : ∃ G : Nat → Nat, G 0 = g 0 ∧ ∀ j, F (G j) = (G (j + 1) : Nat) ∧ Q (G (j + 1)) := by
 -- two places alike
 have py : ∃ a b, a < b ∧ b ≤ m ∧ g a = g b := by
  apply Classical.byContradiction
  intro aK
  have bm : ((List.range (m + 1)).map g).Nodup := by
   rw [List.nodup_iff_pairwise_ne, List.pairwise_map, List.pairwise_iff_getElem]
   intro i j hi hj gQ he
   rw [List.length_range] at hi hj
   simp only [List.getElem_range] at he
   exact aK ⟨i, j, gQ, by omega, he⟩
  have := Nf n _ bm (fun x hx => by
   obtain ⟨i, hi, rfl⟩ := List.mem_map.1 hx
   rw [List.mem_range] at hi
   exact hl i (by omega))
  simp at this
  omega
 obtain ⟨a, b, fD, ug, he⟩ := py
 -- place j, seen before b
 let red : Nat → Nat := fun j => if j < b then j else a + (j - a) % (b - a)
 have m5 : ∀ j, red j < b := by
  intro j
  show (if j < b then j else a + (j - a) % (b - a)) < b
  split
  ·assumption
  ·have := Nat.mod_lt (j - a) (show 0 < b - a by omega); omega
 refine ⟨fun j => g (red j), by show g (red 0) = g 0; congr 1; show (if 0 < b then 0 else _) = 0; rw [if_pos (by omega)], fun j => ?_⟩
 have h1 := hg (red j) (by have := m5 j; omega)
 have hs : g (red j + 1) = g (red (j + 1)) := by
  have hr := m5 j
  by_cases hj : j + 1 < b
  ·have e1 : red j = j := by show (if j < b then j else _) = j; rw [if_pos (by omega)]
   have e2 : red (j + 1) = j + 1 := by show (if j + 1 < b then j + 1 else _) = j + 1; rw [if_pos hj]
   rw [e1, e2]
  ·have e2 : red (j + 1) = a + (j + 1 - a) % (b - a) := by show (if j + 1 < b then j + 1 else _) = _; rw [if_neg hj]
   have e1 : red j = a + (j - a) % (b - a) := by
    show (if j < b then j else _) = _
    split
    ·rw [Nat.mod_eq_of_lt (by omega)]; omega
    ·rfl
   rw [e1, e2]
   have gG := Nat.mod_lt (j - a) (show 0 < b - a by omega)
   have pz : (j + 1 - a) % (b - a) = if (j - a) % (b - a) + 1 = b - a then 0 else (j - a) % (b - a) + 1 := by
    have e3 : j + 1 - a = (j - a) + 1 := by omega
    rw [e3]
    split
    ·rename_i h
     rw [Nat.add_mod, ← h]
     rw [h]
     by_cases h1 : b - a = 1
     ·rw [h1]; omega
     ·rw [Nat.mod_eq_of_lt (show 1 < b - a by omega), h, Nat.mod_self]
    ·rename_i h
     rw [Nat.add_mod]
     by_cases h1 : b - a = 1
     ·rw [h1] at h gG; omega
     ·rw [Nat.mod_eq_of_lt (show 1 < b - a by omega), Nat.mod_eq_of_lt (by omega)]
   rw [pz]
   split
   ·rename_i h
    have : a + (j - a) % (b - a) + 1 = b := by omega
    rw [this, Nat.add_zero]; exact he.symm
   ·rfl
 rw [hs] at h1
 exact h1
section
variable {p : List Ev} {f : List Int}
structure Wd.Knows (p : List Ev) (f : List Int) (s : Wd) : Prop where
 k : ∀ i, s.K i = true → Kn p f i (s.R i)
 t : ∀ i, s.T i = true → ((evAt p i).op.kind = 1 ∧ s.W i = (evAt p i).op.v) ∨ ((evAt p i).op.kind = 2 ∧ ∃ x, Kn p f i x ∧ s.W i = IntKind.i64.wrap (x + (evAt p i).op.v)) ∨ (((evAt p i).op.kind = 3 ∨ (evAt p i).op.kind = 4) ∧ s.W i = (evAt p i).op.w)
theorem Wd.Knows.read {s : Wd} (h : s.Knows p f) {i w : Nat} (hi : i < p.length) (hr : (evAt p i).reads = true) (hw : Bu f i = w) (ht : s.T w = true) : Kn p f i (s.W w) := by
 rcases h.t w ht with ⟨h1, h2⟩ | ⟨h1, x, h2, h3⟩ | ⟨h1, h2⟩
 ·rw [h2]; exact .store hi hr hw h1
 ·rw [h3]; exact .add hi hr hw h1 h2
 ·rw [h2]; exact .cas hi hr hw h1
theorem Td (hf : Cr p f) {s : Wd} {i : Nat} (hi : i < p.length) (ba : s.Inv p f) (h : s.Knows p f) : (B5 p f s i).Knows p f := by
 have hl := ba.len
 have dp : i < s.k.length := by rw [hl.k]; exact hi
 have iY : i < s.r.length := by rw [hl.r]; exact hi
 unfold B5
 split
 ·rename_i hc
  simp only [Bool.and_eq_true, decide_eq_true_eq] at hc
  have hK : ∀ j, ({ s with k := s.k.set i true } : Wd).K j = if j = i then true else s.K j := fun j => Ba dp
  refine ⟨fun j hj => ?_, h.t⟩
  rw [hK] at hj
  by_cases ar : j = i
  ·subst ar
   show Kn p f j (s.R j)
   cases hk : s.K j with
   | true => exact h.k j hk
   | false => rw [ba.n j hk]; exact .init hi hc.1 hc.2
  ·rw [if_neg ar] at hj; exact h.k j hj
 ·split
  ·rename_i hc dT
   simp only [Bool.and_eq_true, decide_eq_true_eq, not_and] at hc dT
   have hne : Bu f i ≠ -1 := hc dT.1
   obtain ⟨w, hw⟩ : ∃ w : Nat, Bu f i = w := by
    rcases hf.2 i hi dT.1 with h1 | ⟨h1, _⟩
    ·exact absurd h1 hne
    ·exact ⟨(Bu f i).toNat, by unfold Bu; omega⟩
   have kp : (f[i]?.getD 0).toNat = w := by unfold Bu at hw; omega
   rw [kp] at dT
   rw [kp]
   have hK : ∀ j, ({ s with r := s.r.set i (s.w[w]?.getD 0), k := s.k.set i true } : Wd).K j = if j = i then true else s.K j := fun j => Ba dp
   have hR : ∀ j, ({ s with r := s.r.set i (s.w[w]?.getD 0), k := s.k.set i true } : Wd).R j = if j = i then s.W w else s.R j := fun j => Ba iY
   refine ⟨fun j hj => ?_, h.t⟩
   rw [hK] at hj
   rw [hR]
   by_cases ar : j = i
   ·subst ar; rw [if_pos rfl]; exact h.read hi dT.1 hw dT.2
   ·rw [if_neg ar] at hj ⊢; exact h.k j hj
  ·exact h
theorem Rq {s : Wd} {i : Nat} (hi : i < p.length) (hl : s.Len p.length) (h : s.Knows p f) : (Cg p s i).Knows p f := by
 have ku : i < s.w.length := by rw [hl.w]; exact hi
 have bi : i < s.t.length := by rw [hl.t]; exact hi
 have key : ∀ (x : Int) (b : Bool), (b = true → ((evAt p i).op.kind = 1 ∧ x = (evAt p i).op.v) ∨ ((evAt p i).op.kind = 2 ∧ ∃ y, Kn p f i y ∧ x = IntKind.i64.wrap (y + (evAt p i).op.v)) ∨ (((evAt p i).op.kind = 3 ∨ (evAt p i).op.kind = 4) ∧ x = (evAt p i).op.w)) →
   ({ s with w := s.w.set i x, t := s.t.set i b } : Wd).Knows p f := by
  intro x b h2
  have hT : ∀ j, ({ s with w := s.w.set i x, t := s.t.set i b } : Wd).T j = if j = i then b else s.T j := fun j => Ba bi
  have hW : ∀ j, ({ s with w := s.w.set i x, t := s.t.set i b } : Wd).W j = if j = i then x else s.W j := fun j => Ba ku
  refine ⟨h.k, fun j hj => ?_⟩
  rw [hT] at hj
  rw [hW]
  by_cases ar : j = i
  ·subst ar; rw [if_pos rfl] at hj ⊢; exact h2 hj
  ·rw [if_neg ar] at hj ⊢; exact h.t j hj
 unfold Cg
 split
 ·rename_i hk; exact key _ _ fun _ => .inl ⟨hk, rfl⟩
 ·split
  ·rename_i hk; exact key _ _ fun hb => .inr (.inl ⟨hk, _, h.k i hb, rfl⟩)
  ·split
   ·rename_i hk; exact key _ _ fun _ => .inr (.inr ⟨hk, rfl⟩)
   ·exact h
theorem Ob (hf : Cr p f) {s : Wd} (ba : s.Inv p f) (h : s.Knows p f) : ∀ m, m ≤ p.length → (Cu p f s m).Knows p f
 | 0, _ => h
 | m + 1, hm => by
  have ih := Ob hf ba h m (by omega)
  have hi := (Ee hf ba m (by omega)).1
  exact Rq (by omega) (Pt hf (i := m) (by omega) hi).1.len (Td hf (by omega) hi ih)
theorem Lm (hf : Cr p f) : ∀ k, (Be p f k).Knows p f
 | 0 => by
  have hT : ∀ i, (wd0 p.length).T i = false := fun i => by simp only [Wd.T, wd0, List.getElem?_replicate]; split <;> rfl
  have hK : ∀ i, (wd0 p.length).K i = false := fun i => by simp only [Wd.K, wd0, List.getElem?_replicate]; split <;> rfl
  exact ⟨fun i h => absurd ((hK i).symm.trans h) (by decide), fun i h => absurd ((hT i).symm.trans h) (by decide)⟩
 | k + 1 => Ob hf (Cp hf k) (Lm hf k) _ (Nat.le_refl _)
theorem Ln (hf : Cr p f) (hs : Km p f) : ∀ (m i : Nat), i < p.length → (evAt p i).reads = true → (Be p f (m + 1)).K i = false →
  ∃ g : Nat → Nat, g 0 = i ∧ (∀ j, j ≤ m → g j < p.length) ∧ ∀ j, j < m → Bu f (g j) = (g (j + 1) : Nat) ∧ (evAt p (g (j + 1))).op.kind = 2
 | 0, i, hi, _, _ => ⟨fun _ => i, rfl, fun _ _ => hi, fun j hj => by omega⟩
 | m + 1, i, hi, hr, hk => by
  obtain ⟨_, _, h3, _, _⟩ := Ee hf (Cp hf (m + 1)) p.length (Nat.le_refl _)
  obtain ⟨_, _, _, k4, _⟩ := Ee hf (Cp hf m) p.length (Nat.le_refl _)
  have hn : Bu f i ≠ -1 := fun e => by
   have := h3 i hi ⟨hr, .inl e⟩
   rw [show Cu p f (Be p f (m + 1)) p.length = Be p f (m + 1 + 1) from rfl, hk] at this; cases this
  obtain ⟨w, hw⟩ : ∃ w : Nat, Bu f i = w := by
   rcases hf.2 i hi hr with h1 | ⟨h1, _⟩
   ·exact absurd h1 hn
   ·exact ⟨(Bu f i).toNat, by unfold Bu; omega⟩
  obtain ⟨cF, cG, sm⟩ := hs i w hi hr hw
  have hT : (Be p f (m + 1)).T w = false := by
   cases ht : (Be p f (m + 1)).T w with
   | false => rfl
   | true =>
    have := h3 i hi ⟨hr, .inr ⟨w, hw, ht⟩⟩
    rw [show Cu p f (Be p f (m + 1)) p.length = Be p f (m + 1 + 1) from rfl, hk] at this; cases this
  have cD : (evAt p w).op.kind = 2 := by
   apply Decidable.byContradiction; intro h2
   have := k4 w cF (by omega)
   rw [show Cu p f (Be p f m) p.length = Be p f (m + 1) from rfl, hT] at this; cases this
  have jL : (Be p f (m + 1)).K w = false := by
   cases ht : (Be p f (m + 1)).K w with
   | false => rfl
   | true =>
    have := k4 w cF (.inr (.inl ⟨cD, ht⟩))
    rw [show Cu p f (Be p f m) p.length = Be p f (m + 1) from rfl, hT] at this; cases this
  obtain ⟨g, g1, g2, g3⟩ := Ln hf hs m w cF (by simp [Ev.reads, cD]) jL
  refine ⟨fun j => if j = 0 then i else g (j - 1), rfl, fun j hj => ?_, fun j hj => ?_⟩
  ·by_cases h0 : j = 0
   ·simp [h0, hi]
   ·simp only [h0, if_false]; exact g2 _ (by omega)
  ·by_cases h0 : j = 0
   ·subst h0; simpa [g1] using ⟨hw, cD⟩
   ·have := g3 (j - 1) (by omega)
    rw [show j - 1 + 1 = j by omega] at this
    simpa [h0] using this
theorem Oc (hf : Cr p f) (hs : Km p f) {i : Nat} (hi : i < p.length) (hr : (evAt p i).reads = true) : ((An p f).K i = true ↔ ∃ x, Kn p f i x) ∧ ∀ x, Kn p f i x → (An p f).R i = x := by
 have hk := Lm hf (p.length + 1)
 have hall : ∀ x, Kn p f i x → (An p f).K i = true := by
  intro x hx
  cases h : (An p f).K i with
  | true => rfl
  | false =>
   exfalso
   obtain ⟨g, g1, g2, g3⟩ := Ln hf hs p.length i hi hr h
   obtain ⟨G, e1, e2⟩ := Tc (F := Bu f) (Q := fun w => (evAt p w).op.kind = 2) (Nat.le_refl _) g2 g3
   exact hx.ends G (e1.trans g1) e2
 refine ⟨⟨fun h => ⟨_, hk.k i h⟩, fun ⟨x, hx⟩ => hall x hx⟩, fun x hx => (hk.k i (hall x hx)).uniq hx⟩
end
def O3 (p : List Ev) (e : Exec) : Prop := ∀ i x, Kn p e.frm i x →
 ((evAt p i).op.kind = 3 → (B0 e.dn i = true ↔ x = (evAt p i).op.v)) ∧ ((evAt p i).op.kind = 4 → B0 e.dn i = true → x = (evAt p i).op.v)
theorem P9 {p : List Ev} {e : Exec} (hs : Shape p e) (al : Sg p e) {i : Nat} (hi : i < p.length) (hr : (evAt p i).reads = true) : Kn p e.frm i ((An p e.frm).R i) := by
 have h := Gq hs.fromOk hs.srcOk al hi hr
 obtain ⟨x, hx⟩ := (Oc hs.fromOk hs.srcOk hi hr).1.1 h
 rw [(Oc hs.fromOk hs.srcOk hi hr).2 x hx]; exact hx
theorem Te {p : List Ev} {e : Exec} (hs : Shape p e) (al : Sg p e) : O3 p e ↔ Sp p e := by
 constructor
 ·intro h i hi
  refine ⟨fun k3 => ?_, fun k4 => ?_⟩
  ·exact (h i _ (P9 hs al hi (by simp [Ev.reads, k3]))).1 k3
  ·exact (h i _ (P9 hs al hi (by simp [Ev.reads, k4]))).2 k4
 ·intro h i x hx
  obtain ⟨hi, hr⟩ := hx.lt
  have := (Oc hs.fromOk hs.srcOk hi hr).2 x hx
  rw [← this]; exact h i hi
open Classical in
noncomputable def B7 (p : List Ev) (e : Exec) : Int :=
 if Shape p e ∧ O3 p e then (if Gp p e then 2 else if Rc p e then 3 else if K9 p e then 0 else 4) else 1
theorem Kp {p : List Ev} (hp : POk p) (hm : Lw p) {e : Exec} : B7 p e = 0 ↔ e ∈ Fx p := by
 rw [Rg hp hm]
 unfold B7
 constructor
 ·intro h
  split at h
  ·rename_i hs
   split at h
   ·cases h
   ·rename_i hr
    split at h
    ·cases h
    ·rename_i hc
     split at h
     ·rename_i hn
      exact ⟨hs.1, (Te hs.1 (Gp.rfOk hr)).1 hs.2, ⟨hr, hc, hn⟩⟩
     ·cases h
  ·cases h
 ·rintro ⟨hs, hw, hc⟩
  rw [if_pos ⟨hs, (Te hs (Gp.rfOk hc.round)).2 hw⟩, if_neg hc.round, if_neg hc.cross, if_pos hc.next]
end Go.EV

namespace Go.EV
open Go.Proofs
structure Rk where
 r : List Int
 l : List Int
 k : List Bool
 f : List Bool
def Rk.R (s : Rk) (i : Nat) : Int := s.r[i]?.getD 0
def Rk.L (s : Rk) (i : Nat) : Int := s.l[i]?.getD 0
def Rk.K (s : Rk) (i : Nat) : Bool := s.k[i]?.getD false
def Rk.F (s : Rk) (i : Nat) : Bool := s.f[i]?.getD false
structure Rk.Len (s : Rk) (n : Nat) : Prop where
 r : s.r.length = n
 l : s.l.length = n
 k : s.k.length = n
 f : s.f.length = n
def Qa (p : List Ev) (i : Nat) (s : Rk) : Rk :=
 { s with f := s.f.set i (decide ((evAt p i).op.kind ≠ 2)), l := if (evAt p i).op.kind = 1 then s.l.set i (evAt p i).op.v else if (evAt p i).op.kind = 3 ∨ (evAt p i).op.kind = 4 then s.l.set i (evAt p i).op.w else s.l }
def rk0 (p : List Ev) : Rk := Af (Qa p) p.length ⟨List.replicate p.length 0, List.replicate p.length 0, List.replicate p.length false, List.replicate p.length false⟩
def Bw (f : List Int) (i : Nat) (s : Rk) : Rk := { s with k := s.k.set i true, r := if 0 ≤ Bu f i then s.r.set i (s.l[(Bu f i).toNat]?.getD 0) else s.r }
def Fq (p : List Ev) (i : Nat) (s : Rk) : Rk := if (evAt p i).op.kind = 2 then { s with l := s.l.set i (IntKind.i64.wrap (s.r[i]?.getD 0 + (evAt p i).op.v)), f := s.f.set i true } else s
def Cs (p : List Ev) (f : List Int) (i : Nat) (s : Rk) : Rk :=
 if s.K i || (decide (0 ≤ Bu f i) && !s.F (Bu f i).toNat) then s else Fq p i (Bw f i s)
def Im (p : List Ev) (f : List Int) (s : Rk) : Rk := Af (Cs p f) p.length s
def Bf (p : List Ev) (f : List Int) : Rk := Af (fun _ s => Im p f s) (p.length + 1) (rk0 p)
section
variable {p : List Ev} {f : List Int}
structure Rk.Ok (p : List Ev) (f : List Int) (s : Rk) : Prop where
 len : s.Len p.length
 out : ∀ i, i < p.length → (evAt p i).reads = false → s.R i = 0
 kn : ∀ i, i < p.length → (evAt p i).reads = true → s.K i = true → Kn p f i (s.R i)
 no : ∀ i, s.K i = false → s.R i = 0
 st : ∀ i, i < p.length → (evAt p i).op.kind = 1 → s.F i = true ∧ s.L i = (evAt p i).op.v
 cs : ∀ i, i < p.length → ((evAt p i).op.kind = 3 ∨ (evAt p i).op.kind = 4) → s.F i = true ∧ s.L i = (evAt p i).op.w
 ad : ∀ i, i < p.length → (evAt p i).op.kind = 2 → (s.F i = true ↔ s.K i = true) ∧ (s.K i = true → s.L i = IntKind.i64.wrap (s.R i + (evAt p i).op.v))
theorem Wt (p : List Ev) : ∀ m, m ≤ p.length → (Af (Qa p) m ⟨List.replicate p.length 0, List.replicate p.length 0, List.replicate p.length false, List.replicate p.length false⟩).Len p.length ∧
  (∀ i, (Af (Qa p) m ⟨List.replicate p.length 0, List.replicate p.length 0, List.replicate p.length false, List.replicate p.length false⟩).R i = 0) ∧
  (∀ i, (Af (Qa p) m ⟨List.replicate p.length 0, List.replicate p.length 0, List.replicate p.length false, List.replicate p.length false⟩).K i = false) ∧
  (∀ i, (Af (Qa p) m ⟨List.replicate p.length 0, List.replicate p.length 0, List.replicate p.length false, List.replicate p.length false⟩).F i = (decide (i < m) && decide ((evAt p i).op.kind ≠ 2))) ∧
  (∀ i, i < m → ((evAt p i).op.kind = 1 → (Af (Qa p) m ⟨List.replicate p.length 0, List.replicate p.length 0, List.replicate p.length false, List.replicate p.length false⟩).L i = (evAt p i).op.v) ∧
   (((evAt p i).op.kind = 3 ∨ (evAt p i).op.kind = 4) → (Af (Qa p) m ⟨List.replicate p.length 0, List.replicate p.length 0, List.replicate p.length false, List.replicate p.length false⟩).L i = (evAt p i).op.w))
 | 0, _ => by
  refine ⟨⟨by simp [Af], by simp [Af], by simp [Af], by simp [Af]⟩, fun i => ?_, fun i => ?_, fun i => ?_, fun i h => by omega⟩
  ·simp only [Af, Rk.R, List.getElem?_replicate]; split <;> rfl
  ·simp only [Af, Rk.K, List.getElem?_replicate]; split <;> rfl
  ·simp only [Af, Rk.F, List.getElem?_replicate]
   have : decide (i < 0) = false := decide_eq_false (Nat.not_lt_zero _)
   rw [this, Bool.false_and]; split <;> rfl
 | m + 1, hm => by
  obtain ⟨hl, h1, h2, h3, h4⟩ := Wt p m (by omega)
  rw [Af]
  generalize Af (Qa p) m ⟨List.replicate p.length 0, List.replicate p.length 0, List.replicate p.length false, List.replicate p.length false⟩ = s at hl h1 h2 h3 h4 ⊢
  have az : m < s.f.length := by rw [hl.f]; omega
  have be : m < s.l.length := by rw [hl.l]; omega
  refine ⟨⟨hl.r, ?_, hl.k, by simp [Qa, hl.f]⟩, h1, h2, fun i => ?_, fun i hi => ?_⟩
  ·unfold Qa; dsimp only; split
   ·simp [hl.l]
   ·split <;> simp [hl.l]
  ·show (s.f.set m (decide ((evAt p m).op.kind ≠ 2)))[i]?.getD false = _
   rw [Ba az]
   by_cases fX : i = m
   ·subst fX; simp
   ·rw [if_neg fX]
    have : decide (i < m + 1) = decide (i < m) := by rw [decide_eq_decide]; omega
    rw [this]; exact h3 i
  ·have hL : (Qa p m s).L i = if i = m then (if (evAt p m).op.kind = 1 then (evAt p m).op.v else if (evAt p m).op.kind = 3 ∨ (evAt p m).op.kind = 4 then (evAt p m).op.w else s.L i) else s.L i := by
    unfold Qa Rk.L
    dsimp only
    split
    ·rw [Ba be]
    ·split
     ·rw [Ba be]
     ·split <;> rfl
   rw [hL]
   by_cases fX : i = m
   ·subst fX
    rw [if_pos rfl]
    refine ⟨fun hk => by rw [if_pos hk], fun hk => by rw [if_neg (by omega), if_pos hk]⟩
   ·rw [if_neg fX]; exact h4 i (by omega)
theorem rk0_ok (p : List Ev) (f : List Int) : (rk0 p).Ok p f := by
 obtain ⟨hl, h1, h2, h3, h4⟩ := Wt p p.length (Nat.le_refl _)
 refine ⟨hl, fun i _ _ => h1 i, fun i _ _ h => ?_, fun i _ => h1 i, fun i hi hk => ⟨?_, (h4 i hi).1 hk⟩, fun i hi hk => ⟨?_, (h4 i hi).2 hk⟩, fun i hi hk => ⟨?_, fun h => ?_⟩⟩
 ·have := h2 i
  rw [show (rk0 p).K i = false from this] at h; cases h
 ·show (rk0 p).F i = true
  have := h3 i
  rw [show (rk0 p).F i = _ from this, decide_eq_true hi]; simp [hk]
 ·show (rk0 p).F i = true
  have := h3 i
  rw [show (rk0 p).F i = _ from this, decide_eq_true hi]; simp; omega
 ·have e1 : (rk0 p).K i = false := h2 i
  have e2 : (rk0 p).F i = _ := h3 i
  rw [e1, e2]; simp [hk]
 ·have e1 : (rk0 p).K i = false := h2 i
  rw [e1] at h; cases h
theorem rkStep_ok (hf : Cr p f) (hs : Km p f) (ac : ∀ i, i < p.length → (evAt p i).reads = false → Bu f i < 0) {s : Rk} {i : Nat} (hi : i < p.length) (h : s.Ok p f) : (Cs p f i s).Ok p f := by
 unfold Cs
 split
 ·exact h
 rename_i hc
 simp only [Bool.or_eq_true, Bool.and_eq_true, decide_eq_true_eq, Bool.not_eq_true', not_or, not_and, Bool.not_eq_true] at hc
 obtain ⟨je, qA⟩ := hc
 have hl := h.len
 have dp : i < s.k.length := by rw [hl.k]; exact hi
 have iY : i < s.r.length := by rw [hl.r]; exact hi
 -- what is read
 obtain ⟨x, hx, gK⟩ : ∃ x, (Bw f i s).r = (if 0 ≤ Bu f i then s.r.set i x else s.r) ∧ ((evAt p i).reads = true → Kn p f i (if 0 ≤ Bu f i then x else s.R i)) := by
  refine ⟨s.l[(Bu f i).toNat]?.getD 0, rfl, fun hr => ?_⟩
  rcases hf.2 i hi hr with h0 | ⟨h0, h1⟩
  ·have ne : Bu f i = -1 := h0
   rw [if_neg (by omega), h.no i je]; exact .init hi hr ne
  ·have ne : 0 ≤ Bu f i := h0
   rw [if_pos ne]
   obtain ⟨w, hw⟩ : ∃ w : Nat, Bu f i = w := ⟨(Bu f i).toNat, by omega⟩
   have dE : (Bu f i).toNat = w := by omega
   obtain ⟨cF, k1, k4⟩ := hs i w hi hr hw
   have hF : s.F w = true := by
    have := qA ne
    rw [dE] at this
    simpa using this
   rw [dE]
   show Kn p f i (s.L w)
   by_cases q1 : (evAt p w).op.kind = 1
   ·rw [(h.st w cF q1).2]; exact .store hi hr hw q1
   ·by_cases q2 : (evAt p w).op.kind = 2
    ·obtain ⟨a1, a2⟩ := h.ad w cF q2
     have jL := a1.1 hF
     rw [a2 jL]; exact .add hi hr hw q2 (h.kn w cF (by simp [Ev.reads, q2]) jL)
    ·rw [(h.cs w cF (by omega)).2]; exact .cas hi hr hw (by omega)
 have qB : ∀ j, (Bw f i s).R j = if j = i ∧ 0 ≤ Bu f i then x else s.R j := by
  intro j
  unfold Rk.R
  rw [hx]
  by_cases h0 : 0 ≤ Bu f i
  ·rw [if_pos h0, Ba iY]
   by_cases ar : j = i
   ·rw [if_pos ar, if_pos ⟨ar, h0⟩]
   ·rw [if_neg ar, if_neg (fun h => ar h.1)]
  ·rw [if_neg h0, if_neg (fun h => h0 h.2)]
 have m6 : ∀ j, (Bw f i s).K j = if j = i then true else s.K j := fun j => Ba dp
 have r8 : (Bw f i s).l = s.l := rfl
 have r9 : (Bw f i s).f = s.f := rfl
 have cq : (Bw f i s).Len p.length := ⟨by rw [hx]; split <;> simp [hl.r], hl.l, by simp [Bw, hl.k], hl.f⟩
 have hne : ∀ j, j ≠ i → (Bw f i s).R j = s.R j := fun j hj => by rw [qB, if_neg (fun h => hj h.1)]
 have jV : ∀ j, j < p.length → (evAt p j).reads = false → (Bw f i s).R j = 0 := fun j hj hr => by
  rw [qB]
  split
  ·rename_i hc; have := ac j hj hr; rw [hc.1] at this; omega
  ·exact h.out j hj hr
 have m7 : ∀ j, j < p.length → (evAt p j).reads = true → (Bw f i s).K j = true → Kn p f j ((Bw f i s).R j) := fun j hj hr dI => by
  by_cases ar : j = i
  ·subst ar
   have := gK hr
   rw [qB]
   by_cases h0 : 0 ≤ Bu f j
   ·rw [if_pos h0] at this; rw [if_pos ⟨rfl, h0⟩]; exact this
   ·rw [if_neg h0] at this; rw [if_neg (fun h => h0 h.2)]; exact this
  ·rw [hne j ar]; rw [m6, if_neg ar] at dI; exact h.kn j hj hr dI
 have m8 : ∀ j, (Bw f i s).K j = false → (Bw f i s).R j = 0 := fun j dI => by
  rw [m6] at dI
  by_cases ar : j = i
  ·rw [if_pos ar] at dI; cases dI
  ·rw [if_neg ar] at dI; rw [hne j ar]; exact h.no j dI
 unfold Fq
 split
 ·rename_i cD
  have cw : i < (Bw f i s).l.length := by rw [cq.l]; exact hi
  have kC : i < (Bw f i s).f.length := by rw [cq.f]; exact hi
  generalize bo : Bw f i s = s1 at *
  have kR : ∀ j, ({ s1 with l := s1.l.set i (IntKind.i64.wrap (s1.r[i]?.getD 0 + (evAt p i).op.v)), f := s1.f.set i true } : Rk).L j = if j = i then IntKind.i64.wrap (s1.R i + (evAt p i).op.v) else s.L j := fun j => by
   show (s1.l.set i _)[j]?.getD 0 = _
   rw [Ba cw]; split
   ·rfl
   ·show s1.l[j]?.getD 0 = _; rw [r8]; rfl
  have kS : ∀ j, ({ s1 with l := s1.l.set i (IntKind.i64.wrap (s1.r[i]?.getD 0 + (evAt p i).op.v)), f := s1.f.set i true } : Rk).F j = if j = i then true else s.F j := fun j => by
   show (s1.f.set i true)[j]?.getD false = _
   rw [Ba kC]; split
   ·rfl
   ·show s1.f[j]?.getD false = _; rw [r9]; rfl
  refine ⟨⟨cq.r, by simp [cq.l], cq.k, by simp [cq.f]⟩, jV, m7, m8, fun j hj dI => ?_, fun j hj dI => ?_, fun j hj dI => ?_⟩
  ·rw [kS, kR, if_neg (fun e => by subst e; omega), if_neg (fun e => by subst e; omega)]; exact h.st j hj dI
  ·rw [kS, kR, if_neg (fun e => by subst e; omega), if_neg (fun e => by subst e; omega)]; exact h.cs j hj dI
  ·rw [kS, kR]
   show ((if j = i then true else s.F j) = true ↔ s1.K j = true) ∧ (s1.K j = true → _ = IntKind.i64.wrap (s1.R j + _))
   by_cases ar : j = i
   ·subst ar
    rw [if_pos rfl, if_pos rfl, m6, if_pos rfl]
    exact ⟨Iff.rfl, fun _ => rfl⟩
   ·rw [if_neg ar, if_neg ar, m6, if_neg ar, hne j ar]
    exact h.ad j hj dI
 ·rename_i cD
  have kR : ∀ j, (Bw f i s).L j = s.L j := fun j => by unfold Rk.L; rw [r8]
  have kS : ∀ j, (Bw f i s).F j = s.F j := fun j => by unfold Rk.F; rw [r9]
  refine ⟨cq, jV, m7, m8, fun j hj dI => ?_, fun j hj dI => ?_, fun j hj dI => ?_⟩
  ·rw [kS, kR]; exact h.st j hj dI
  ·rw [kS, kR]; exact h.cs j hj dI
  ·have ar : j ≠ i := fun e => by subst e; exact cD dI
   rw [kS, kR, m6, if_neg ar, hne j ar]
   exact h.ad j hj dI
theorem Tf {s : Rk} {i x : Nat} (hl : i < s.k.length) (h : s.K x = true) : (Cs p f i s).K x = true := by
 unfold Cs
 split
 ·exact h
 ·have h1 : (Bw f i s).K x = true := by
   show (s.k.set i true)[x]?.getD false = true
   rw [Ba hl]; split
   ·rfl
   ·exact h
  unfold Fq
  split
  ·exact h1
  ·exact h1
theorem Va {s : Rk} {i : Nat} (hl : i < s.k.length) (h : Bu f i < 0 ∨ s.F (Bu f i).toNat = true) : (Cs p f i s).K i = true := by
 unfold Cs
 split
 ·rename_i hc
  simp only [Bool.or_eq_true, Bool.and_eq_true, decide_eq_true_eq, Bool.not_eq_true'] at hc
  rcases hc with hc | ⟨h0, h1⟩
  ·exact hc
  ·rcases h with h | h
   ·omega
   ·rw [h] at h1; cases h1
 ·have h1 : (Bw f i s).K i = true := by
   show (s.k.set i true)[i]?.getD false = true
   rw [Ba hl, if_pos rfl]
  unfold Fq
  split
  ·exact h1
  ·exact h1
theorem Xt {s : Rk} {i x : Nat} (hl : i < s.f.length) (h : s.F x = true) : (Cs p f i s).F x = true := by
 unfold Cs
 split
 ·exact h
 ·have h1 : (Bw f i s).F x = true := h
  unfold Fq
  split
  ·show ((Bw f i s).f.set i true)[x]?.getD false = true
   rw [Ba (by exact hl)]; split
   ·rfl
   ·exact h1
  ·exact h1
theorem L4 (hf : Cr p f) (hs : Km p f) (ac : ∀ i, i < p.length → (evAt p i).reads = false → Bu f i < 0) {s : Rk} (h : s.Ok p f) : ∀ m, m ≤ p.length → (Af (Cs p f) m s).Ok p f ∧
  (∀ x, s.K x = true → (Af (Cs p f) m s).K x = true) ∧ (∀ x, s.F x = true → (Af (Cs p f) m s).F x = true) ∧
  (∀ i, i < m → (Bu f i < 0 ∨ s.F (Bu f i).toNat = true) → (Af (Cs p f) m s).K i = true)
 | 0, _ => ⟨h, fun _ h => h, fun _ h => h, fun i hi => by omega⟩
 | m + 1, hm => by
  obtain ⟨h1, h2, h3, h4⟩ := L4 hf hs ac h m (by omega)
  have hk : m < (Af (Cs p f) m s).k.length := by rw [h1.len.k]; omega
  have t1 : m < (Af (Cs p f) m s).f.length := by rw [h1.len.f]; omega
  refine ⟨rkStep_ok hf hs ac (by omega) h1, fun x hx => Tf hk (h2 x hx), fun x hx => Xt t1 (h3 x hx), fun i hi hx => ?_⟩
  by_cases fX : i = m
  ·subst fX
   exact Va hk (hx.imp id (h3 _))
  ·exact Tf hk (h4 i (by omega) hx)
theorem rkAll_ok (hf : Cr p f) (hs : Km p f) (ac : ∀ i, i < p.length → (evAt p i).reads = false → Bu f i < 0) : ∀ k, (Af (fun _ s => Im p f s) k (rk0 p)).Ok p f
 | 0 => rk0_ok p f
 | k + 1 => (L4 hf hs ac (rkAll_ok hf hs ac k) _ (Nat.le_refl _)).1
theorem Qb (hf : Cr p f) (hs : Km p f) (ac : ∀ i, i < p.length → (evAt p i).reads = false → Bu f i < 0) : ∀ (m i : Nat), i < p.length → (evAt p i).reads = true → (Af (fun _ s => Im p f s) (m + 1) (rk0 p)).K i = false →
  ∃ g : Nat → Nat, g 0 = i ∧ (∀ j, j ≤ m → g j < p.length) ∧ ∀ j, j < m → Bu f (g j) = (g (j + 1) : Nat) ∧ (evAt p (g (j + 1))).op.kind = 2
 | 0, i, hi, _, _ => ⟨fun _ => i, rfl, fun _ _ => hi, fun j hj => by omega⟩
 | m + 1, i, hi, hr, hk => by
  have ae := rkAll_ok hf hs ac (m + 1)
  obtain ⟨_, _, _, h4⟩ := L4 hf hs ac ae _ (Nat.le_refl _)
  have aK : ¬ (Bu f i < 0 ∨ (Af (fun _ s => Im p f s) (m + 1) (rk0 p)).F (Bu f i).toNat = true) := fun h => by
   have : (Af (fun _ s => Im p f s) (m + 1 + 1) (rk0 p)).K i = true := h4 i hi h
   rw [hk] at this; cases this
  have h0 : ¬ Bu f i < 0 := fun h => aK (.inl h)
  obtain ⟨w, hw⟩ : ∃ w : Nat, Bu f i = w := ⟨(Bu f i).toNat, by omega⟩
  have dE : (Bu f i).toNat = w := by omega
  have hF : ¬ (Af (fun _ s => Im p f s) (m + 1) (rk0 p)).F w = true := fun h => aK (.inr (by rw [dE]; exact h))
  obtain ⟨cF, k1, k4⟩ := hs i w hi hr hw
  have cD : (evAt p w).op.kind = 2 := by
   apply Decidable.byContradiction; intro h2
   by_cases q1 : (evAt p w).op.kind = 1
   ·exact hF (ae.st w cF q1).1
   ·exact hF (ae.cs w cF (by omega)).1
  have jL : (Af (fun _ s => Im p f s) (m + 1) (rk0 p)).K w = false := by
   cases hq : (Af (fun _ s => Im p f s) (m + 1) (rk0 p)).K w with
   | false => rfl
   | true => exact absurd ((ae.ad w cF cD).1.2 hq) hF
  obtain ⟨g, g1, g2, g3⟩ := Qb hf hs ac m w cF (by simp [Ev.reads, cD]) jL
  refine ⟨fun j => if j = 0 then i else g (j - 1), rfl, fun j hj => ?_, fun j hj => ?_⟩
  ·by_cases h0 : j = 0
   ·simp [h0, hi]
   ·simp only [h0, if_false]; exact g2 _ (by omega)
  ·by_cases h0 : j = 0
   ·subst h0; simpa [g1] using ⟨hw, cD⟩
   ·have := g3 (j - 1) (by omega)
    rw [show j - 1 + 1 = j by omega] at this
    simpa [h0] using this
theorem Cs3 (hf : Cr p f) (hs : Km p f) (ac : ∀ i, i < p.length → (evAt p i).reads = false → Bu f i < 0) {i : Nat} (hi : i < p.length) (hr : (evAt p i).reads = true) : ((Bf p f).K i = true ↔ ∃ x, Kn p f i x) ∧ ∀ x, Kn p f i x → (Bf p f).R i = x := by
 have ae := rkAll_ok hf hs ac (p.length + 1)
 have hall : ∀ x, Kn p f i x → (Bf p f).K i = true := by
  intro x hx
  cases h : (Bf p f).K i with
  | true => rfl
  | false =>
   exfalso
   obtain ⟨g, g1, g2, g3⟩ := Qb hf hs ac p.length i hi hr h
   obtain ⟨G, e1, e2⟩ := Tc (F := Bu f) (Q := fun w => (evAt p w).op.kind = 2) (Nat.le_refl _) g2 g3
   exact hx.ends G (e1.trans g1) e2
 exact ⟨⟨fun h => ⟨_, ae.kn i hi hr h⟩, fun ⟨x, hx⟩ => hall x hx⟩, fun x hx => (ae.kn i hi hr (hall x hx)).uniq hx⟩
theorem Ai6 (hf : Cr p f) (hs : Km p f) (ac : ∀ i, i < p.length → (evAt p i).reads = false → Bu f i < 0) {i : Nat} (hi : i < p.length) (hr : (evAt p i).reads = false) : (Bf p f).K i = true :=
 (L4 hf hs ac (rkAll_ok hf hs ac p.length) _ (Nat.le_refl _)).2.2.2 i hi (.inl (ac i hi hr))
end
theorem Shape.outLt {p : List Ev} {e : Exec} (h : Shape p e) : ∀ i, i < p.length → (evAt p i).reads = false → Bu e.frm i < 0 := fun i hi hr => by
 have : Bu e.frm i = -2 := h.out i hi hr
 omega
theorem Ae3 {p : List Ev} {e : Exec} (hs : Shape p e) (al : Sg p e) : ∀ i, i < p.length → (Bf p e.frm).R i = (An p e.frm).R i ∧ (1 ≤ (evAt p i).op.kind → (evAt p i).op.kind ≤ 4 → (Bf p e.frm).L i = (An p e.frm).W i) := by
 intro i hi
 have ae := rkAll_ok hs.fromOk hs.srcOk hs.outLt (p.length + 1)
 have hw := hs.words al
 have hR : (Bf p e.frm).R i = (An p e.frm).R i := by
  cases hr : (evAt p i).reads with
  | false => rw [hw.out i hi hr]; exact ae.out i hi hr
  | true => exact (Cs3 hs.fromOk hs.srcOk hs.outLt hi hr).2 _ (P9 hs al hi hr)
 refine ⟨hR, fun h1 h4 => ?_⟩
 by_cases k1 : (evAt p i).op.kind = 1
 ·rw [hw.store i hi k1]; exact (ae.st i hi k1).2
 ·by_cases k2 : (evAt p i).op.kind = 2
  ·have hr : (evAt p i).reads = true := by simp [Ev.reads, k2]
   have hK := (Cs3 hs.fromOk hs.srcOk hs.outLt hi hr).1.2 ⟨_, P9 hs al hi hr⟩
   rw [hw.add i hi k2, ← hR]; exact (ae.ad i hi k2).2 hK
  ·rw [hw.cas i hi (by omega)]; exact (ae.cs i hi (by omega)).2
end Go.EV

namespace Go.EV
open Go.Proofs
structure EvR (p : List Ev) (e : Exec) (a : Nat) : Prop where
 out : En (evAt p a).op = false → Ae e a = -2
 src : En (evAt p a).op = true → -1 ≤ Ae e a ∧ Ae e a < p.length
 do1 : (evAt p a).op.kind = 1 ∨ (evAt p a).op.kind = 2 → B0 e.dn a = true
 do0 : Cw (evAt p a).op = false → B0 e.dn a = false
 src2 : En (evAt p a).op = true → 0 ≤ Ae e a → B0 e.dn (Ae e a).toNat = true ∧ (evAt p (Ae e a).toNat).op.loc = (evAt p a).op.loc ∧ Cw (evAt p (Ae e a).toNat).op = true
theorem Gz {o : OpV} : Cw o = true ↔ 1 ≤ o.kind ∧ o.kind ≤ 4 := by simp [Cw]
theorem Shape.evR {p : List Ev} {e : Exec} (hk : ∀ i, i < p.length → 0 ≤ (evAt p i).op.kind ∧ (evAt p i).op.kind ≤ 5) (h : Shape p e) {a : Nat} (ha : a < p.length) : EvR p e a := by
 have hr := H3 (e := evAt p a) (hk a ha)
 refine ⟨fun h1 => h.out a ha (by rw [← hr]; exact h1), fun h1 => ?_, h.dn1 a ha, fun h1 => ?_, fun h1 h0 => ?_⟩
 ·rcases h.src a ha (by rw [← hr]; exact h1) with h2 | ⟨w, h2, h3, _⟩
  ·omega
  ·omega
 ·cases hd : B0 e.dn a with
  | false => rfl
  | true => rw [Gz.2 (h.dn0 a ha hd)] at h1; cases h1
 ·rcases h.src a ha (by rw [← hr]; exact h1) with h2 | ⟨w, h2, h3, h4, h5⟩
  ·omega
  ·rw [h2, Int.toNat_natCast]
   exact ⟨h4, h5, Gz.2 (h.dn0 w h3 h4)⟩
theorem Tg {e : Exec} (h : e.ord.length = 3) : ∃ a b c, e.ord = [a, b, c] := by
 match hq : e.ord, h with
 | [a, b, c], _ => exact ⟨a, b, c, rfl⟩
theorem Ha (p : List Ev) : (Bk p).Nodup := Ht (Fz p)
theorem D7 (p : List Ev) (dn : List Bool) (k : Int) : (Av p dn k).Nodup := Ht (D3 p dn k)
theorem Shape.nodup {p : List Ev} {e : Exec} (h : Shape p e) : (e.fen ++ e.ord.flatten).Nodup := by
 obtain ⟨a, b, c, he⟩ := Tg h.ol
 have ha := h.ord 0 (by decide)
 have hb := h.ord 1 (by decide)
 have hc := h.ord 2 (by decide)
 have hf := h.fen
 rw [he] at ha hb hc ⊢
 simp only [List.getElem?_cons_zero, List.getElem?_cons_succ, Option.getD_some] at ha hb hc
 have da := ha.nodup_iff.2 (D7 _ _ _)
 have db := hb.nodup_iff.2 (D7 _ _ _)
 have dc := hc.nodup_iff.2 (D7 _ _ _)
 have df := hf.nodup_iff.2 (Ha _)
 have ib : ∀ i, (evAt p i).strong = true → (evAt p i).op.kind = 5 := fun i hi => by
  simp only [Ev.strong, Bool.and_eq_true, decide_eq_true_eq] at hi; exact hi.1
 have hd : ∀ (k l : Int) (x : Int), x ∈ Av p e.dn k → x ∈ Av p e.dn l → k = l := by
  intro k l x h1 h2
  obtain ⟨i, rfl, _, _, _, e1⟩ := A9.1 h1
  obtain ⟨j, e2, _, _, _, e3⟩ := A9.1 h2
  have : i = j := by omega
  subst this
  rw [← e1, ← e3]
 have qC : ∀ (k : Int) (x : Int), x ∈ Bk p → x ∈ Av p e.dn k → False := by
  intro k x h1 h2
  obtain ⟨i, rfl, _, e0⟩ := I7.1 h1
  obtain ⟨j, e2, _, e4, _, _⟩ := A9.1 h2
  have : i = j := by omega
  subst this
  exact e4 (ib i e0)
 simp only [List.flatten_cons, List.flatten_nil, List.append_nil, List.nodup_append]
 refine ⟨df, ⟨da, ⟨db, dc, fun x h1 y h2 e1 => ?_⟩, fun x h1 y h2 e1 => ?_⟩, fun x h1 y h2 e1 => ?_⟩
 ·subst e1
  have := hd _ _ _ (hb.mem_iff.1 h1) (hc.mem_iff.1 h2); omega
 ·subst e1
  rcases List.mem_append.1 h2 with h2 | h2
  ·have := hd _ _ _ (ha.mem_iff.1 h1) (hb.mem_iff.1 h2); omega
  ·have := hd _ _ _ (ha.mem_iff.1 h1) (hc.mem_iff.1 h2); omega
 ·subst e1
  have h1 := hf.mem_iff.1 h1
  rcases List.mem_append.1 h2 with h2 | h2
  ·exact qC _ _ h1 (ha.mem_iff.1 h2)
  ·rcases List.mem_append.1 h2 with h2 | h2
   ·exact qC _ _ h1 (hb.mem_iff.1 h2)
   ·exact qC _ _ h1 (hc.mem_iff.1 h2)
theorem Od {l m : List Int} (hl : l.Nodup) (hm : m.Nodup) (hs : ∀ x ∈ l, x ∈ m) (hn : m.length ≤ l.length) : l.Perm m :=
 U6 hl hm fun x => ⟨hs x, fun hx => Decidable.byContradiction fun aK => by
  have := Gs (l := x :: l) (m := m) (List.nodup_cons.2 ⟨aK, hl⟩) (by
   intro y hy
   rcases List.mem_cons.1 hy with rfl | hy
   ·exact hx
   ·exact hs y hy)
  simp only [List.length_cons] at this
  omega⟩
theorem Vb {n : Nat} {f g : Nat → Bool} (h : ∀ i, i < n → f i = g i) : Cy n f = Cy n g := by
 unfold Cy
 congr 1
 exact List.filter_congr fun i hi => h i (List.mem_range.1 hi)
def Xu (p : List Ev) (dn : List Bool) (k : Int) (n : Nat) : List Int := Cy n fun i => B0 dn i && decide ((evAt p i).op.loc = k)
theorem Z3 {p : List Ev} {e : Exec} (h : ∀ a, a < p.length → EvR p e a) (k : Int) : Xu p e.dn k p.length = Av p e.dn k := by
 refine Vb fun i hi => ?_
 have h0 := (h i hi).do0
 show (B0 e.dn i && _) = (decide ((evAt p i).op.kind ≠ 5) && B0 e.dn i && _)
 cases hd : B0 e.dn i with
 | false => simp
 | true =>
  cases hw : Cw (evAt p i).op with
  | false => rw [h0 hw] at hd; cases hd
  | true =>
   have := Gz.1 hw
   rw [decide_eq_true (show (evAt p i).op.kind ≠ 5 by omega)]; rfl
theorem Ae4 {p : List Ev} {e : Exec} (hk : ∀ i, i < p.length → 0 ≤ (evAt p i).op.kind ∧ (evAt p i).op.kind ≤ 5) (az : e.frm.length = p.length) (bI : e.dn.length = p.length) (bG : e.ord.length = 3)
  (eY : ∀ a, a < p.length → EvR p e a) (hn : (e.fen ++ e.ord.flatten).Nodup) (cC : e.fen.length = (Bk p).length) (iy : ∀ x ∈ e.fen, x ∈ Bk p)
  (qD : ∀ k : Nat, k < 3 → (e.ord[k]?.getD []).length = (Xu p e.dn k p.length).length) (gl : ∀ k : Nat, k < 3 → ∀ x ∈ e.ord[k]?.getD [], x ∈ Av p e.dn k) : Shape p e := by
 refine ⟨az, bI, bG, fun i hi => (eY i hi).do1, fun i hi hd => ?_, fun i hi hr => ?_, fun i hi hr => ?_, fun k eV => ?_, ?_⟩
 ·cases hw : Cw (evAt p i).op with
  | false => rw [(eY i hi).do0 hw] at hd; cases hd
  | true => exact Gz.1 hw
 ·exact (eY i hi).out (by rw [H3 (hk i hi)]; exact hr)
 ·have bj : En (evAt p i).op = true := by rw [H3 (hk i hi)]; exact hr
  have h1 := (eY i hi).src bj
  by_cases h0 : 0 ≤ Ae e i
  ·obtain ⟨h2, h3, h4⟩ := (eY i hi).src2 bj h0
   exact .inr ⟨(Ae e i).toNat, by omega, by omega, h2, h3⟩
  ·exact .inl (by omega)
 ·have hd : (e.ord[k]?.getD []).Nodup := by
   have h2 := (List.nodup_append.1 hn).2.1
   rw [List.getElem?_eq_getElem (by omega), Option.getD_some]
   exact List.Nodup.sublist (List.sublist_flatten_of_mem (List.getElem_mem _)) h2
  refine Od hd (D7 _ _ _) (gl k eV) ?_
  rw [qD k eV, Z3 eY]; exact Nat.le_refl _
 ·exact Od (List.nodup_append.1 hn).1 (Ha p) iy (by omega)
def I8 (p : List Ev) (e : Exec) (a : Nat) : Bool :=
 !(Bf p e.frm).K a || !((decide ((evAt p a).op.kind = 3) && (B0 e.dn a != decide ((Bf p e.frm).R a = (evAt p a).op.v))) || (decide ((evAt p a).op.kind = 4) && B0 e.dn a && decide ((Bf p e.frm).R a ≠ (evAt p a).op.v)))
theorem Th {p : List Ev} {e : Exec} (hs : Shape p e) : (∀ a, a < p.length → I8 p e a = true) ↔ O3 p e := by
 have hK : ∀ {i : Nat} (hi : i < p.length) (hr : (evAt p i).reads = true), _ := fun {i} hi hr => Cs3 hs.fromOk hs.srcOk hs.outLt hi hr
 constructor
 ·intro h i x hx
  obtain ⟨hi, hr⟩ := hx.lt
  have h1 := (hK hi hr).1.2 ⟨x, hx⟩
  have h2 := (hK hi hr).2 x hx
  have h3 := h i hi
  unfold I8 at h3
  rw [h1, h2] at h3
  constructor
  ·intro k3
   cases hd : B0 e.dn i <;> simp [k3, hd] at h3 ⊢ <;> exact h3
  ·intro k4 hd
   simp [k4, hd] at h3; exact h3
 ·intro h i hi
  unfold I8
  cases hk : (Bf p e.frm).K i with
  | false => rfl
  | true =>
   by_cases k3 : (evAt p i).op.kind = 3
   ·have hr : (evAt p i).reads = true := by simp [Ev.reads, k3]
    obtain ⟨x, hx⟩ := (hK hi hr).1.1 hk
    have h2 := (hK hi hr).2 x hx
    have h3 := (h i x hx).1 k3
    rw [h2]
    cases hd : B0 e.dn i with
    | true => simp [k3, h3.1 hd]
    | false =>
     have : ¬ x = (evAt p i).op.v := fun nW => by rw [h3.2 nW] at hd; cases hd
     simp [k3, this]
   ·by_cases k4 : (evAt p i).op.kind = 4
    ·have hr : (evAt p i).reads = true := by simp [Ev.reads, k4]
     obtain ⟨x, hx⟩ := (hK hi hr).1.1 hk
     have h2 := (hK hi hr).2 x hx
     have h3 := (h i x hx).2 k4
     rw [h2]
     cases hd : B0 e.dn i with
     | true => simp [k4, h3 hd]
     | false => simp [k4]
    ·simp [k3, k4]
theorem Rr {p : List Ev} {e : Exec} (h : ¬ Shape p e) : B7 p e = 1 := by
 unfold B7; rw [if_neg fun hw => h hw.1]
theorem Ti {p : List Ev} {e : Exec} (hs : Shape p e) {a : Nat} (ha : a < p.length) (h : I8 p e a = false) : B7 p e = 1 := by
 unfold B7; rw [if_neg fun hw => ?_]
 rw [(Th hs).2 hw.2 a ha] at h; cases h
theorem Tj {p : List Ev} {e : Exec} (hs : Shape p e) (hw : O3 p e) {a : Nat} (ha : a < p.length) (h : (Bf p e.frm).K a = false) : B7 p e = 2 := by
 have hr : (evAt p a).reads = true := by
  cases hr : (evAt p a).reads with
  | true => rfl
  | false => rw [Ai6 hs.fromOk hs.srcOk hs.outLt ha hr] at h; cases h
 have kT : Gp p e := Classical.byContradiction fun hn => by
  have := (Cs3 hs.fromOk hs.srcOk hs.outLt ha hr).1.2 ⟨_, P9 hs (Gp.rfOk hn) ha hr⟩
  rw [h] at this; cases this
 unfold B7; rw [if_pos ⟨hs, hw⟩, if_pos kT]
theorem Vc {p : List Ev} {e : Exec} (hm : Lw p) (hl : p.length ≤ 16) (hs : Shape p e) (hw : O3 p e) (h : Bp (Aw1 p e) = true) : B7 p e = 2 := by
 unfold B7; rw [if_pos ⟨hs, hw⟩, if_pos ((P6 hl hm hs).1 h)]
theorem Vd {p : List Ev} {e : Exec} (hp : POk p) (hm : Lw p) (hl : p.length ≤ 16) (hs : Shape p e) (hw : O3 p e) (hr : ¬ Gp p e) (h : N7 (U5 p e) (S7 p e) = true) : B7 p e = 3 := by
 unfold B7; rw [if_pos ⟨hs, hw⟩, if_neg hr, if_pos ((Ta hl hm hs hp (Gp.rfOk hr)).1 h)]
open Classical in
theorem Xv {p : List Ev} {e : Exec} (hp : POk p) (hm : Lw p) (hl : p.length ≤ 16) (hs : Shape p e) (hw : O3 p e) (hr : ¬ Gp p e) (h : N7 (U5 p e) (S7 p e) = false) :
  B7 p e = if K9 p e then 0 else 4 := by
 have hc : ¬ Rc p e := fun hc => by rw [(Ta hl hm hs hp (Gp.rfOk hr)).2 hc] at h; cases h
 unfold B7; rw [if_pos ⟨hs, hw⟩, if_neg hr, if_neg hc]
def Ve (p : List Ev) (e : Exec) : Bool := !(List.range 3).any fun k => Ci p e (e.ord[k]?.getD [])
theorem Z4 {p : List Ev} {e : Exec} (bG : e.ord.length = 3) : Ve p e = true ↔ K9 p e := by
 obtain ⟨a, b, c, he⟩ := Tg bG
 have h1 := Rd (p := p) (e := e)
 have h2 : (List.range 3).any (fun k => Ci p e (e.ord[k]?.getD [])) = e.ord.any (Ci p e) := by
  rw [he]; simp [List.range_succ]
 unfold Ve
 rw [h2]
 cases h : e.ord.any (Ci p e) with
 | true => simp [h1.1 h]
 | false =>
  simp only [Bool.not_false, true_iff]
  exact Classical.byContradiction fun hn => by rw [h1.2 hn] at h; cases h
end Go.EV

namespace Go.EV
open Go.Proofs
section
variable {M : Aa}
theorem Lo (p : List Ev) (s : Value) (hs : Sl M 6 Hf s p) (hp : p.length ≤ 16) (bZ : Xa p) (e : Exec) (v : Value) (hv : IsX M v e) (az : e.frm.length = p.length) (bI : e.dn.length = p.length) (cl : ∀ i, i < p.length → Ae e i < p.length)
  (hl : e.fen.length ≤ 16) (hin : ∀ k, k < e.fen.length → 0 ≤ Ad e.fen k ∧ Ad e.fen k < 16) :
  Con Tryz.prog 53 #[s, v] M [] fun u _ _ => u = F7 (U5 p e) := by
 have aI := hs
 have aQ := hv
 obtain ⟨pa, pc, rfl, am⟩ := hs
 obtain ⟨f, d, o, n, rfl, ⟨fa, fc, rfl, bU⟩, ⟨da, dc, rfl, aH⟩, ⟨oa, oc, ovs, rfl, bG, bJ, bu⟩, ⟨na, nc, rfl, _⟩⟩ := hv
 refine Con.enter Q78_ok (args := [.slice pa p.length pc, .agg #[.slice fa e.frm.length fc, .slice da e.dn.length dc, .slice oa e.ord.length oc, .slice na e.fen.length nc]]) (by simp [Q78]) fun w0 => ?_
 simp only [Q78, A5]
 have ic := fun G => (show Aq _ _ _ (M.add G) _ from J4 (M := M.add G) p _ (aI.mono (Aa.le_add _ _)) hp)
 have qE := fun G => (show Aq _ _ _ (M.add G) _ from U9 (M := M.add G) p _ (aI.mono (Aa.le_add _ _)) hp bZ e _ (IsX.mono (Aa.le_add _ _) aQ) az bI cl)
 have ig := fun G => (show Aq _ _ _ (M.add G) _ from Oa (M := M.add G) e _ (IsX.mono (Aa.le_add _ _) aQ) hl hin)
 have m9 := thrR_ok (p := p) hp
 have qF := meetsR_ok (p := p) (e := e) hp
 have kU := turnsR_ok (fen := e.fen) hin
 have ii := fun G => (show Aq _ _ _ (M.add G) _ from Gy (M := M.add G) _ _ qF kU)
 have ij := fun G => (show Aq _ _ _ (M.add G) _ from Gy (M := M.add G) _ _ m9 (unionR_ok qF kU))
 have jS := unionR_ok m9 (unionR_ok qF kU)
 have gC := fun G => (show Aq _ _ _ (M.add G) _ from H2 (M := M.add G) _ jS)
 repeat' first
   | refine EV.seq ?_
   | refine rg ?_
   | (with_reducible intro b; try refine nx ?_)
   | exact ⟨⟩
   | fail
 obtain ⟨b4, rfl⟩ : ∃ x, x = b := ⟨_, rfl⟩
 obtain ⟨xb, rfl⟩ : ∃ x, x = b := ⟨_, rfl⟩
 refine EV.any (t := Bl0) [(xb, Cl 37 [.slice fa e.frm.length fc, .slice da e.dn.length dc, .slice oa e.ord.length oc, .slice na e.fen.length nc])] (List.Sublist.cons _ (List.Sublist.refl _)) ?_
 simp only [Ao, As, Am, Au, reduceIte, Nat.reduceEqDiff]
 repeat' first
   | ((first | refine zo (fun lq aB => ?_) | refine zl ?_ | fail); try refine nz ?_)
   | refine zq (fun lq tq aB aE => ?_)
   | ((first | with_reducible refine Aq.call (ic _) ?_ | with_reducible refine Aq.call (qE _) ?_ | with_reducible refine Aq.call (ig _) ?_ | with_reducible refine Aq.call (ii _) ?_ | with_reducible refine Aq.call (ij _) ?_ | with_reducible refine Aq.call (gC _) ?_ | fail); try refine nz ?_)
   | (refine Sa (by first | with_reducible assumption | rfl) (fun tq aE => ?_) (fun tq aE => ?_) <;> try refine nz ?_)
   | (refine Ec (by first | with_reducible assumption | rfl) (fun tq aE => ?_) (fun tq aE => ?_) <;> try refine nz ?_)
   | exact zn
   | ((first | refine xrA rfl ?_ | refine xw ?_ | refine And.intro (Aa.le_refl _) (And.intro (A8 ?_) ?_); focus ((repeat' first | exact List.Sublist.refl _ | exact List.nil_sublist _ | exact List.sublist_append_left _ _ | refine List.Sublist.cons_cons _ ?_ | refine List.Sublist.append_left ?_ _ | refine List.sublist_append_of_sublist_right ?_ | refine List.Sublist.cons _ ?_); done) | fail); try refine nz ?_)
   | exact ⟨⟩
   | fail
 have fB : (U5 p e).length = 16 := (jS.close).len
 have lT : Ch (Eg (Xo p) (Eg (J3 p e) (F6 e.fen))) = U5 p e := rfl
 rw [lT]
 refine ⟨by rw [List.length_map, fB], Ai5 _, ?_⟩
 rw [Ae2 (by rw [List.length_map, fB]) rfl]
 repeat' first
   | (refine zl ?_; try refine nz ?_)
   | refine zq (fun lq tq aB aE => ?_)
   | refine zf ?_
   | exact ⟨⟩
   | fail
 (refine rt Q78_ok ?_; try with_reducible exact ⟨⟩)
 exact ⟨_, Bv (T := 95) (cs := (U5 p e).map vw) (by simp) (by rw [List.drop_zero, List.take_of_length_le (by rw [List.length_map, fB]; exact Nat.le_refl _)]) (by rw [List.length_map, fB]; exact Nat.le_refl _), rfl⟩
theorem Xw (p : List Ev) (s : Value) (hs : Sl M 6 Hf s p) (hp : p.length ≤ 16) (de : ∀ i, i < p.length → 0 ≤ (evAt p i).op.kind ∧ (evAt p i).op.kind ≤ 5) (e : Exec) (v : Value) (hv : IsX M v e) (az : e.frm.length = p.length)
  (dX : e.ord.length = 3) (hin : ∀ k, k < 3 → ∀ i, i < (e.ord[k]?.getD []).length → 0 ≤ Ad (e.ord[k]?.getD []) i ∧ Ad (e.ord[k]?.getD []) i < p.length) (aN : ∀ k, k < 3 → (e.ord[k]?.getD []).length ≤ 16) :
  Aq Tryz.prog 55 #[s, v] M (vb (Ve p e)) := by
 obtain ⟨pa, pc, rfl, am⟩ := hs
 obtain ⟨f, d, o, n, rfl, ⟨fa, fc, rfl, bU⟩, ⟨da, dc, rfl, aH⟩, ⟨oa, oc, ovs, rfl, bG, bJ, bu⟩, ⟨na, nc, rfl, _⟩⟩ := hv
 obtain ⟨ob, oo, rfl, bA⟩ := C7.at bJ bG bu (by omega)
 refine Con.enter Q85_ok (args := [.slice pa p.length pc, .agg #[.slice fa e.frm.length fc, .slice da e.dn.length dc, .slice (some ⟨ob, oo, none⟩) e.ord.length oc, .slice na e.fen.length nc]]) (by simp [Q85]) fun w0 => ?_
 simp only [Q85, A5]
 repeat' first
   | refine EV.seq ?_
   | refine EV.block ?_
   | refine rg ?_
   | (with_reducible intro b; try refine nx ?_)
   | exact ⟨⟩
   | fail
 obtain ⟨xb, rfl⟩ : ∃ x, x = b := ⟨_, rfl⟩
 refine EV.frz [(xb, Cl 37 [.slice fa e.frm.length fc, .slice da e.dn.length dc, .slice (some ⟨ob, oo, none⟩) e.ord.length oc, .slice na e.fen.length nc])] ?_
 generalize hR : M.add _ = N
 have aC : M.le N := hR ▸ Aa.le_add _ _
 have au : rd N xb 0 4 [.slice fa e.frm.length fc, .slice da e.dn.length dc, .slice (some ⟨ob, oo, none⟩) e.ord.length oc, .slice na e.fen.length nc] := hR ▸ Ap 0 rfl rfl (by simp)
 clear hR
 have dO := au.pt 0 1 (by omega) rfl
 have cv := au.pt 2 1 (by omega) rfl
 simp only [Nat.zero_add] at dO cv
 have bz := am.mono aC
 have af : ∀ b, b < p.length → ∃ pb po, pa = some ⟨pb, po, none⟩ ∧ rd N pb (po + b * 6) 6 (Hf (evAt p b)) := fun b hb => by
  obtain ⟨pb, po, e1, hat⟩ := Sl.at (sz := 6) (enc := Hf) (fun _ => rfl) (by decide) bz (by omega)
  have := hat b hb
  rw [← B8 hb] at this
  exact ⟨pb, po, e1, this⟩
 have cB : ∀ b, b < p.length → ∃ fb fo, fa = some ⟨fb, fo, none⟩ ∧ rd N fb (fo + b) 1 [vi (Ae e b)] := fun b hb => by
  obtain ⟨fb, fo, e1, hat⟩ := Sl.at (sz := 1) (enc := ei) (fun _ => rfl) (by decide) bU (by omega)
  exact ⟨fb, fo, e1, (B6 hat b (by omega)).mono aC⟩
 have bf : ∀ k, k < 3 → ∃ a' c', rd N ob (oo + k) 1 [.slice a' (e.ord[k]?.getD []).length c'] ∧ rdS N 1 a' (e.ord[k]?.getD []).length ((e.ord[k]?.getD []).flatMap ei) := fun k hk => by
  obtain ⟨a', c', h1, _, h2⟩ := bA k (by omega)
  rw [Nat.mul_one] at h1
  rw [List.getElem?_eq_getElem (show k < e.ord.length by omega), Option.getD_some]
  exact ⟨a', c', h1.mono aC, h2.mono aC⟩
 clear bA bJ bu bU am bz
 refine EV.loopTo (fun k : Nat => ([(0, .slice pa p.length pc), (3, pv xb 0), (4, vb false), (5, vi k)], N, [])) (fun k => k ≤ 3 ∧ ∀ x, x < k → Ci p e (e.ord[x]?.getD []) = false) (fun k => 3 - k) 0 rfl ⟨Nat.zero_le _, fun x hx => absurd hx (Nat.not_lt_zero _)⟩ ?env1 (List.nil_sublist _) ?_
 case env1 =>
  exact eE
 rintro k ⟨hk, aK⟩ ih
 dsimp only at hk aK ih ⊢
 repeat' first
   | refine EV.seq ?_
   | refine EV.skip ?_
   | refine EV.block ?_
   | refine rg ?_
   | (refine cX (fun h => ?_) (fun h => ?_) <;> try exact Ah h)
   | (refine EV.exit rfl ?_)
   | exact ⟨⟩
   | fail
 ·have a8 : k < 3 := by omega
  obtain ⟨la, lc, gb, dm⟩ := bf k a8
  have fJ := hin k a8
  have p9 := aN k a8
  have ihk := fun h => ih (k + 1) ⟨by omega, h⟩ (by omega)
  have t2 : ∀ x, x < k + 1 → (x = k → Ci p e (e.ord[k]?.getD []) = false) → Ci p e (e.ord[x]?.getD []) = false := fun x hx h => by
   by_cases gK : x = k
   ·rw [gK]; exact h gK
   ·exact aK x (by omega)
  have dV : Ci p e (e.ord[k]?.getD []) = true → Ve p e = false := fun h => by
   unfold Ve
   rw [List.any_eq_true.2 ⟨k, List.mem_range.2 a8, h⟩]; rfl
  generalize (e.ord[k]?.getD []) = L at *
  refine EV.loopTo (fun i : Nat => ([(0, .slice pa p.length pc), (3, pv xb 0), (4, vb false), (5, vi k), (6, vi i)], N, [])) (fun i => i ≤ L.length ∧ ∀ x, x < i → Qt p e L x = false) (fun i => L.length - i) 0 rfl ⟨Nat.zero_le _, fun x hx => absurd hx (Nat.not_lt_zero _)⟩ ?env2 (List.nil_sublist _) ?_
  case env2 =>
   exact eE
  rintro i ⟨hi, bc⟩ ih2
  dsimp only at hi bc ih2 ⊢
  refine EV.seq ?_
  refine EV.seq ?_
  repeat' first
    | refine EV.skip ?_
    | refine EV.inBlock ?_
    | refine rg ?_
    | (refine cX (fun h => ?_) (fun h => ?_) <;> try exact Ah h)
    | (refine EV.exit rfl ?_)
    | (refine And.intro (by omega) ?_)
    | (refine xn ?_; try refine nx ?_)
    | exact ⟨⟩
    | fail
  ·have aA : i < L.length := by omega
   obtain ⟨wb, wo, rfl, ay⟩ := Sl.at (sz := 1) (enc := ei) (fun _ => rfl) (by decide) dm (by omega)
   have cm := B6 ay
   obtain ⟨a, ha⟩ : ∃ a : Nat, Ad L i = a := ⟨(Ad L i).toNat, by have := fJ i aA; omega⟩
   have js := cm i aA
   have i9 : a < p.length := by have := fJ i aA; omega
   rw [ha] at js
   obtain ⟨pb, po, rfl, d9⟩ := af a i9
   obtain ⟨fb, fo, rfl, jO⟩ := cB a i9
   have cE : rd N pb (po + a * 6 + 1) 5 [vi (evAt p a).op.kind, vi (evAt p a).op.loc, vi (evAt p a).op.v, vi (evAt p a).op.w, vi (evAt p a).op.ord] := d9.pt 1 5 (by omega) rfl
   have cQ := fun G => I6 (M := N.add G) (evAt p a).op
   rw [H3 (de a i9)] at cQ
   have bg : Qt p e L i = ((evAt p a).reads && decide (Ae e a ≠ Fl L i)) := by rw [Qt, ha, Int.toNat_natCast]
   refine EV.seq ?_
   refine EV.block ?_
   refine EV.seq ?_
   repeat' first
     | refine rg ?_
     | (refine And.intro (by omega) ?_)
     | ((first | refine xm ?_ | refine xn ?_ | fail); try refine nx ?_)
     | exact ⟨⟩
     | fail
   refine EV.seq ?_
   repeat' first
     | refine rg ?_
     | exact ⟨⟩
     | fail
   refine EV.seq (EV.thru (fun ρ' M' G' => M' = N ∧ (∀ q ∈ [(0, .slice (some ⟨pb, po, none⟩) p.length pc), (3, pv xb 0), (4, vb false), (5, vi k), (6, vi i), (7, vi a), (8, vi (Fl L i))], get ρ' q.1 = some q.2) ∧ G' = []) ?_ ?_)
   ·intro k' key
    clear ih ihk ih2
    repeat' first
      | refine EV.seq ?_
      | refine EV.skip ?_
      | refine rg ?_
      | (refine cX (fun h => ?_) (fun h => ?_) <;> try exact Ah h)
      | (refine And.intro (by omega) ?_)
      | (refine xn ?_; try refine nx ?_)
      | exact ⟨⟩
      | fail
    ·obtain ⟨j, rfl⟩ : ∃ j, i = j + 1 := ⟨i - 1, by omega⟩
     have lY := cm j (by omega)
     have ej : IntKind.i64.wrap (((j + 1 : Nat) : Int) - 1) = (j : Int) := by rw [w64 (by omega) (by omega)]; omega
     repeat' first
       | (refine And.intro (by omega) ?_)
       | fail
     simp only [ej, Int.toNat_natCast]
     refine ⟨_, lY.mono (Aa.le_add _ _), ?_⟩
     refine EV.reS (key _ _ _ ⟨rfl, ?_, rfl⟩)
     exact eE
    ·obtain rfl : i = 0 := by omega
     refine EV.reS (key _ _ _ ⟨rfl, ?_, rfl⟩)
     exact eE
   ·rintro ρ' M' G' ⟨e0, hρ, e2⟩
    rw [e0, e2]
    clear e0 e2
    refine EV.to (ρ' := [(0, .slice (some ⟨pb, po, none⟩) p.length pc), (3, pv xb 0), (4, vb false), (5, vi k), (6, vi i), (7, vi a), (8, vi (Fl L i))]) ?_ hρ (List.Sublist.refl _)
    repeat' first
      | refine EV.seq ?_
      | refine EV.skip ?_
      | refine EV.inBlock ?_
      | refine rg ?_
      | with_reducible assumption
      | (refine Aq.call (cQ _) ?_; try refine nx ?_)
      | (refine A0.merge ?_ (fun hc K' hK => ?_) ?_; rotate_left)
      | (refine cX (fun h => ?_) (fun h => ?_) <;> try exact Ah h)
      | (refine And.intro (by omega) ?_)
      | ((first | refine xm ?_ | refine xn ?_ | fail); try refine nx ?_)
      | exact ⟨⟩
      | fail
    ·have hb : Qt p e L i = true := by rw [bg]; simpa using h
     have t6 := dV (List.any_eq_true.2 ⟨i, List.mem_range.2 aA, hb⟩)
     (refine rt Q85_ok ?_; try with_reducible exact ⟨⟩)
     rw [t6]
    ·have hb : Qt p e L i = false := by rw [bg, Bool.and_eq_false_iff]; simpa using h
     refine EV.to (ih2 (i + 1) ⟨by omega, fun x hx => ?_⟩ (by omega)) ?_ (List.Sublist.refl _)
     ·by_cases e1 : x = i
      ·subst e1; exact hb
      ·exact bc x (by omega)
     ·exact eE
  ·have bM : i = L.length := by omega
   subst bM
   refine EV.to (ihk fun x hx => t2 x hx fun _ => ?_) ?_ (List.Sublist.refl _)
   ·cases hb : Ci p e L with
    | false => rfl
    | true =>
     obtain ⟨x, hx, h2⟩ := List.any_eq_true.1 hb
     rw [bc x (List.mem_range.1 hx)] at h2; cases h2
   ·exact eE
 ·have : Ve p e = true := by
   unfold Ve
   rw [Bool.not_eq_true', List.any_eq_false]
   intro x hx
   rw [aK x (by have := List.mem_range.1 hx; omega)]; decide
  (refine rt Q85_ok ?_; try with_reducible exact ⟨⟩)
  rw [this]
end
end Go.EV
