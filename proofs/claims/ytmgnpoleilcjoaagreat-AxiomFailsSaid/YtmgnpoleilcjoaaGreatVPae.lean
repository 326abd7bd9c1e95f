/- Part of the proof of a statement about executions of litmus programs: walks and laws. -/
import Derived.Test.YtmgnpoleilcjoaaGreatVPad
import Derived.Test.YtmgnpoleilcjoaaGreatVPac
set_option maxRecDepth 8000
set_option linter.unusedSimpArgs false
set_option linter.unusedVariables false
set_option linter.unusedSectionVars false
namespace Go.EV
open Go.Proofs
section
variable {M : Aa}
theorem R9 (l : List (Bm M)) (hs : l.Pairwise (fun x y => ¬ Fd y.xs x.xs < 0)) : ∀ n, n ≤ l.length →
  (Jz l n).Pairwise (fun x y => Fd x.xs y.xs < 0) ∧ (∀ x, x ∈ (Jz l n).map Bm.xs ↔ x ∈ (l.take n).map Bm.xs) ∧ (0 < n → ∃ y, (Jz l n).getLast? = some y ∧ y.xs = (l[n - 1]!).xs)
 | 0, _ => ⟨List.Pairwise.nil, fun x => by simp [Jz], fun h => absurd h (Nat.lt_irrefl _)⟩
 | n + 1, hn => by
  obtain ⟨h1, h2, h3⟩ := R9 l hs n (by omega)
  have hn' : n < l.length := by omega
  have ht : l.take (n + 1) = l.take n ++ [l[n]] := List.take_succ_eq_append_getElem hn'
  rw [Jz, Gh hn', ht, Nat.add_sub_cancel, Gh hn']
  by_cases hc : n = 0 ∨ (l[n]).xs ≠ (l[n - 1]!).xs
  ·rw [if_pos hc]
   refine ⟨?_, fun x => ?_, fun _ => ⟨l[n], by simp, rfl⟩⟩
   ·rw [List.pairwise_append]
    refine ⟨h1, List.pairwise_singleton .., fun x hx y hy => ?_⟩
    rw [List.mem_singleton] at hy
    subst hy
    -- x is one of the first n
    have hxm : x.xs ∈ (l.take n).map Bm.xs := (h2 _).1 (List.mem_map.2 ⟨x, hx, rfl⟩)
    obtain ⟨x', hx', hxe⟩ := List.mem_map.1 hxm
    obtain ⟨j, hj, rfl⟩ := List.getElem_of_mem hx'
    have hjn : j < n := by simp at hj; omega
    rw [List.getElem_take] at hxe
    have hne : n ≠ 0 := by omega
    have hdiff : (l[n]).xs ≠ (l[n - 1]!).xs := hc.resolve_left hne
    rw [Gh (show n - 1 < l.length by omega)] at hdiff
    rw [← hxe]
    have hp := List.pairwise_iff_getElem.1 hs
    rcases Ez (l[j]'(by omega)).xs (l[n]).xs with h | h | h
    ·exact h
    ·exfalso
     -- l[j] = l[n], so l[n-1] = l[n]
     have ha : ¬ Fd (l[n]).xs (l[n - 1]'(by omega)).xs < 0 := hp (n - 1) n (by omega) hn' (by omega)
     have hb : ¬ Fd (l[n - 1]'(by omega)).xs (l[j]'(by omega)).xs < 0 := by
      by_cases hjj : j = n - 1
      ·subst hjj; rw [Ec]; omega
      ·exact hp j (n - 1) (by omega) (by omega) (by omega)
     rcases Ez (l[n]).xs (l[n - 1]'(by omega)).xs with k | k | k
     ·exact ha k
     ·exact hdiff k
     ·rw [← h] at k; exact hb k
    ·exact absurd h (hp j n (by omega) hn' hjn)
   ·rw [List.map_append, List.map_append, List.mem_append, List.mem_append, h2 x]
  ·rw [if_neg hc, List.append_nil]
   have hn0 : 0 < n := by omega
   have hsame : (l[n]).xs = (l[n - 1]!).xs := by
    apply Decidable.byContradiction; intro h; exact hc (.inr h)
   refine ⟨h1, fun x => ?_, fun _ => ?_⟩
   ·rw [h2 x, List.map_append, List.mem_append]
    constructor
    ·intro h; exact .inl h
    ·rintro (h | h)
     ·exact h
     ·simp only [List.map_singleton, List.mem_singleton] at h
      rw [h, hsame, Gh (show n - 1 < l.length by omega)]
      exact List.mem_map.2 ⟨_, List.mem_take_iff_getElem.2 ⟨n - 1, by omega, rfl⟩, rfl⟩
   ·obtain ⟨y, hy, hye⟩ := h3 hn0
    exact ⟨y, hy, by rw [hye, hsame]⟩
theorem Y9 (l : List (Bm M)) (hs : l.Pairwise (fun x y => ¬ Fd y.xs x.xs < 0)) :
  (W1 l).Pairwise (fun x y => Fd x.xs y.xs < 0) ∧ ∀ x, x ∈ (W1 l).map Bm.xs ↔ x ∈ l.map Bm.xs := by
 obtain ⟨h1, h2, _⟩ := R9 l hs l.length (Nat.le_refl _)
 exact ⟨h1, fun x => by rw [← List.take_length (l := l)]; simpa [W1] using h2 x⟩
set_option maxHeartbeats 4000000 in
theorem Jp {b cap : Nat} {T : TypeId} {sp : List Value} (rs : List (Bm M)) (hl : rs.length < 1000000) (hc : cap = rs.length + sp.length) :
  Con Tryz.prog 36 #[.slice (some ⟨b, 0, none⟩) rs.length cap] M [(b, Cl T (rs.map Bm.v ++ sp))] fun v M' G' =>
   M' = M ∧ ∃ (ys : List (Bm M)) (sp' : List Value), v = .slice (some ⟨b, 0, none⟩) ys.length cap ∧ G' = [(b, Cl T (ys.map Bm.v ++ sp'))] ∧ cap = ys.length + sp'.length ∧
    ys.Pairwise (fun x y => Fd x.xs y.xs < 0) ∧ ∀ x, x ∈ ys.map Bm.xs ↔ x ∈ rs.map Bm.xs := by
 refine Con.enter Q3_ok (args := [.slice (some ⟨b, 0, none⟩) rs.length cap]) (by simp [Q3]) fun w0 => ?_
 simp only [Q3, A3]
 repeat' first
   | refine EV.seq ?_
   | refine rg ?_
   | exact ⟨⟩
   | fail
 refine Con.run (Y8 (b := b) (T := T) (rs := rs) (sp := sp) (c := cap) (by omega)) ?_
 rintro v M' G' hM ⟨rfl, rfl, ys, hp, hs, rfl⟩
 have hyl := hp.length_eq
 repeat' first
   | refine EV.seq ?_
   | refine rg ?_
   | exact ⟨⟩
   | fail
 rw [← hyl]
 refine Con.run (R8 (b := b) (T := T) (l := ys) (sp := sp) (c := cap) (by omega) (by omega)) ?_
 rintro v M2 G2 hM2 ⟨rfl, sp', rfl, rfl, hc'⟩
 repeat' first
   | fail
 (refine rt Q3_ok ?_; try with_reducible exact ⟨⟩)
 obtain ⟨k1, k2⟩ := Y9 ys hs
 exact ⟨W1 ys, rfl, sp', rfl, hc', k1, fun x => by rw [k2 x]; exact (hp.map Bm.xs).mem_iff⟩
theorem Ng (fv : Value) : Con Tryz.prog 89 #[.slice none 0 0, fv] M [] fun v M' G' => M' = M ∧ v = .slice none 0 0 ∧ G' = [] := by
 refine Con.enter Q103_ok (args := [.slice none 0 0, fv]) (by simp [Bs4]) fun w0 => ?_
 simp only [Bs4, A3]
 repeat' first
   | refine EV.seq ?_
   | refine rg ?_
   | (refine cX (fun h => ?_) (fun h => ?_) <;> try exact Ah h)
   | exact ⟨⟩
   | fail
 (refine rt Q103_ok ?_; try with_reducible exact ⟨⟩)
theorem Lk : Con Tryz.prog 36 #[.slice none 0 0] M [] fun v M' G' => v = .slice none 0 0 ∧ G' = [] := by
 refine Con.enter Q3_ok (args := [.slice none 0 0]) (by simp [Q3]) fun w0 => ?_
 simp only [Q3, A3]
 repeat' first
   | refine EV.seq ?_
   | refine rg ?_
   | exact ⟨⟩
   | fail
 refine Con.run (G := []) (Con.sortNone (P := Tryz.prog) (ρ := Tryz.sortRows_ren) (M := M) (by have L := Tryz.sortRows; exact { L with }) rfl none 0 _) ?_
 rintro v M' G' hM ⟨rfl, rfl⟩
 repeat' first
   | refine EV.seq ?_
   | refine rg ?_
   | exact ⟨⟩
   | fail
 refine Con.run (Ng _) ?_
 rintro v M2 G2 hM2 ⟨rfl, rfl, rfl⟩
 repeat' first
   | fail
 (refine rt Q3_ok ?_; try with_reducible exact ⟨⟩)
end
end Go.EV

namespace Go.EV
open Go.Proofs
def Bm.up {M M' : Aa} (h : M.le M') (r : Bm M) : Bm M' := ⟨r.1, r.2.1.mono h, r.2.2⟩
theorem Bm.up_v {M M' : Aa} (h : M.le M') (l : List (Bm M)) : (l.map (Bm.up h)).map Bm.v = l.map Bm.v := by rw [List.map_map]; rfl
theorem Bm.up_xs {M M' : Aa} (h : M.le M') (l : List (Bm M)) : (l.map (Bm.up h)).map Bm.xs = l.map Bm.xs := by rw [List.map_map]; rfl
section
variable {M : Aa}
def Cn2 (p : List Ev) (bx : Nat) (os : List (List Int)) (M : Aa) (G : Own) : Prop :=
 ∃ (rs : List (Bm M)) (ov : Vec), G = (bx, Cl 26 [osv ov rs.length]) :: osg 34 ov (rs.map Bm.v) ∧ E7 1 ov rs.length (rs.map Bm.v) ∧ rs.length ≤ 421875 ∧ (∀ x, x ∈ rs.map Bm.xs ↔ x ∈ os) ∧ ∀ x, x ∈ os → As6 p x
theorem Cn2.mono {p : List Ev} {bx : Nat} {os : List (List Int)} {M M' : Aa} {G : Own} (hle : M.le M') (h : Cn2 p bx os M G) : Cn2 p bx os M' G := by
 obtain ⟨rs, ov, h1, h2, h3, h4⟩ := h
 refine ⟨rs.map (Bm.up hle), ov, ?_, ?_, by rw [List.length_map]; exact h3, by rw [Bm.up_xs]; exact h4.1, h4.2⟩
 ·rw [Bm.up_v, List.length_map]; exact h1
 ·rw [Bm.up_v, List.length_map]; exact h2
set_option maxHeartbeats 4000000 in
theorem Qp (ts : List (List OpV)) (s : Value) (hs : Gw M 5 Be s ts) (hb : Sized ts) :
  Con Tryz.prog 11 #[.agg #[s]] M [] fun v M' _ => (Bd ts ≠ 0 ∧ v = .tuple #[.slice none 0 0, vi (Bd ts)]) ∨ (Bd ts = 0 ∧ ∃ s' outs, v = .tuple #[s', vi 0] ∧ Z9 (A6 ts) outs ∧ Di M' 1 ei s' outs) := by
 have hs0 := hs
 obtain ⟨a, c, vs, rfl, hl, hrd, hk⟩ := hs
 refine Con.enter Q2_ok (args := [.agg #[.slice a ts.length c]]) (by simp [Q2]) fun w0 => ?_
 simp only [Q2, A3]
 repeat' first
   | refine EV.seq ?_
   | refine rg ?_
   | ((first | with_reducible intro b | refine xrA rfl ?_ | fail); try refine nx ?_)
   | exact ⟨⟩
   | fail
 refine Con.callS (G1 := []) (Yo ts _ hs0 hb) ?_
 rintro v M1 G1 hM1 ⟨rfl, (⟨hne, rfl⟩ | ⟨hck, s', rfl, hs1⟩)⟩
 ·simp only [wpS, wpA, Lc, push_cast, Int.cast_ofNat_Int, reduceIte, Nat.reduceEqDiff, reduceCtorEq, Nat.reduceAdd, Nat.reduceSub, Nat.reduceMul, Int.reduceToNat, Nat.reduceLeDiff]
  repeat' first
    | refine EV.seq ?_
    | (refine EV.reg ?_; (conv => (arg 2; whnf)); (repeat first | refine nx ?_ | simp only [hne]))
    | (refine cX (fun h => ?_) (fun h => ?_) <;> try exact Ah h)
    | (with_reducible intro b; (repeat first | refine nx ?_ | simp only [hne]))
    | (refine xw ?_; (repeat first | refine nx ?_ | simp only [hne]))
    | fail
  (refine rt Q2_ok ?_; try with_reducible exact ⟨⟩)
  first | exact .inl ⟨hne, rfl⟩ | exact .inl hne | exact hne | simp [hne] | fail
 ·have hp := Ql hck
  have hs2 := hs1
  obtain ⟨pa, pc, rfl, hpr⟩ := hs2
  (refine nx ?_; try with_reducible exact ⟨⟩)
  repeat' first
    | refine EV.seq ?_
    | refine EV.skip ?_
    | refine rg ?_
    | (refine cX (fun h => ?_) (fun h => ?_) <;> try exact Ah h)
    | ((first | with_reducible intro b | refine xsA rfl ?_ | fail); try refine nx ?_)
    | (refine xw ?_; refine nx ?_)
    | exact ⟨⟩
    | fail
  refine Con.callS (G1 := []) (Wx _ hp hs1) ?_
  rintro v M2 G2 hM2 ⟨g2, caps2, rfl, hit2⟩
  repeat' first
    | refine EV.block ?_
    | fail
  rename_i lb pb
  obtain ⟨ab, rfl⟩ : ∃ ab, ab = b := ⟨_, rfl⟩
  refine EV.keepS [(ab, Cl 26 [.slice none 0 0])] ?_
  generalize hR : M2.add _ = N
  have hMN : M2.le N := hR ▸ Aa.le_add _ _
  have hpb : rd N pb 0 1 [.slice pa (A6 ts).length pc] := hR ▸ Bz (T := 74) (cs := [.slice pa (A6 ts).length pc]) (by simp) rfl (by simp)
  clear hR
  have hs1N := hs1.mono (Aa.le_trans hM2 hMN)
  have hitN := hit2.mono hMN
  refine EV.toS (ρ' := [(4, pv pb 0), (6, pv ab 0), (17, .func (.func g2) #[] caps2)]) (G' := [(ab, Cl 26 [.slice none 0 0])]) ?_ ?env1
  case env1 =>
   exact eE
  refine EV.overM rfl rfl rfl hitN (fun d es M G' => ∃ G0, G'.Perm ((d, Obj.deferred (some [])) :: G0) ∧ Cn2 (A6 ts) ab (es.map (Bf (A6 ts))) M G0)
   (fun d c M G' => False) ?_ ?_ ?_ ?_ ?_ ?_
  ·rintro d es M4 M5 G4 hle ⟨G0, h1, h2⟩
   exact ⟨G0, h1, h2.mono hle⟩
  ·rintro d c M4 M5 G4 hle h
   exact h
  ·intro d
   exact ⟨_, List.Perm.refl _, [], none, rfl, ⟨rfl, rfl⟩, Nat.zero_le _, fun x => by simp, fun x h => nomatch h⟩
  ·intro l d r hr1 hr2 es e v M4 G4 w1 F he hM4 ⟨G0, hp4, rs, ov, hG0, hov, hlen, hmem, hout0⟩ hel
   subst hG0
   refine EV.permG ?_ (List.Perm.cons _ hp4)
   have hx := execsP_ok hp he
   have hel0 : IsX M4 v e := hel
   obtain ⟨xf, xd, xo, xn, rfl, ⟨fa, fc, rfl, _⟩, ⟨da, dc, rfl, _⟩, ⟨oa, oc, ovs, rfl, _, _, _⟩, ⟨na, nc, rfl, _⟩⟩ := hel
   repeat' first
     | refine rg ?_
     | (with_reducible intro b; try refine nx ?_)
     | (refine xw ?_; refine nx ?_)
     | exact ⟨⟩
     | fail
   refine EV.frz [(b, Cl 45 [.slice fa e.frm.length fc, .slice da e.dn.length dc, .slice oa e.ord.length oc, .slice na e.fen.length nc])] ?_
   generalize hR : M4.add _ = N4
   have hMN4 : M4.le N4 := hR ▸ Aa.le_add _ _
   have hxb : rd N4 b 0 4 [.slice fa e.frm.length fc, .slice da e.dn.length dc, .slice oa e.ord.length oc, .slice na e.fen.length nc] := hR ▸ An 0 rfl rfl (by simp)
   clear hR
   refine EV.rbegin hr1 ?_
   refine EV.block (EV.seq ?_)
   have hpb4 := hpb.mono (Aa.le_trans hM4 hMN4)
   have hs4 := hs1N.mono (Aa.le_trans hM4 hMN4)
   have hout := fun G => R3 (M := N4.add G) (A6 ts) _ (hs4.mono (Aa.le_add _ _)) hp e _ (hel0.mono (Aa.le_trans hMN4 (Aa.le_add _ _))) hx
   refine EV.any (t := Es8) [(ab, Cl 26 [osv ov rs.length])] (List.Sublist.cons _ (List.Sublist.cons _ (List.Sublist.cons_cons _ (List.nil_sublist _)))) ?_
   simp only [Am, Au, Al, As, reduceIte, Nat.reduceEqDiff]
   repeat' first
     | ((first | refine zo (fun lq hlq => ?_) | refine zl ?_ | fail); try refine nz ?_)
     | refine zq (fun lq tq hlq htq => ?_)
     | ((with_reducible refine Con.callN (hout _) ?_) ;  rintro v1 M1 G1 ⟨o1, rfl, ho1, rfl⟩; try refine nz ?_)
     | (refine Vc (by first | with_reducible assumption | rfl) (fun tq htq => ?_) (fun tq htq => ?_) <;> try refine nz ?_)
     | (refine Ea (by first | with_reducible assumption | rfl) (fun tq htq => ?_) (fun tq htq => ?_) <;> try refine nz ?_)
     | exact zn
     | ((first | with_reducible intro b | refine xm ?_ | refine xn ?_ | refine xsA rfl ?_ | refine And.intro (Aa.le_refl _) (And.intro (Ba ?_) ?_); focus ((repeat' first | exact List.Sublist.refl _ | exact List.nil_sublist _ | exact List.sublist_append_left _ _ | refine List.Sublist.cons_cons _ ?_ | refine List.Sublist.append_left ?_ _ | refine List.sublist_append_of_sublist_right ?_ | refine List.Sublist.cons _ ?_); done) | fail); try refine nz ?_)
     | exact ⟨⟩
     | fail
   refine ⟨[osv o1 (Bf (A6 ts) e).length], Or.inr ⟨_, 0, rfl, Bz (T := 34) (cs := [osv o1 (Bf (A6 ts) e).length]) (by simp) rfl (by simp)⟩, by simp [B6, C7, Value.oneCell'], Or.inl ⟨ov, _, rfl, _, hov, _, PullL.p, by simp only [maxLen]; omega, by omega, fun o2 ho2 hnn => ?_⟩⟩
   repeat' first
     | (refine zl ?_; try refine nz ?_)
     | refine zq (fun lq tq hlq htq => ?_)
     | (refine Ea (by first | with_reducible assumption | rfl) (fun tq htq => ?_) (fun tq htq => ?_) <;> try refine nz ?_)
     | exact zn
     | refine zf ?_
     | (refine xw ?_; try refine nz ?_)
     | exact ⟨⟩
     | fail
   refine EV.keepS ((l, Obj.loop { r with state := .busy }) :: (d, Obj.deferred (some [])) :: (ab, Cl 26 [osv o2 (rs.length + 1)]) :: osg 34 o2 (rs.map Bm.v ++ [osv o1 (Bf (A6 ts) e).length])) ?_
   generalize hR : N4.add _ = N5
   have hMN5 : N4.le N5 := hR ▸ Aa.le_add _ _
   have hnew : SlC N5 1 ei (osv o1 (Bf (A6 ts) e).length) (Bf (A6 ts) e) := hR ▸ Hh (T := 3) ho1 rfl (fun q hq => by simp [hq])
   clear hR
   have hol : (Bf (A6 ts) e).length < 1000000 := by
    have h1 := Fc (A6 ts) (Ap (A6 ts) e.frm) (A6 ts).length
    have h2 := hp.len
    have h3 := hx.ol
    unfold Bf
    rw [List.length_append, List.length_map]; omega
   -- the rows, with the new one
   have hle5 := Aa.le_trans hMN4 hMN5
   obtain ⟨rs5, hrs5⟩ : ∃ rs5 : List (Bm N5), rs5 = rs.map (Bm.up hle5) ++ [⟨(osv o1 (Bf (A6 ts) e).length, Bf (A6 ts) e), hnew, hol⟩] := ⟨_, rfl⟩
   have hv5 : rs.map Bm.v ++ [osv o1 (Bf (A6 ts) e).length] = rs5.map Bm.v := by rw [hrs5, List.map_append, Bm.up_v]; rfl
   have hx5 : rs5.map Bm.xs = rs.map Bm.xs ++ [Bf (A6 ts) e] := by rw [hrs5, List.map_append, Bm.up_xs]; rfl
   have hl5 : rs5.length = rs.length + 1 := by rw [hrs5, List.length_append, List.length_map]; rfl
   have hm5 : ∀ x, x ∈ rs5.map Bm.xs ↔ x ∈ (es ++ [e]).map (Bf (A6 ts)) := by
    intro x
    rw [hx5, List.mem_append, hmem, List.map_append, List.mem_append]; rfl
   rw [hv5, ← hl5] at ho2 ⊢
   clear hnew hrs5
   have hout5 : ∀ x, x ∈ (es ++ [e]).map (Bf (A6 ts)) → As6 (A6 ts) x := by
    intro x h
    rw [List.map_append, List.mem_append] at h
    rcases h with h | h
    ·exact hout0 x h
    ·simp only [List.map_singleton, List.mem_singleton] at h
     exact ⟨e, he, h.symm⟩
   repeat' first
     | refine EV.seq ?_
     | refine EV.skip ?_
     | refine EV.inBlock ?_
     | refine rg ?_
     | (refine cX (fun h => ?_) (fun h => ?_) <;> try exact Ah h)
     | (refine xsA rfl ?_; try refine nx ?_)
     | exact ⟨⟩
     | fail
   ·rcases o2 with _ | ⟨rb, cap, sp⟩
    ·obtain ⟨h0, _⟩ := ho2
     omega
    ·obtain ⟨_, hsp, _, hcap⟩ := ho2
     simp only [osg, Ht, Fo]
     refine Con.callS (G1 := [(rb, Cl 34 (rs5.map Bm.v ++ sp))]) (Jp rs5 (by omega) (by rw [List.length_append, List.length_map] at hsp; omega)) ?_
     rintro v M6 G6 hM6 ⟨rfl, ys, sp', rfl, rfl, hc', hys, hym⟩
     simp only [List.cons_append, List.nil_append]
     repeat' first
       | refine EV.inBlock ?_
       | (refine xw ?_; refine nx ?_)
       | exact ⟨⟩
       | fail
     have hyl : ys.length ≤ 421875 := by
      rw [← List.length_map (f := Bm.xs)]
      refine Ac6 hp (Qm ts) (As5 hck) ?_ fun x hx => hout5 x ((hm5 x).1 ((hym x).1 hx))
      rw [List.nodup_iff_pairwise_ne, List.pairwise_map]
      exact hys.imp fun {a b} h e => by rw [e, Ec] at h; omega
     refine EV.reS (G' := (l, Obj.loop { r with state := .busy }) :: (d, Obj.deferred (some [])) :: (ab, Cl 26 [.slice (some ⟨rb, 0, none⟩) ys.length cap]) :: [(rb, Cl 34 (ys.map Bm.v ++ sp'))]) ?_
     refine EV.rend hr1 hr2 (List.Perm.refl _) ⟨_, List.Perm.refl _, ys, some (rb, cap, sp'), rfl, ?_, hyl, fun x => (hym x).trans (hm5 x), hout5⟩
     refine ⟨by rw [List.length_map]; omega, by rw [List.length_append, List.length_map]; omega, by omega, hcap⟩
   ·refine EV.rend hr1 hr2 (List.Perm.refl _) ⟨_, List.Perm.refl _, rs5, o2, rfl, ho2, by omega, hm5, hout5⟩
  ·rintro d M4 G4 hM4 ⟨G0, hp4, rs, ov, rfl, hov, hlen, hmem, hout0⟩
   refine EV.permG ?_ hp4
   repeat' first
     | refine EV.seq ?_
     | refine EV.inBlock ?_
     | refine rg ?_
     | (refine xsA rfl ?_; try refine nx ?_)
     | exact ⟨⟩
     | fail
   have hfin : ∀ (ys : List (Bm M4)) (N : Aa), M4.le N → ∀ (s' : Value), (∃ a c, s' = .slice a ys.length c ∧ rdS N 1 a ys.length (ys.map Bm.v)) → ys.Pairwise (fun x y => Fd x.xs y.xs < 0) → (∀ x, x ∈ ys.map Bm.xs ↔ x ∈ rs.map Bm.xs) →
     ∃ outs, Z9 (A6 ts) outs ∧ Di N 1 ei s' outs := by
    rintro ys N hN s' ⟨a, c, rfl, hrd⟩ hpw hmm
    refine ⟨ys.map Bm.xs, ⟨?_, fun x => (hmm x).trans (hmem x)⟩, a, c, ys.map Bm.v, by rw [List.length_map], by simp, by rw [List.length_map]; exact hrd, fun i h1 h2 => ?_⟩
    ·rw [List.pairwise_map]; exact hpw
    ·simp only [List.getElem_map]
     exact (ys[i]'(by simpa using h1)).2.1.mono hN
   rcases ov with _ | ⟨rb, cap, sp⟩
   ·obtain ⟨h0, hv0⟩ := hov
    have hrs : rs = [] := List.length_eq_zero_iff.1 h0
    subst hrs
    refine Con.callS (G1 := []) Lk ?_
    rintro v M6 G6 hM6 ⟨rfl, rfl⟩
    repeat' first
      | fail
    obtain ⟨outs, ho1, ho2⟩ := hfin [] M6 hM6 (.slice none 0 0) ⟨none, 0, rfl, .inl ⟨rfl, rfl⟩⟩ List.Pairwise.nil (fun x => Iff.rfl)
    refine EV.retM Q2_ok (ms := [d]) (G1 := [(ab, Cl 26 [.slice none 0 0])]) (List.Perm.refl _) ?_
    (repeat first | refine nx ?_ | simp only [Q2])
    exact .inr ⟨hck, _, rfl, outs, ho1, ho2⟩
   ·obtain ⟨_, hsp, _, _⟩ := hov
    simp only [osg, Ht, Fo]
    refine Con.callS (G1 := [(rb, Cl 34 (rs.map Bm.v ++ sp))]) (Jp rs (by omega) (by rw [List.length_append, List.length_map] at hsp; omega)) ?_
    rintro v M6 G6 hM6 ⟨rfl, ys, sp', rfl, rfl, hc', hys, hym⟩
    repeat' first
      | fail
    refine EV.keepS [(d, Obj.deferred (some [])), (ab, Cl 26 [osv (some (rb, cap, sp)) rs.length])] ?_
    generalize hR : M6.add _ = N5
    have hMN5 : M6.le N5 := hR ▸ Aa.le_add _ _
    obtain ⟨outs, ho1, ho2⟩ := hfin ys N5 hMN5 (.slice (some ⟨rb, 0, none⟩) ys.length cap) ⟨_, _, rfl, hR ▸ .inr ⟨rb, 0, rfl, Bz (T := 34) (cs := ys.map Bm.v ++ sp') (by simp) (by rw [List.drop_zero, Nat.mul_one, List.take_left' (by rw [List.length_map])]) (by simp)⟩⟩ hys hym
    clear hR
    refine EV.retM Q2_ok (ms := [d]) (G1 := [(ab, Cl 26 [osv (some (rb, cap, sp)) rs.length])]) (List.Perm.refl _) ?_
    (repeat first | refine nx ?_ | simp only [Q2])
    exact .inr ⟨hck, _, rfl, outs, ho1, ho2⟩
  ·intro d c M4 G4 hM4 h
   exact h.elim
end
end Go.EV

namespace Go.EV
open Go.Proofs
section
variable {M : Aa}
set_option maxHeartbeats 4000000 in
theorem Za (xs ys : List Int) (v w : Value) (hv : Sl M 1 ei v xs) (hw : Sl M 1 ei w ys) (hx : xs.length ≤ 281474976710656) (hy : ys.length ≤ 281474976710656) :
  Aq Tryz.prog 20 #[v, w] M (vb (decide (xs = ys))) := by
 obtain ⟨a, c, rfl, hr⟩ := hv
 obtain ⟨a2, c2, rfl, hr2⟩ := hw
 refine Con.enter Q61_ok (args := [.slice a xs.length c, .slice a2 ys.length c2]) (by simp [Q61]) fun w0 => ?_
 simp only [Q61, A3]
 repeat' first
   | refine EV.seq ?_
   | refine EV.skip ?_
   | refine EV.block ?_
   | refine rg ?_
   | (refine cX (fun h => ?_) (fun h => ?_) <;> try exact Ah h)
   | exact ⟨⟩
   | fail
 ·have hne : decide (xs = ys) = false := decide_eq_false fun e => h (by rw [e])
  (refine rt Q61_ok ?_; try with_reducible exact ⟨⟩)
  rw [hne]
 ·have hl : xs.length = ys.length := by omega
  refine EV.loopTo (fun i : Nat => ([(0, .slice a xs.length c), (1, .slice a2 ys.length c2), (5, vi i)], M, [])) (fun i => i ≤ xs.length ∧ xs.take i = ys.take i) (fun i => xs.length - i) 0 rfl ⟨Nat.zero_le _, rfl⟩ ?env1 (List.Sublist.refl _) ?_
  case env1 =>
   exact eE
  rintro i ⟨hi, he⟩ ih
  dsimp only at hi he ih ⊢
  repeat' first
    | refine EV.seq ?_
    | refine EV.skip ?_
    | refine EV.block ?_
    | refine rg ?_
    | (refine cX (fun h => ?_) (fun h => ?_) <;> try exact Ah h)
    | (refine EV.exit rfl ?_)
    | exact ⟨⟩
    | fail
  ·have hi' : i < xs.length := by omega
   have hi2 : i < ys.length := by omega
   obtain ⟨b, o, rfl, hat⟩ := Sl.at (sz := 1) (enc := ei) (fun _ => rfl) (by decide) hr (by omega)
   obtain ⟨b2, o2, rfl, hat2⟩ := Sl.at (sz := 1) (enc := ei) (fun _ => rfl) (by decide) hr2 (by omega)
   have q1 := hat i hi'
   have q2 := hat2 i hi2
   simp only [Nat.mul_one] at q1 q2
   repeat' first
     | refine EV.seq ?_
     | refine EV.skip ?_
     | refine EV.inBlock ?_
     | ((first | refine EV.reg ?_ | refine EV.any _ (List.Sublist.refl _) ?_ | fail); (conv => (arg 2; whnf)); refine nx ?_)
     | (refine cX (fun h => ?_) (fun h => ?_) <;> try exact Ah h)
     | (refine And.intro (by omega) ?_)
     | (refine xm ?_; try refine nx ?_)
     | exact ⟨⟩
     | fail
   ·have hne : decide (xs = ys) = false := decide_eq_false fun e => by subst e; exact h rfl
    (refine rt Q61_ok ?_; try with_reducible exact ⟨⟩)
    rw [hne]
   ·have hxy : xs[i] = ys[i] := by simpa using h
    refine EV.to (ih (i + 1) ⟨by omega, by rw [List.take_succ_eq_append_getElem hi', List.take_succ_eq_append_getElem hi2, he, hxy]⟩ (by omega)) ?_ (List.Sublist.refl _)
    exact eE
  ·have hie : i = xs.length := by omega
   subst hie
   have heq : decide (xs = ys) = true := decide_eq_true (by rwa [List.take_length, hl, List.take_length] at he)
   (refine rt Q61_ok ?_; try with_reducible exact ⟨⟩)
   rw [heq]
theorem Zb : Con Tryz.prog 32 #[] M [] fun v M' _ => ∃ s, v = .agg #[s] ∧ Gw M' 5 Be s Jo := by
 refine Con.enter Q60_ok (args := []) (by simp [Q60]) fun w0 => ?_
 simp only [Q60, A3]
 repeat' first
   | refine EV.seq ?_
   | refine rg ?_
   | (with_reducible intro b; try refine nx ?_)
   | (refine xw ?_; refine nx ?_)
   | exact ⟨⟩
   | fail
 rename_i r0 b3 b6
 refine EV.keepS [(r0, Cl 24 [.slice (some ⟨b, 0, none⟩) 2 2])] ?_
 generalize hR : M.add _ = N
 have hMN : M.le N := hR ▸ Aa.le_add _ _
 have k7 : rd N b 0 2 [.slice (some ⟨b3, 0, none⟩) 2 2, .slice (some ⟨b6, 0, none⟩) 2 2] := hR ▸ An 0 rfl rfl (by simp)
 have k6 : rd N b6 0 10 (Be ⟨1, 1, 1, 0, 0⟩ ++ Be ⟨0, 0, 0, 0, 0⟩) := hR ▸ An 1 rfl rfl (by simp)
 have k3 : rd N b3 0 10 (Be ⟨1, 0, 1, 0, 0⟩ ++ Be ⟨0, 1, 0, 0, 0⟩) := hR ▸ An 2 rfl rfl (by simp)
 (refine rt Q60_ok ?_; try with_reducible exact ⟨⟩)
 refine ⟨_, An 0 rfl rfl (by simp), _, rfl, some ⟨b, 0, none⟩, 2, _, rfl, rfl, .inr ⟨b, 0, rfl, k7⟩, fun i h1 h2 => ?_⟩
 have hi : i = 0 ∨ i = 1 := by simp [Jo] at h2; omega
 rcases hi with rfl | rfl
 ·exact ⟨some ⟨b3, 0, none⟩, 2, rfl, .inr ⟨b3, 0, rfl, k3⟩⟩
 ·exact ⟨some ⟨b6, 0, none⟩, 2, rfl, .inr ⟨b6, 0, rfl, k6⟩⟩
set_option maxHeartbeats 4000000 in
theorem At1 : Con Tryz.prog 10 #[] M [] fun v _ _ => v = vb true := by
 refine Con.enter Q59_ok (args := []) (by simp [Q59]) fun w0 => ?_
 simp only [Q59, A3]
 repeat' first
   | refine EV.seq ?_
   | refine rg ?_
   | exact ⟨⟩
   | fail
 refine Con.callS (G1 := []) Zb ?_
 rintro v M1 G1 hM1 ⟨s, rfl, hs⟩
 repeat' first
   | fail
 refine Con.callS (G1 := []) (Qp Jo s hs ⟨by decide, by decide⟩) ?_
 rintro v M2 G2 hM2 (⟨hne, _⟩ | ⟨_, s', outs, rfl, ho, hs'⟩)
 ·exact absurd buffers_ok hne
 have he := ho.eq
 rw [R6] at he
 subst he
 obtain ⟨a, c, vs, rfl, hl, hrd, hk⟩ := hs'.sl
 obtain ⟨ob, oo, rfl, hat⟩ := Gw.at hrd hl hk (by decide)
 obtain ⟨a0, c0, hr1, hr2⟩ := hat 0 (by decide)
 have hq : ∀ (b : Nat) (G : Own), Aq Tryz.prog 20 #[.slice a0 5 c0, .slice (some ⟨b, 0, none⟩) 5 5] (M2.add ((b, Cl 3 [vi 0, vi 0, vi 1, vi 1, vi 0]) :: G)) (vb true) := fun b G =>
  Za [0, 0, 1, 1, 0] [0, 0, 1, 1, 0] _ _ ⟨a0, c0, rfl, hr2.mono (Aa.le_add _ _)⟩ ⟨_, _, rfl, .inr ⟨b, 0, rfl, An 0 rfl rfl (by simp)⟩⟩ (by decide) (by decide)
 simp only [Nat.mul_one, Nat.zero_mul, Nat.add_zero, List.getElem_cons_zero, List.length_cons, List.length_nil, Nat.zero_add, Nat.reduceAdd] at hr1 hr2
 repeat' first
   | refine EV.seq ?_
   | refine rg ?_
   | (refine Aq.call (hq _ _) ?_; try refine nx ?_)
   | (refine Az.intro (fun hc => ?_) (fun hc => ?_) <;> try simp only [ne_eq, Bool.not_true, Bool.not_false, not_true_eq_false, not_false_eq_true, reduceCtorEq] at hc <;> try (exfalso; first | exact hc | omega | (simp at hc; done)))
   | (with_reducible intro b; try refine nx ?_)
   | (refine And.intro (by omega) ?_)
   | (refine xn ?_; try refine nx ?_)
   | exact ⟨⟩
   | fail
 (refine rt Q59_ok ?_; try with_reducible exact ⟨⟩)
 rfl
end
end Go.EV

namespace Go.EV
open Go.Proofs
section
variable {M : Aa}
theorem Zc (k o : Int) : Aq Tryz.prog 90 #[vi k, vi o] M (vb (Te k o && Ag3 k o)) := by
 refine Con.enter Q69_ok (args := [vi k, vi o]) (by simp [Q69]) fun w0 => ?_
 simp only [Q69, A3]
 repeat' first
   | refine EV.seq ?_
   | refine EV.skip ?_
   | refine rg ?_
   | with_reducible assumption
   | (refine Az.merge ?_ (fun hc K' hK => ?_) ?_; rotate_left)
   | (refine cX (fun h => ?_) (fun h => ?_) <;> try exact Ah h)
   | refine rt Q69_ok ?_
   | exact ⟨⟩
   | fail
 all_goals (simp only [vb, Value.bool.injEq, Te, Ag3, Bq]; rw [Bool.eq_iff_iff]; (repeat' split) <;> simp <;> omega)
theorem Oe (o : OpV) : Aq Tryz.prog 38 #[vop o] M (vb (Bh o)) := by
 refine Con.enter Q67_ok (args := [vop o]) (by simp [Q67]) fun w0 => ?_
 simp only [Q67, A3]
 repeat' first
   | refine EV.seq ?_
   | refine rg ?_
   | with_reducible assumption
   | (refine Az.merge ?_ (fun hc K' hK => ?_) ?_; rotate_left)
   | refine rt Q67_ok ?_
   | ((first | with_reducible intro b | refine xiA rfl ?_ | fail); try refine nx ?_)
   | exact ⟨⟩
   | fail
 all_goals (simp only [vb, Value.bool.injEq, Bh]; grind)
theorem W2 (o : OpV) : Aq Tryz.prog 37 #[vop o] M (vb (Lg o)) := by
 refine Con.enter Q68_ok (args := [vop o]) (by simp [Q68]) fun w0 => ?_
 simp only [Q68, A3]
 repeat' first
   | refine EV.seq ?_
   | refine EV.skip ?_
   | refine rg ?_
   | (refine Aq.call (Zc _ _) ?_; try refine nx ?_)
   | with_reducible assumption
   | (refine Az.merge ?_ (fun hc K' hK => ?_) ?_; rotate_left)
   | (refine cX (fun h => ?_) (fun h => ?_) <;> try exact Ah h)
   | refine rt Q68_ok ?_
   | ((first | with_reducible intro b | refine xiA rfl ?_ | fail); try refine nx ?_)
   | exact ⟨⟩
   | fail
 all_goals (simp only [vb, Value.bool.injEq, Lg, Wk, Ox]; try simp_all; try omega)
 ·intro h1 h2 h3 h4
  exfalso
  simp only [h1, h2, reduceCtorEq, or_self, false_or] at h
  omega
 ·have hk : 0 ≤ o.kind ∧ o.kind < 6 := by
   have h1 : Te o.kind o.ord = true := by simp_all
   simp only [Te, Bool.and_eq_true, decide_eq_true_eq] at h1
   exact h1.1
  have : (decide (o.kind = 3) || decide (o.kind = 4)) = true := by
   rw [Bool.or_eq_true, decide_eq_true_eq, decide_eq_true_eq]; omega
  rw [this]
  simp [Bool.and_assoc]
theorem Ue (o : OpV) : Aq Tryz.prog 128 #[vop o] M (vi (Ie o.kind o.ord)) := by
 refine Con.enter Q70_ok (args := [vop o]) (by simp [Q70]) fun w0 => ?_
 simp only [Q70, A3]
 repeat' first
   | refine EV.seq ?_
   | refine EV.skip ?_
   | refine rg ?_
   | (refine cX (fun h => ?_) (fun h => ?_) <;> try exact Ah h)
   | refine rt Q70_ok ?_
   | ((first | with_reducible intro b | refine xiA rfl ?_ | fail); try refine nx ?_)
   | exact ⟨⟩
   | fail
 all_goals (simp only [Ie, vi, Value.int.injEq, true_and]; grind)
end
end Go.EV

namespace Go.EV
open Go.Proofs
section
variable {M : Aa}
theorem EV.loop2 {P : Program} {C : Cx P} {V : List Nat} {k : List RItem} {ρ : Env} {M : Aa} {G : Own} {c : RCode} (h : EV C V (.code c :: .inLoop c :: k) ρ M G) : EV C V (.code (.loop c) :: k) ρ M G :=
 EV.loop (fun _ : Unit => (ρ, M, G)) (fun _ => True) (fun _ => 0) () trivial (fun _ _ _ => h)
theorem wr1 : IntKind.i64.wrap (0 + 1) = 1 := rfl
theorem wr2 : IntKind.i64.wrap (1 + 1) = 2 := rfl
theorem wr3 : IntKind.i64.wrap (2 + 1) = 3 := rfl
def Ag6 (ts : List (List OpV)) (l : List OpV) : Bool := decide (0 < ts.length) && l.all Lg
theorem Sa (ts : List (List OpV)) : Bd ts = if ts.length > 3 ∨ (A5 ts.flatten).acc > 6 ∨ (A5 ts.flatten).fen > 8 then 2 else if (A5 ts.flatten).w0 > 4 ∨ (A5 ts.flatten).w1 > 4 ∨ (A5 ts.flatten).w2 > 4 then 2 else if Ag6 ts ts.flatten = true then 0 else 1 := by
 unfold Bd Fg Ag6
 by_cases h1 : ts.length ≤ 3 <;> by_cases h2 : (A5 ts.flatten).acc ≤ 6 <;> by_cases h3 : (A5 ts.flatten).fen ≤ 8 <;> by_cases h4 : (A5 ts.flatten).w0 ≤ 4 <;> by_cases h5 : (A5 ts.flatten).w1 ≤ 4 <;> by_cases h6 : (A5 ts.flatten).w2 ≤ 4 <;> simp [h1, h2, h3, h4, h5, h6, Int.not_le.symm] <;> grind
def Eu (s : LimS) (o : OpV) : LimS :=
 if o.kind = 5 then { s with fen := IntKind.i64.wrap (s.fen + 1) }
 else if Bh o = true then
  {acc := IntKind.i64.wrap (s.acc + 1), fen := if o.ord = 4 then IntKind.i64.wrap (s.fen + 2) else s.fen,
   w0 := if o.kind ≠ 0 ∧ o.loc = 0 then IntKind.i64.wrap (s.w0 + 1) else s.w0, w1 := if o.kind ≠ 0 ∧ o.loc = 1 then IntKind.i64.wrap (s.w1 + 1) else s.w1, w2 := if o.kind ≠ 0 ∧ o.loc = 2 then IntKind.i64.wrap (s.w2 + 1) else s.w2 }
 else s
def Uf (l : List OpV) : LimS := l.foldl Eu ⟨0, 0, 0, 0, 0⟩
theorem Zd {l : List OpV} (h : l.length < 1000000000000000000) : Uf l = A5 l := by
 have key : ∀ n, n ≤ l.length → Uf (l.take n) = A5 (l.take n) := by
  intro n
  induction n with
  | zero => intro _; rfl
  | succ n ih =>
   intro hn
   have h1 := ih (by omega)
   have h2 := Rp (l.take n)
   have h3 : (l.take n).length ≤ n := by simp; omega
   rw [List.take_succ_eq_append_getElem (by omega)]
   simp only [Uf, A5, List.foldl_append, List.foldl_cons, List.foldl_nil] at h1 h2 ⊢
   rw [h1]
   generalize (l.take n).foldl Ak ⟨0, 0, 0, 0, 0⟩ = s at *
   unfold Eu Ak
   rw [w64 (x := s.fen + 1) (by omega) (by omega), w64 (x := s.acc + 1) (by omega) (by omega), w64 (x := s.fen + 2) (by omega) (by omega), w64 (x := s.w0 + 1) (by omega) (by omega), w64 (x := s.w1 + 1) (by omega) (by omega), w64 (x := s.w2 + 1) (by omega) (by omega)]
 have := key l.length (Nat.le_refl _)
 rwa [List.take_length] at this
set_option maxRecDepth 8000 in
set_option maxHeartbeats 8000000 in
theorem Nh (ts : List (List OpV)) (s : Value) (hs : Gw M 5 Be s ts) (hbs : Sized ts) : Aq Tryz.prog 13 #[.agg #[s]] M (vi (Bd ts)) := by
 obtain ⟨a, c, vs, rfl, hl, hrd, hk⟩ := hs
 have hbl := hbs.len
 refine Con.enter Q65_ok (args := [.agg #[.slice a ts.length c]]) (by simp [Q65]) fun w0 => ?_
 simp only [Q65, A3]
 repeat' first
   | refine EV.seq ?_
   | refine EV.block ?_
   | refine rg ?_
   | (with_reducible intro b; try refine nx ?_)
   | (refine And.intro (by omega) ?_)
   | (refine xsA rfl ?_; try refine nx ?_)
   | exact ⟨⟩
   | fail
 rename_i b1
 refine EV.permG ?_ (List.Perm.swap _ _ _)
 refine EV.freeze (G₁ := [_]) ?_
 generalize hN : M.add [(b1, Cl 24 [.slice a ts.length c])] = N
 have hMN : M.le N := hN ▸ Aa.le_add _ _
 have hb1 : rd N b1 0 1 [.slice a ts.length c] := hN ▸ An 0 rfl rfl (by simp)
 clear hN
 refine EV.to (ρ' := [(1, pv b1 0), (3, vi (Uf (ts.take 0).flatten).acc), (4, vi (Uf (ts.take 0).flatten).fen), (5, A8 b 3 3), (6, vb (Ag6 ts (ts.take 0).flatten)), (7, vi (0 : Nat))])
  (G' := [(b, Cl 3 [vi (Uf (ts.take 0).flatten).w0, vi (Uf (ts.take 0).flatten).w1, vi (Uf (ts.take 0).flatten).w2])]) ?_ ?env0 (List.Sublist.refl _)
 case env0 =>
  repeat' first
   | (refine List.forall_mem_cons.2 (And.intro ?_ ?_))
   | (intro _ hnil; cases hnil; done)
   | rfl
   | fail
  simp [get, Ag6]
 refine EV.loop (fun i : Nat => ([(1, pv b1 0), (3, vi (Uf (ts.take i).flatten).acc), (4, vi (Uf (ts.take i).flatten).fen), (5, A8 b 3 3), (6, vb (Ag6 ts (ts.take i).flatten)), (7, vi i)], N,
  [(b, Cl 3 [vi (Uf (ts.take i).flatten).w0, vi (Uf (ts.take i).flatten).w1, vi (Uf (ts.take i).flatten).w2])])) (fun i => i ≤ ts.length) (fun i => ts.length - i) 0 (Nat.zero_le _) ?_
 intro i hi ih
 dsimp only at ih ⊢
 repeat' first
   | refine EV.seq ?_
   | refine EV.skip ?_
   | refine EV.block ?_
   | refine rg ?_
   | with_reducible assumption
   | (refine Az.merge ?_ (fun hc K' hK => ?_) ?_; rotate_left)
   | (refine cX (fun h => ?_) (fun h => ?_) <;> try exact Ah h)
   | (refine EV.exit rfl ?_)
   | (refine xn ?_; try refine nx ?_)
   | exact ⟨⟩
   | fail
 ·have hi' : i < ts.length := by omega
  obtain ⟨pb, po, rfl, hat⟩ := Gw.at (hrd.mono hMN) hl (fun k h h' => (hk k h h').mono hMN) (by omega)
  obtain ⟨a', c', hr1, hr2⟩ := hat i hi'
  simp only [Nat.mul_one] at hr1
  have hlen := hbs.each _ (List.getElem_mem hi')
  let W : Nat → LimS := fun j => Uf ((ts.take i).flatten ++ ts[i].take j)
  let U : Nat → Bool := fun j => Ag6 ts ((ts.take i).flatten ++ ts[i].take j)
  refine EV.to (ρ' := [(1, pv b1 0), (3, vi (W 0).acc), (4, vi (W 0).fen), (5, A8 b 3 3), (6, vb (U 0)), (7, vi i), (8, vi (0 : Nat))])
   (G' := [(b, Cl 3 [vi (W 0).w0, vi (W 0).w1, vi (W 0).w2])]) ?_ (by simp [get, W, U]) (by simp [W])
  refine EV.loop (fun j : Nat => ([(1, pv b1 0), (3, vi (W j).acc), (4, vi (W j).fen), (5, A8 b 3 3), (6, vb (U j)), (7, vi i), (8, vi j)], N,
   [(b, Cl 3 [vi (W j).w0, vi (W j).w1, vi (W j).w2])])) (fun j => j ≤ ts[i].length) (fun j => ts[i].length - j) 0 (Nat.zero_le _) ?_
  intro j hj ih2
  dsimp only at ih2 ⊢
  repeat' first
    | refine EV.seq ?_
    | refine EV.skip ?_
    | refine EV.block ?_
    | refine EV.inBlock ?_
    | refine rg ?_
    | (refine cX (fun h => ?_) (fun h => ?_) <;> try exact Ah h)
    | (refine EV.exit rfl ?_)
    | (refine And.intro (by omega) ?_)
    | (refine xn ?_; try refine nx ?_)
    | exact ⟨⟩
    | fail
  ·have hj' : j < ts[i].length := by omega
   obtain ⟨qb, qo, rfl, hat2⟩ := Sl.at (enc := Be) (fun _ => rfl) (by omega) hr2 (by omega)
   have hr3 := hat2 j hj'
   have hW : W (j + 1) = Eu (W j) ts[i][j] := by
    simp only [W, Uf, List.take_succ_eq_append_getElem hj', ← List.append_assoc, List.foldl_append, List.foldl_cons, List.foldl_nil]
   have hU : U (j + 1) = (U j && Lg ts[i][j]) := by
    simp only [U, Ag6, List.take_succ_eq_append_getElem hj', ← List.append_assoc, List.all_append, List.all_cons, List.all_nil, Bool.and_true, Bool.and_assoc]
   have fin : ∀ ρ G', (∀ p ∈ [(1, pv b1 0), (3, vi (W (j + 1)).acc), (4, vi (W (j + 1)).fen), (5, A8 b 3 3), (6, vb (U (j + 1))), (7, vi i), (8, vi (j + 1 : Nat))], get ρ p.1 = some p.2) →
     [(b, Cl 3 [vi (W (j + 1)).w0, vi (W (j + 1)).w1, vi (W (j + 1)).w2])].Sublist G' → _ := fun ρ G' h1 h2 => EV.to (ρ := ρ) (G := G') (ih2 (j + 1) (by omega) (by omega)) h1 h2
   rw [hW, hU] at fin
   clear_value W U
   have e7 : IntKind.i64.wrap ((j : Int) + 1) = ((j + 1 : Nat) : Int) := w64 (by omega) (by omega)
   clear ih ih2 hat hat2 hrd hk hlen hW hU hbs hbl hl
   generalize W j = s at *
   generalize U j = u at *
   generalize ts[i][j] = o at *
   clear W U
   have hacc : o.kind = 5 → Bh o = false := fun h => by simp [Bh, h]
   have hno : Bh o = true → ((¬0 < o.kind ∨ ¬0 ≤ o.loc) ∨ ¬o.loc < 3) → Eu s o = { s with acc := IntKind.i64.wrap (s.acc + 1), fen := if o.ord = 4 then IntKind.i64.wrap (s.fen + 2) else s.fen } := fun h1 h2 => by
    have h5 : ¬ o.kind = 5 := fun h => by rw [hacc h] at h1; cases h1
    have h3 : 0 ≤ o.kind := by simp only [Bh, Bool.and_eq_true, decide_eq_true_eq] at h1; omega
    have w0' : ¬ (o.kind ≠ 0 ∧ o.loc = 0) := by omega
    have w1' : ¬ (o.kind ≠ 0 ∧ o.loc = 1) := by omega
    have w2' : ¬ (o.kind ≠ 0 ∧ o.loc = 2) := by omega
    simp only [Eu, if_neg h5, if_pos h1, if_neg w0', if_neg w1', if_neg w2']
   repeat' first
     | refine EV.seq ?_
     | refine EV.skip ?_
     | refine EV.inBlock ?_
     | ((first | refine EV.reg ?_ | refine EV.any _ (List.Sublist.refl _) ?_ | fail); (conv => (arg 2; whnf)); refine nx ?_)
     | ((first | refine Aq.call (W2 _) ?_ | refine Aq.call (Oe _) ?_ | fail); try refine nx ?_)
     | with_reducible assumption
     | (refine Az.merge ?_ (fun hc K' hK => ?_) ?_; rotate_left)
     | (refine cX (fun h => ?_) (fun h => ?_) <;> try exact Ah h)
     | (refine EV.exit rfl ?_)
     | (with_reducible intro b; try refine nx ?_)
     | (refine And.intro (by omega) ?_)
     | ((first | refine xm ?_ | refine xrA rfl ?_ | refine xiA rfl ?_ | fail); try refine nx ?_)
     | (refine xw ?_; refine nx ?_)
     | exact ⟨⟩
     | fail
   all_goals try (exfalso; simp_all; done)
   all_goals try (rw [hno (by assumption) (by assumption)] at fin)
   all_goals try refine fin _ _ ?_ ?_
   all_goals first
    | (simp [get, Eu, *]; done)
    | (simp [get, Eu, *]; grind)
    | skip
   all_goals
    have hloc : o.loc = 0 ∨ o.loc = 1 ∨ o.loc = 2 := by omega
    have hk0 : ¬ o.kind = 0 := by omega
    rcases hloc with hloc | hloc | hloc <;> rw [hloc] <;> simp only [Int.reduceToNat, Int.toNat_zero, Int.reduceLE, Int.reduceLT, true_and]
   all_goals repeat' first
     | refine EV.inBlock ?_
     | refine rg ?_
     | (refine xiA rfl ?_; try refine nx ?_)
     | (refine xw ?_; refine nx ?_)
     | exact ⟨⟩
     | fail
   all_goals try refine fin _ _ ?_ ?_
   all_goals first
    | (simp [get, Eu, *]; done)
    | (simp [get, Eu, *]; grind)
    | skip
  ·have hj' : j = ts[i].length := by omega
   subst hj'
   have hf : (ts.take i).flatten ++ ts[i].take ts[i].length = (ts.take (i + 1)).flatten := by rw [Dh hi', List.take_length]
   refine EV.to (ih (i + 1) (by omega) (by omega)) ?_ ?_
   ·clear ih ih2
    rw [← hf]
    simp [get, W, U]
    exact w64 (by omega) (by omega)
   ·rw [← hf]
    exact List.Sublist.refl _
 ·have hi3 : i = ts.length := by omega
  subst hi3
  simp only [List.take_length] at h
  have hpos : ts.length > 3 ∨ (A5 ts.flatten).acc > 6 ∨ (A5 ts.flatten).fen > 8 := by
   by_cases h3 : ts.length > 3
   ·exact .inl h3
   ·rw [Zd (by have := P2 hbs.each; omega)] at h
    omega
  rw [Sa, if_pos hpos]
  repeat' first
    | refine rt Q65_ok ?_
    | exact ⟨⟩
    | fail
 ·have hi3 : i = ts.length := by omega
  subst hi3
  simp only [List.take_length] at h
  have hce := Sa ts
  have hlw := Zd (l := ts.flatten) (by have := P2 hbs.each; omega)
  rw [hlw] at h
  rw [if_neg (by omega)] at hce
  rw [hce, List.take_length, hlw]
  refine EV.to (ρ' := [(5, A8 b 3 3), (6, vb (Ag6 ts ts.flatten)), (10, vi (0 : Nat))]) (G' := [(b, Cl 3 [vi (A5 ts.flatten).w0, vi (A5 ts.flatten).w1, vi (A5 ts.flatten).w2])]) ?_ ?env2 (List.Sublist.refl _)
  case env2 =>
   exact eE
  generalize A5 ts.flatten = s at *
  refine EV.loop2 ?_
  repeat' first
    | refine EV.seq ?_
    | refine EV.skip ?_
    | refine EV.block ?_
    | refine EV.inBlock ?_
    | (refine EV.reg ?_; (conv => (arg 2; whnf)); (repeat first | refine nx ?_ | simp only [wr1, wr2, wr3]))
    | (refine cX (fun h => ?_) (fun h => ?_) <;> try exact Ah h)
    | (refine And.intro (by omega) ?_)
    | (refine xiA rfl ?_; (repeat first | refine nx ?_ | simp only [wr1, wr2, wr3]))
    | fail
  ·rw [if_pos (by omega)]
   repeat' first
     | (refine EV.ret Q65_ok ?_; (repeat first | refine nx ?_ | simp only [wr1, wr2, wr3, Q65]))
     | fail
  refine EV.inLoop ?_
  repeat' first
    | refine EV.seq ?_
    | refine EV.skip ?_
    | refine EV.block ?_
    | refine EV.inBlock ?_
    | (refine EV.reg ?_; (conv => (arg 2; whnf)); (repeat first | refine nx ?_ | simp only [wr1, wr2, wr3]))
    | (refine cX (fun h => ?_) (fun h => ?_) <;> try exact Ah h)
    | (refine And.intro (by omega) ?_)
    | (refine xiA rfl ?_; (repeat first | refine nx ?_ | simp only [wr1, wr2, wr3]))
    | fail
  ·rw [if_pos (by omega)]
   repeat' first
     | (refine EV.ret Q65_ok ?_; (repeat first | refine nx ?_ | simp only [wr1, wr2, wr3, Q65]))
     | fail
  refine EV.inLoop ?_
  repeat' first
    | refine EV.seq ?_
    | refine EV.skip ?_
    | refine EV.block ?_
    | refine EV.inBlock ?_
    | (refine EV.reg ?_; (conv => (arg 2; whnf)); (repeat first | refine nx ?_ | simp only [wr1, wr2, wr3]))
    | (refine cX (fun h => ?_) (fun h => ?_) <;> try exact Ah h)
    | (refine And.intro (by omega) ?_)
    | (refine xiA rfl ?_; (repeat first | refine nx ?_ | simp only [wr1, wr2, wr3]))
    | fail
  ·rw [if_pos (by omega)]
   repeat' first
     | (refine EV.ret Q65_ok ?_; (repeat first | refine nx ?_ | simp only [wr1, wr2, wr3, Q65]))
     | fail
  refine EV.inLoop ?_
  rw [if_neg (by omega)]
  repeat' first
    | refine EV.seq ?_
    | refine EV.skip ?_
    | (refine EV.reg ?_; (conv => (arg 2; whnf)); (repeat first | refine nx ?_ | simp only [wr1, wr2, wr3]))
    | (refine cX (fun h => ?_) (fun h => ?_) <;> try exact Ah h)
    | (refine EV.exit rfl ?_)
    | (refine EV.ret Q65_ok ?_; (repeat first | refine nx ?_ | simp only [wr1, wr2, wr3, Q65]))
    | fail
  all_goals simp_all
end
end Go.EV

namespace Go.EV
open Go.Proofs
theorem Ze {l : List OpV} {j : Nat} (hj : j < l.length) : Dp (l.take (j + 1)) = Dp (l.take j) ++ Ca l[j] := by
 rw [List.take_succ_eq_append_getElem hj]; simp only [Dp, List.flatMap_append, List.flatMap_cons, List.flatMap_nil, List.append_nil]
theorem Vw (l : List OpV) : (Dp l).length ≤ 3 * l.length := by
 induction l with
 | nil => simp [Dp]
 | cons o l ih => have := Je o; simp only [Dp, List.flatMap_cons, List.length_append, List.length_cons] at ih ⊢; omega
section
variable {M : Aa}
set_option maxRecDepth 8000 in
set_option maxHeartbeats 8000000 in
theorem Sb (ts : List (List OpV)) (s : Value) (hs : Gw M 5 Be s ts) (hb : ts.flatten.length < 1000000) (hb' : ts.length < 1000000) :
  Con Tryz.prog 91 #[.agg #[s]] M [] fun v M' _ => (Bd ts ≠ 0 ∧ v = .tuple #[.agg #[.slice none 0 0], vi (Bd ts)]) ∨ (Bd ts = 0 ∧ ∃ s', v = .tuple #[.agg #[s'], vi 0] ∧ Gw M' 5 Be s' (ts.map Dp)) := by
 have hs0 := hs
 have hbz : Sized ts := ⟨by omega, fun t ht => by
  have : t.length ≤ ts.flatten.length := List.Sublist.length_le (List.sublist_flatten_of_mem ht)
  omega⟩
 obtain ⟨a, c, vs, rfl, hl, hrd, hk⟩ := hs
 refine Con.enter Q66_ok (args := [.agg #[.slice a ts.length c]]) (by simp [Q66]) fun w0 => ?_
 simp only [Q66, A3]
 repeat' first
   | refine EV.seq ?_
   | refine EV.skip ?_
   | refine EV.block ?_
   | refine rg ?_
   | (refine Aq.call (Nh _ _ (hs0.mono (Aa.le_add _ _)) hbz) ?_; try refine nx ?_)
   | (refine cX (fun h => ?_) (fun h => ?_) <;> try exact Ah h)
   | ((first | with_reducible intro b | refine xrA rfl ?_ | fail); try refine nx ?_)
   | (refine xw ?_; refine nx ?_)
   | exact ⟨⟩
   | fail
 ·repeat' first
   | refine rt Q66_ok ?_
   | (refine xrA rfl ?_; try refine nx ?_)
   | exact ⟨⟩
   | fail
  exact .inl h
 ·have hck := h
  repeat' first
    | fail
  rename_i b1 b2 b5
  obtain ⟨_, _, hall⟩ := Cu hck
  refine EV.permG ?_ (B7 [[_], [_], [_], [_]] 3 (by simp))
  simp only [List.eraseIdx_cons_succ, List.eraseIdx_cons_zero, List.getElem_cons_succ, List.getElem_cons_zero, List.insertIdx_zero, List.insertIdx_succ_cons, Dw, Dv, Dt, List.nil_append, List.cons_append, List.append_assoc, List.append_nil]
  refine EV.freeze (G₁ := [_, _]) ?_
  generalize hN : M.add [(b1, Cl 24 [.slice a ts.length c]), (b, Cl 83 [.int .i64 5, .int .i64 0, .int .i64 0, .int .i64 0, .int .i64 4])] = N
  have hMN : M.le N := hN ▸ Aa.le_add _ _
  have hb1 : rd N b1 0 1 [.slice a ts.length c] := hN ▸ An 0 rfl rfl (by simp)
  have hb6 : rd N b 0 5 (Be Gs) := hN ▸ An 1 rfl rfl (by simp)
  clear hN
  replace hrd := hrd.mono hMN
  replace hk := fun k h h' => (hk k h h').mono hMN
  clear hs0
  refine EV.to (ρ' := [(1, pv b1 0), (2, pv b2 0), (5, pv b5 0), (6, pv b 0), (7, vi (0 : Nat))])
   (G' := [(b5, Cl 24 [osv none 0]), (b2, Cl 24 [.slice none 0 0])] ++ osg 70 none []) ?_ ?env0 eS
  case env0 =>
   exact eE
  refine EV.loop (fun x : Nat × Aa × Vec × List Value => ([(1, pv b1 0), (2, pv b2 0), (5, pv b5 0), (6, pv b 0), (7, vi x.1)], x.2.1,
    [(b5, Cl 24 [osv x.2.2.1 x.1]), (b2, Cl 24 [.slice none 0 0])] ++ osg 70 x.2.2.1 x.2.2.2))
   (fun x => x.1 ≤ ts.length ∧ N.le x.2.1 ∧ E7 1 x.2.2.1 x.1 x.2.2.2 ∧ x.2.2.2.length = x.1 ∧ ∀ k (h : k < x.2.2.2.length) (h' : k < ts.length), Sl x.2.1 5 Be x.2.2.2[k] (Dp ts[k]))
   (fun x => ts.length - x.1) (0, N, none, []) ⟨Nat.zero_le _, Aa.le_refl _, ⟨rfl, rfl⟩, rfl, fun k h => absurd h (by simp)⟩ ?_
  rintro ⟨i, Mi, oq, vs'⟩ ⟨hi, hMi, hoq, hlen', hSl⟩ ih
  dsimp only at hi hMi hoq hlen' hSl ih ⊢
  replace hb1 := hb1.mono hMi
  replace hb6 := hb6.mono hMi
  repeat' first
    | refine EV.seq ?_
    | refine EV.skip ?_
    | refine EV.block ?_
    | refine rg ?_
    | (refine cX (fun h => ?_) (fun h => ?_) <;> try exact Ah h)
    | (refine EV.exit rfl ?_)
    | ((first | refine xn ?_ | refine xrA rfl ?_ | fail); try refine nx ?_)
    | (refine xw ?_; refine nx ?_)
    | exact ⟨⟩
    | fail
  ·have hi' : i < ts.length := by omega
   obtain ⟨pb, po, rfl, hat⟩ := Gw.at (hrd.mono hMi) hl (fun k h h' => (hk k h h').mono hMi) (by omega)
   obtain ⟨a', c', hr1, hr2⟩ := hat i hi'
   simp only [Nat.mul_one] at hr1
   have hlen : ts[i].length ≤ ts.flatten.length := by have := Dh hi'; have h2 := B9 ts (i + 1); rw [this, List.length_append] at h2; omega
   have hmem : ∀ o ∈ ts[i], o ∈ ts.flatten := fun o ho => List.mem_flatten.2 ⟨ts[i], List.getElem_mem hi', ho⟩
   refine EV.to (ρ' := [(1, pv b1 0), (2, pv b2 0), (5, pv b5 0), (6, pv b 0), (7, vi i), (8, osv none (Dp (ts[i].take 0)).length), (9, vi (0 : Nat))])
    (G' := [(b5, Cl 24 [osv oq i]), (b2, Cl 24 [.slice none 0 0])] ++ (osg 70 oq vs' ++ osg 83 none ((Dp (ts[i].take 0)).flatMap Be))) ?_ ?env1 (by simp only [osg, List.append_nil]; exact List.Sublist.refl _)
   case env1 =>
    exact eE
   refine EV.loop (fun x : Nat × Vec => ([(1, pv b1 0), (2, pv b2 0), (5, pv b5 0), (6, pv b 0), (7, vi i), (8, osv x.2 (Dp (ts[i].take x.1)).length), (9, vi x.1)], Mi,
     [(b5, Cl 24 [osv oq i]), (b2, Cl 24 [.slice none 0 0])] ++ (osg 70 oq vs' ++ osg 83 x.2 ((Dp (ts[i].take x.1)).flatMap Be))))
    (fun x => x.1 ≤ ts[i].length ∧ E7 5 x.2 (Dp (ts[i].take x.1)).length ((Dp (ts[i].take x.1)).flatMap Be))
    (fun x => ts[i].length - x.1) (0, none) ⟨Nat.zero_le _, rfl, rfl⟩ ?_
   rintro ⟨j, ov⟩ ⟨hj, hov⟩ ih2
   dsimp only at hj hov ih2 ⊢
   repeat' first
     | refine EV.seq ?_
     | refine EV.skip ?_
     | refine EV.block ?_
     | refine rg ?_
     | (refine cX (fun h => ?_) (fun h => ?_) <;> try exact Ah h)
     | (refine EV.exit rfl ?_)
     | (with_reducible intro b; try refine nx ?_)
     | (refine And.intro (by omega) ?_)
     | ((first | refine xn ?_ | refine xsA rfl ?_ | fail); try refine nx ?_)
     | exact ⟨⟩
     | fail
   ·have hj' : j < ts[i].length := by omega
    obtain ⟨qb, qo, rfl, hat2⟩ := Sl.at (enc := Be) (fun _ => rfl) (by omega) hr2 (by omega)
    have hr3 := hat2 j hj'
    have hok := List.all_eq_true.1 hall _ (hmem _ (List.getElem_mem hj'))
    have hrl := Vw (ts[i].take j)
    have htl : (ts[i].take j).length ≤ j := by simp; omega
    have e := Ze hj'
    repeat' first
      | refine EV.seq ?_
      | refine EV.skip ?_
      | refine rg ?_
      | with_reducible assumption
      | (refine Az.merge ?_ (fun hc K' hK => ?_) ?_; rotate_left)
      | (refine cX (fun h => ?_) (fun h => ?_) <;> try exact Ah h)
      | (with_reducible intro b; try refine nx ?_)
      | (refine And.intro (by omega) ?_)
      | ((first | refine xm ?_ | refine xrA rfl ?_ | refine xiA rfl ?_ | fail); try refine nx ?_)
      | (refine xw ?_; refine nx ?_)
      | exact ⟨⟩
      | fail
    ·refine ⟨_, Or.inr ⟨_, 0, rfl, An 0 rfl rfl (by simp)⟩, by simp [B6, C7, Value.oneCell'], Or.inl ⟨_, _, rfl, _, hov, _, B7 [[_, _, _, _], osg 70 oq vs', osg 83 ov _] 2 (by simp), ?_, ?_, ?_⟩⟩
     ·simp only [maxLen]; omega
     ·omega
     intro o' ho' _
     simp only [List.eraseIdx_cons_succ, List.eraseIdx_cons_zero, List.getElem_cons_succ, List.getElem_cons_zero, Dw, Dv, Dt, List.nil_append, List.cons_append, List.append_assoc, List.append_nil]
     repeat' first
       | refine rg ?_
       | (refine EV.exit rfl ?_)
       | exact ⟨⟩
       | fail
     have he : Ca ts[i][j] = [ts[i][j]] := by
      rw [Ca, if_pos]
      rcases h with h | h
      ·left; simp [Bh, h]
      ·exact .inr h
     have ih3 := ih2 (j + 1, o') ⟨by dsimp only; omega, by rw [e, he]; simpa using ho'⟩ (by dsimp only; omega)
     simp only [e, he, List.length_append, List.flatMap_append] at ih3
     refine EV.to ih3 ?_ eS
     exact eE
    ·have he : Ca ts[i][j] = [Gs, { ts[i][j] with ord := Ie ts[i][j].kind ts[i][j].ord }, Gs] := by
      rw [Ca, if_neg]
      have h5 := ((Eo _).1 hok).1
      simp only [Te, Bool.and_eq_true, decide_eq_true_eq] at h5
      have : Bh ts[i][j] = true := by simp only [Bh, Bool.and_eq_true, decide_eq_true_eq]; omega
      rw [this]; simp [h.2]
     repeat' first
       | refine rg ?_
       | ((first | refine Aq.call (Ue _) ?_ | with_reducible intro b | refine xm ?_ | refine xrA rfl ?_ | fail); try refine nx ?_)
       | (refine xw ?_; refine nx ?_)
       | exact ⟨⟩
       | fail
     refine ⟨_, Or.inr ⟨_, 0, rfl, An 0 rfl rfl (by simp)⟩, by simp [B6, C7, Value.oneCell'], Or.inl ⟨_, _, rfl, _, hov, _, B7 [[_, _, _, _], osg 70 oq vs', osg 83 ov _] 2 (by simp), ?_, ?_, ?_⟩⟩
     ·simp only [maxLen]; omega
     ·omega
     intro o' ho' _
     simp only [List.eraseIdx_cons_succ, List.eraseIdx_cons_zero, List.getElem_cons_succ, List.getElem_cons_zero, Dw, Dv, Dt, List.nil_append, List.cons_append, List.append_assoc, List.append_nil]
     repeat' first
       | refine EV.inBlock ?_
       | refine rg ?_
       | exact ⟨⟩
       | fail
     have ih3 := ih2 (j + 1, o') ⟨by dsimp only; omega, by rw [e, he]; simpa using ho'⟩ (by dsimp only; omega)
     simp only [e, he, List.length_append, List.flatMap_append] at ih3
     refine EV.to ih3 ?_ eS
     exact eE
   ·have hj' : j = ts[i].length := by omega
    subst hj'
    have hrl := Vw ts[i]
    rw [List.take_length] at hov ⊢
    repeat' first
      | fail
    refine ⟨_, Or.inr ⟨_, 0, rfl, An 0 rfl rfl (by simp)⟩, by simp [B6, C7, Value.oneCell'], Or.inl ⟨_, _, rfl, _, hoq, _, B7 [[_, _, _], osg 70 oq vs', osg 83 ov _] 1 (by simp), ?_, ?_, ?_⟩⟩
    ·simp only [maxLen]; omega
    ·omega
    intro o' ho' _
    simp only [List.eraseIdx_cons_succ, List.eraseIdx_cons_zero, List.getElem_cons_succ, List.getElem_cons_zero, Dw, Dv, Dt, List.nil_append, List.cons_append, List.append_assoc, List.append_nil]
    repeat' first
      | refine EV.inBlock ?_
      | refine rg ?_
      | (refine xw ?_; refine nx ?_)
      | exact ⟨⟩
      | fail
    refine EV.permG ?_ (B7 [[_, _, _], osg 83 ov _, osg 70 o' _] 1 (by simp))
    simp only [List.eraseIdx_cons_succ, List.eraseIdx_cons_zero, List.getElem_cons_succ, List.getElem_cons_zero, List.insertIdx_zero, List.insertIdx_succ_cons, Dw, Dv, Dt, List.nil_append, List.cons_append, List.append_assoc, List.append_nil]
    refine EV.freeze ?_
    have ih3 := ih (i + 1, Mi.add (osg 83 ov ((Dp ts[i]).flatMap Be)), o', vs' ++ [osv ov (Dp ts[i]).length]) ⟨by dsimp only; omega, Aa.le_trans hMi (Aa.le_add _ _), ho', by simp [hlen'], ?_⟩ (by dsimp only; omega)
    dsimp only at ih3
    refine EV.to ih3 ?_ eS
    ·exact eE
    ·intro k hk1 hk2
     dsimp only at hk1 hk2 ⊢
     by_cases hkl : k < vs'.length
     ·rw [List.getElem_append_left hkl]
      exact (hSl k hkl hk2).mono (Aa.le_add _ _)
     ·have : k = i := by simp at hk1; omega
      subst this
      rw [List.getElem_append_right (by omega)]
      simp only [hlen', Nat.sub_self, List.getElem_cons_zero]
      exact ⟨_, _, rfl, D7 hov (fun p hp => hp)⟩
  ·have hi2 : i = ts.length := by omega
   subst hi2
   repeat' first
     | fail
   refine EV.permG ?_ (B7 [[_, _], osg 70 oq vs'] 1 (by simp))
   simp only [List.eraseIdx_cons_succ, List.eraseIdx_cons_zero, List.getElem_cons_succ, List.getElem_cons_zero, List.insertIdx_zero, List.insertIdx_succ_cons, Dw, Dv, Dt, List.nil_append, List.cons_append, List.append_assoc, List.append_nil]
   refine EV.freeze ?_
   (refine rt Q66_ok ?_; try with_reducible exact ⟨⟩)
   refine ⟨_, An 1 rfl rfl (by simp), .inr ⟨hck, _, rfl, oad oq, Lt oq, vs', by simp, by simpa using hlen', ?_, ?_⟩⟩
   ·simpa using D7 hoq (fun p hp => hp)
   ·intro k h1 h2
    simp only [List.getElem_map]
    exact (hSl k h1 (by simpa using h2)).mono (Aa.le_add _ _)
end
end Go.EV

namespace Go.EV
open Go.Proofs
def Af {α : Type} (f : Nat → α → α) : Nat → α → α
 | 0, r => r
 | i + 1, r => f i (Af f i r)
theorem Bk {f : Nat → Rel → Rel} (h : ∀ i r, (f i r).length = r.length) : ∀ n r, (Af f n r).length = r.length
 | 0, _ => rfl
 | n + 1, r => by rw [Af, h, Bk h n r]
theorem Bo {f : Nat → Rel → Rel} {P : Nat → Prop} {L a b : Nat} (hl : ∀ i r, (f i r).length = r.length) {n : Nat} (h : ∀ i r, i < n → r.length = L → (A0 (f i r) a b = true ↔ A0 r a b = true ∨ P i)) : ∀ m r, m ≤ n → r.length = L → (A0 (Af f m r) a b = true ↔ A0 r a b = true ∨ ∃ i, i < m ∧ P i)
 | 0, r, _, _ => by simp [Af]
 | m + 1, r, hm, hr => by
  rw [Af, h m _ (by omega) (by rw [Bk hl, hr]), Bo hl h m r (by omega) hr]
  constructor
  ·rintro ((h | ⟨i, h1, h2⟩) | h)
   ·exact .inl h
   ·exact .inr ⟨i, by omega, h2⟩
   ·exact .inr ⟨m, by omega, h⟩
  ·rintro (h | ⟨i, h1, h2⟩)
   ·exact .inl (.inl h)
   ·by_cases hi : i = m
    ·subst hi; exact .inr h2
    ·exact .inl (.inr ⟨i, by omega, h2⟩)
theorem loopN_ok {f : Nat → Rel → Rel} {n N : Nat} (h : ∀ i r, i < n → RelOk N r → RelOk N (f i r)) : ∀ m r, m ≤ n → RelOk N r → RelOk N (Af f m r)
 | 0, _, _, h => h
 | m + 1, r, hm, hr => h m _ (by omega) (loopN_ok h m r (by omega) hr)
def Fx (c : Bool) (r : Rel) (a b : Nat) : Rel := if c then Li r a b else r
theorem Hp {c : Bool} {r : Rel} {a b : Nat} : (Fx c r a b).length = r.length := by
 unfold Fx; split
 ·exact D4
 ·rfl
theorem Jq {c : Bool} {r : Rel} {a b x y : Nat} : A0 (Fx c r a b) x y = true ↔ A0 r x y = true ∨ (c = true ∧ x = a ∧ a < r.length ∧ y = b) := by
 unfold Fx
 cases c with
 | true => rw [if_pos rfl, Et]; simp
 | false => simp
theorem putIf_ok {N : Nat} {c : Bool} {r : Rel} (h : RelOk N r) (a : Nat) {b : Nat} (hb : b < N) : RelOk N (Fx c r a b) := by
 unfold Fx; split
 ·exact h.put a hb
 ·exact h
def Bp : Rel := List.replicate 16 0
theorem H3 {a b : Nat} : A0 Bp a b = false := Mm
def Sc (p : List Ev) (a : Nat) (d : Nat) (r : Rel) : Rel := Fx (decide ((evAt p a).th = (evAt p (a + 1 + d)).th)) r a (a + 1 + d)
def Ii (p : List Ev) (a : Nat) (r : Rel) : Rel := Af (Sc p a) (p.length - (a + 1)) r
def W3 (p : List Ev) : Rel := Af (Ii p) p.length Bp
theorem Sd (p : List Ev) (a : Nat) : ∀ d r, (Sc p a d r).length = r.length := fun _ _ => Hp
theorem Pg (p : List Ev) : ∀ a r, (Ii p a r).length = r.length := fun a r => Bk (Sd p a) _ _
theorem Vx (p : List Ev) : (W3 p).length = 16 := by rw [W3, Bk (Pg p)]; rfl
theorem Vy {p : List Ev} (hp : p.length ≤ 16) {x y : Nat} : A0 (W3 p) x y = true ↔ x < y ∧ y < p.length ∧ (evAt p x).th = (evAt p y).th := by
 have hin : ∀ a r, a < p.length → r.length = 16 → (A0 (Ii p a r) x y = true ↔ A0 r x y = true ∨ (x = a ∧ x < y ∧ y < p.length ∧ (evAt p x).th = (evAt p y).th)) := by
  intro a r ha hr
  rw [Ii, Bo (P := fun d => x = a ∧ y = a + 1 + d ∧ (evAt p a).th = (evAt p (a + 1 + d)).th) (n := p.length - (a + 1)) (Sd p a) (fun d r hd hr => ?_) _ r (Nat.le_refl _) hr]
  ·constructor
   ·rintro (h | ⟨d, h1, h2, h3, h4⟩)
    ·exact .inl h
    ·subst h2 h3; exact .inr ⟨rfl, by omega, by omega, h4⟩
   ·rintro (h | ⟨h1, h2, h3, h4⟩)
    ·exact .inl h
    ·subst h1
     exact .inr ⟨y - (x + 1), by omega, rfl, by omega, by rw [show x + 1 + (y - (x + 1)) = y by omega]; exact h4⟩
  ·rw [Sc, Jq, decide_eq_true_eq]
   constructor
   ·rintro (h | ⟨h1, h2, h3, h4⟩)
    ·exact .inl h
    ·exact .inr ⟨h2, h4, h1⟩
   ·rintro (h | ⟨h1, h2, h3⟩)
    ·exact .inl h
    ·exact .inr ⟨h3, h1, by omega, h2⟩
 rw [W3, Bo (P := fun a => x = a ∧ x < y ∧ y < p.length ∧ (evAt p x).th = (evAt p y).th) (n := p.length) (Pg p) hin _ _ (Nat.le_refl _) rfl, H3]
 constructor
 ·rintro (h | ⟨a, h1, h2, h3⟩)
  ·cases h
  ·exact h3
 ·intro h
  exact .inr ⟨x, by omega, rfl, h⟩
def Ij (e : Exec) (a : Nat) (r : Rel) : Rel := Fx (decide (0 ≤ Ae e a)) r (Ae e a).toNat a
def Iw (p : List Ev) (e : Exec) : Rel := Af (Ij e) p.length Bp
theorem Ph (e : Exec) : ∀ a r, (Ij e a r).length = r.length := fun _ _ => Hp
theorem Hq (p : List Ev) (e : Exec) : (Iw p e).length = 16 := by rw [Iw, Bk (Ph e)]; rfl
theorem Se {p : List Ev} {e : Exec} (hp : p.length ≤ 16) (hx : ∀ i, i < p.length → Ae e i < p.length) {x y : Nat} : A0 (Iw p e) x y = true ↔ Rf e p.length x y := by
 rw [Iw, Bo (P := fun a => y = a ∧ Ae e a = (x : Nat)) (L := 16) (n := p.length) (Ph e) (fun a r ha hr => ?_) _ _ (Nat.le_refl _) rfl, H3]
 ·unfold Rf
  constructor
  ·rintro (h | ⟨a, h1, rfl, h3⟩)
   ·cases h
   ·exact ⟨h1, h3⟩
  ·rintro ⟨h1, h2⟩; exact .inr ⟨y, h1, rfl, h2⟩
 ·have := hx a ha
  rw [Ij, Jq, decide_eq_true_eq]
  constructor
  ·rintro (h | ⟨h1, h2, h3, h4⟩)
   ·exact .inl h
   ·exact .inr ⟨h4, by omega⟩
  ·rintro (h | ⟨h1, h2⟩)
   ·exact .inl h
   ·exact .inr ⟨by omega, by omega, by omega, h1⟩
def Ni (fen : List Int) (i d : Nat) (r : Rel) : Rel := Li r (Ad fen i).toNat (Ad fen (i + 1 + d)).toNat
def Fl (fen : List Int) (i : Nat) (r : Rel) : Rel := Af (Ni fen i) (fen.length - (i + 1)) r
def Fy (fen : List Int) : Rel := Af (Fl fen) fen.length Bp
theorem Pi (fen : List Int) (i : Nat) : ∀ d r, (Ni fen i d r).length = r.length := fun _ _ => D4
theorem Nj (fen : List Int) : ∀ i r, (Fl fen i r).length = r.length := fun i r => Bk (Pi fen i) _ _
theorem Pj (fen : List Int) : (Fy fen).length = 16 := by rw [Fy, Bk (Nj fen)]; rfl
theorem Pk {fen : List Int} (hin : ∀ k, k < fen.length → 0 ≤ Ad fen k ∧ Ad fen k < 16) {x y : Nat} : A0 (Fy fen) x y = true ↔ Co1 fen x y := by
 have hi : ∀ i r, i < fen.length → r.length = 16 → (A0 (Fl fen i r) x y = true ↔ A0 r x y = true ∨ ∃ j, i < j ∧ j < fen.length ∧ Ad fen i = x ∧ Ad fen j = y) := by
  intro i r hil hr
  rw [Fl, Bo (P := fun d => Ad fen i = x ∧ Ad fen (i + 1 + d) = y) (n := fen.length - (i + 1)) (Pi fen i) (fun d r hd hr => ?_) _ r (Nat.le_refl _) hr]
  ·constructor
   ·rintro (h | ⟨d, h1, h2, h3⟩)
    ·exact .inl h
    ·exact .inr ⟨i + 1 + d, by omega, by omega, h2, h3⟩
   ·rintro (h | ⟨j, h1, h2, h3, h4⟩)
    ·exact .inl h
    ·exact .inr ⟨j - (i + 1), by omega, h3, by rw [show i + 1 + (j - (i + 1)) = j by omega]; exact h4⟩
  ·have q1 := hin i hil
   have q2 := hin (i + 1 + d) (by omega)
   rw [Ni, Et]
   constructor
   ·rintro (h | ⟨h1, h2, h3⟩)
    ·exact .inl h
    ·exact .inr ⟨by omega, by omega⟩
   ·rintro (h | ⟨h1, h2⟩)
    ·exact .inl h
    ·exact .inr ⟨by omega, by omega, by omega⟩
 rw [Fy, Bo (P := fun i => ∃ j, i < j ∧ j < fen.length ∧ Ad fen i = x ∧ Ad fen j = y) (n := fen.length) (Nj fen) hi _ _ (Nat.le_refl _) rfl, H3]
 unfold Co1
 constructor
 ·rintro (h | ⟨i, h1, j, h2, h3, h4, h5⟩)
  ·cases h
  ·exact ⟨i, j, h2, h3, h4, h5⟩
 ·rintro ⟨i, j, h2, h3, h4, h5⟩; exact .inr ⟨i, by omega, j, h2, h3, h4, h5⟩
def Gl (b : Rel) (i : Nat) (a : Rel) : Rel := a.set i (a[i]?.getD 0 ||| b[i]?.getD 0)
def Ed (a b : Rel) : Rel := Af (Gl b) 16 a
theorem Nk (b : Rel) : ∀ i a, (Gl b i a).length = a.length := fun _ _ => by simp [Gl]
theorem Pl (a b : Rel) : (Ed a b).length = a.length := Bk (Nk b) _ _
theorem H4 {a b : Rel} (ha : a.length = 16) (hb : b.length = 16) {x y : Nat} : A0 (Ed a b) x y = true ↔ A0 a x y = true ∨ A0 b x y = true := by
 rw [Ed, Bo (P := fun i => x = i ∧ A0 b i y = true) (L := 16) (n := 16) (Nk b) (fun i r hi hr => ?_) _ _ (Nat.le_refl _) ha]
 ·constructor
  ·rintro (h | ⟨i, h1, rfl, h3⟩)
   ·exact .inl h
   ·exact .inr h3
  ·rintro (h | h)
   ·exact .inl h
   ·by_cases hx : x < 16
    ·exact .inr ⟨x, hx, rfl, h⟩
    ·rw [Jm (by omega)] at h; cases h
 ·have : Gl b i r = orR r i (b[i]?.getD 0) := rfl
  rw [this, Ml, Bool.or_eq_true, Bool.and_eq_true, decide_eq_true_eq]
  constructor
  ·rintro (h | ⟨⟨h1, h2⟩, h3⟩)
   ·exact .inl h
   ·exact .inr ⟨h1, h3⟩
  ·rintro (h | ⟨h1, h3⟩)
   ·exact .inl h
   ·exact .inr ⟨⟨h1, by omega⟩, h3⟩
def Of (e : Exec) (k : Nat) (i : Nat) (a : Nat) (d : Nat) (r : Rel) : Rel := Li r a (Ad (e.ord[k]?.getD []) (i + 1 + d)).toNat
def K5 (e : Exec) (k : Nat) (i : Nat) (a b : Nat) (d : Nat) (r : Rel) : Rel := Fx (decide (Ae e b = a) && decide (Ad (e.ord[k]?.getD []) (i + 1 + d) ≠ b)) r b (Ad (e.ord[k]?.getD []) (i + 1 + d)).toNat
def Qr (p : List Ev) (e : Exec) (k : Nat) (i : Nat) (a : Nat) (b : Nat) (r : Rel) : Rel :=
 Af (K5 e k i a b) ((e.ord[k]?.getD []).length - (i + 1)) (Fx (decide (Ae e b = -1) && decide ((evAt p b).op.loc = (k : Int)) && decide (a ≠ b)) r b a)
def Qs (p : List Ev) (e : Exec) (k : Nat) (i : Nat) (r : Rel) : Rel :=
 Af (Qr p e k i (Ad (e.ord[k]?.getD []) i).toNat) p.length (Af (Of e k i (Ad (e.ord[k]?.getD []) i).toNat) ((e.ord[k]?.getD []).length - (i + 1)) r)
def Og (p : List Ev) (e : Exec) (k : Nat) (r : Rel) : Rel := Af (Qs p e k) (e.ord[k]?.getD []).length r
def Vz (p : List Ev) (e : Exec) : Rel := Af (Og p e) 3 (Iw p e)
theorem Nl (e : Exec) (k i a : Nat) : ∀ d r, (Of e k i a d r).length = r.length := fun _ _ => D4
theorem Pm (e : Exec) (k i a b : Nat) : ∀ d r, (K5 e k i a b d r).length = r.length := fun _ _ => Hp
theorem Sf (p : List Ev) (e : Exec) (k i a : Nat) : ∀ b r, (Qr p e k i a b r).length = r.length := fun b r => by rw [Qr, Bk (Pm e k i a b), Hp]
theorem Sg (p : List Ev) (e : Exec) (k : Nat) : ∀ i r, (Qs p e k i r).length = r.length := fun i r => by rw [Qs, Bk (Sf p e k i _), Bk (Nl e k i _)]
theorem Zf (p : List Ev) (e : Exec) : ∀ k r, (Og p e k r).length = r.length := fun k r => Bk (Sg p e k) _ _
def Ac8 (p : List Ev) (e : Exec) (k : Nat) (l : List Int) (x y : Nat) : Prop :=
 Co1 l x y ∨ (x < p.length ∧ ∃ i, i < l.length ∧ ((Ae e x = -1 ∧ (evAt p x).op.loc = (k : Int) ∧ Ad l i = y ∧ y ≠ x) ∨ (Ae e x = Ad l i ∧ ∃ j, i < j ∧ j < l.length ∧ Ad l j = y ∧ y ≠ x)))
theorem Zg {p : List Ev} {e : Exec} (hp : p.length ≤ 16) {k : Nat} (hin : ∀ i, i < (e.ord[k]?.getD []).length → 0 ≤ Ad (e.ord[k]?.getD []) i ∧ Ad (e.ord[k]?.getD []) i < p.length) {x y : Nat} (r : Rel) (hr : r.length = 16) :
  A0 (Og p e k r) x y = true ↔ A0 r x y = true ∨ Ac8 p e k (e.ord[k]?.getD []) x y := by
 unfold Ac8 Og
 have hI : ∀ i r, i < (e.ord[k]?.getD []).length → r.length = 16 → (A0 (Qs p e k i r) x y = true ↔ A0 r x y = true ∨
   ((∃ j, i < j ∧ j < (e.ord[k]?.getD []).length ∧ Ad (e.ord[k]?.getD []) i = x ∧ Ad (e.ord[k]?.getD []) j = y) ∨
    (x < p.length ∧ ((Ae e x = -1 ∧ (evAt p x).op.loc = (k : Int) ∧ Ad (e.ord[k]?.getD []) i = y ∧ y ≠ x) ∨ (Ae e x = Ad (e.ord[k]?.getD []) i ∧ ∃ j, i < j ∧ j < (e.ord[k]?.getD []).length ∧ Ad (e.ord[k]?.getD []) j = y ∧ y ≠ x))))) := by
  intro i r hi hr
  have hii := hin i hi
  obtain ⟨a, ha⟩ : ∃ a : Nat, Ad (e.ord[k]?.getD []) i = a := ⟨(Ad (e.ord[k]?.getD []) i).toNat, by omega⟩
  have hat : (Ad (e.ord[k]?.getD []) i).toNat = a := by omega
  unfold Qs
  rw [hat, ha]
  have hJ : ∀ r : Rel, r.length = 16 → (A0 (Af (Of e k i a) ((e.ord[k]?.getD []).length - (i + 1)) r) x y = true ↔ A0 r x y = true ∨ ∃ j, i < j ∧ j < (e.ord[k]?.getD []).length ∧ x = a ∧ Ad (e.ord[k]?.getD []) j = y) := by
   intro r hr
   rw [Bo (P := fun d => x = a ∧ Ad (e.ord[k]?.getD []) (i + 1 + d) = y) (n := (e.ord[k]?.getD []).length - (i + 1)) (Nl e k i a) (fun d r hd hr => ?_) _ r (Nat.le_refl _) hr]
   ·constructor
    ·rintro (h | ⟨d, h1, h2, h3⟩)
     ·exact .inl h
     ·exact .inr ⟨i + 1 + d, by omega, by omega, h2, h3⟩
    ·rintro (h | ⟨j, h1, h2, h3, h4⟩)
     ·exact .inl h
     ·exact .inr ⟨j - (i + 1), by omega, h3, by rw [show i + 1 + (j - (i + 1)) = j by omega]; exact h4⟩
   ·have q2 := hin (i + 1 + d) (by omega)
    rw [Of, Et]
    constructor
    ·rintro (h | ⟨h1, h2, h3⟩)
     ·exact .inl h
     ·exact .inr ⟨h1, by omega⟩
    ·rintro (h | ⟨h1, h2⟩)
     ·exact .inl h
     ·exact .inr ⟨h1, by omega, by omega⟩
  have hB : ∀ b r, b < p.length → r.length = 16 → (A0 (Qr p e k i a b r) x y = true ↔ A0 r x y = true ∨ (x = b ∧ ((Ae e x = -1 ∧ (evAt p x).op.loc = (k : Int) ∧ y = a ∧ y ≠ x) ∨ (Ae e x = a ∧ ∃ j, i < j ∧ j < (e.ord[k]?.getD []).length ∧ Ad (e.ord[k]?.getD []) j = y ∧ y ≠ x)))) := by
   intro b r hb hr
   unfold Qr
   rw [Bo (P := fun d => x = b ∧ Ae e b = a ∧ Ad (e.ord[k]?.getD []) (i + 1 + d) = y ∧ y ≠ b) (n := (e.ord[k]?.getD []).length - (i + 1)) (L := 16) (Pm e k i a b) (fun d r hd hr => ?_) _ _ (Nat.le_refl _) (by rw [Hp, hr]), Jq]
   ·simp only [Bool.and_eq_true, decide_eq_true_eq]
    constructor
    ·rintro ((h | ⟨⟨⟨h1, h2⟩, h3⟩, h4, h5, h6⟩) | ⟨d, h1, h2, h3, h4, h5⟩)
     ·exact .inl h
     ·subst h4; exact .inr ⟨rfl, .inl ⟨h1, h2, h6, by omega⟩⟩
     ·subst h2; exact .inr ⟨rfl, .inr ⟨h3, i + 1 + d, by omega, by omega, h4, h5⟩⟩
    ·rintro (h | ⟨rfl, ⟨h1, h2, h3, h4⟩ | ⟨h1, j, h2, h3, h4, h5⟩⟩)
     ·exact .inl (.inl h)
     ·exact .inl (.inr ⟨⟨⟨h1, h2⟩, by omega⟩, rfl, by omega, h3⟩)
     ·exact .inr ⟨j - (i + 1), by omega, rfl, h1, by rw [show i + 1 + (j - (i + 1)) = j by omega]; exact h4, h5⟩
   ·have q2 := hin (i + 1 + d) (by omega)
    rw [K5, Jq, Bool.and_eq_true, decide_eq_true_eq, decide_eq_true_eq]
    constructor
    ·rintro (h | ⟨⟨h1, h2⟩, h3, h4, h5⟩)
     ·exact .inl h
     ·exact .inr ⟨h3, h1, by omega, by omega⟩
    ·rintro (h | ⟨h1, h2, h3, h4⟩)
     ·exact .inl h
     ·exact .inr ⟨⟨h2, by omega⟩, h1, by omega, by omega⟩
  rw [Bo (P := fun b => x = b ∧ ((Ae e x = -1 ∧ (evAt p x).op.loc = (k : Int) ∧ y = a ∧ y ≠ x) ∨ (Ae e x = a ∧ ∃ j, i < j ∧ j < (e.ord[k]?.getD []).length ∧ Ad (e.ord[k]?.getD []) j = y ∧ y ≠ x))) (n := p.length) (L := 16) (Sf p e k i a) hB _ _ (Nat.le_refl _) (by rw [Bk (Nl e k i a), hr]), hJ r hr]
  constructor
  ·rintro ((h | ⟨j, h1, h2, h3, h4⟩) | ⟨b, h1, rfl, h2⟩)
   ·exact .inl h
   ·exact .inr (.inl ⟨j, h1, h2, by omega, h4⟩)
   ·refine .inr (.inr ⟨h1, ?_⟩)
    rcases h2 with ⟨g1, g2, g3, g4⟩ | h2
    ·exact .inl ⟨g1, g2, by omega, g4⟩
    ·exact .inr h2
  ·rintro (h | ⟨j, h1, h2, h3, h4⟩ | ⟨h1, h2⟩)
   ·exact .inl (.inl h)
   ·exact .inl (.inr ⟨j, h1, h2, by omega, h4⟩)
   ·refine .inr ⟨x, h1, rfl, ?_⟩
    rcases h2 with ⟨g1, g2, g3, g4⟩ | h2
    ·exact .inl ⟨g1, g2, by omega, g4⟩
    ·exact .inr h2
 rw [Bo (n := (e.ord[k]?.getD []).length) (L := 16) (Sg p e k) hI _ r (Nat.le_refl _) hr]
 unfold Co1
 constructor
 ·rintro (h | ⟨i, h1, ⟨j, h2, h3, h4, h5⟩ | ⟨h2, h3⟩⟩)
  ·exact .inl h
  ·exact .inr (.inl ⟨i, j, h2, h3, h4, h5⟩)
  ·exact .inr (.inr ⟨h2, i, h1, h3⟩)
 ·rintro (h | ⟨i, j, h2, h3, h4, h5⟩ | ⟨h2, i, h1, h3⟩)
  ·exact .inl h
  ·exact .inr ⟨i, by omega, .inl ⟨j, h2, h3, h4, h5⟩⟩
  ·exact .inr ⟨i, h1, .inr ⟨h2, h3⟩⟩
theorem W4 {p : List Ev} {e : Exec} (hl : p.length ≤ 16) (hp : POk p) (hs : Shape p e) {x y : Nat} : A0 (Vz p e) x y = true ↔ Cn0 p e x y := by
 have hx := hs.xok (.inr trivial)
 have hin : ∀ k, k < 3 → ∀ i, i < (e.ord[k]?.getD []).length → 0 ≤ Ad (e.ord[k]?.getD []) i ∧ Ad (e.ord[k]?.getD []) i < p.length := by
  intro k hk i hi
  have hm : e.ord[k]?.getD [] ∈ e.ord := by
   have : k < e.ord.length := by rw [hs.ol]; exact hk
   rw [List.getElem?_eq_getElem this, Option.getD_some]; exact List.getElem_mem _
  exact (hx.oin _ hm).1.num hi
 rw [Vz, Bo (P := fun k => Ac8 p e k (e.ord[k]?.getD []) x y) (n := 3) (L := 16) (Zf p e) (fun k r hk hr => Zg hl (hin k hk) r hr) _ _ (Nat.le_refl _) (Hq p e), Se hl (fun i hi => (hx.fr i hi).1)]
 unfold Cn0 Ac8
 have hrd : ∀ {b : Nat} {a : Nat}, b < p.length → Ae e b = a → (evAt p b).reads = true := by
  intro b a hb hf
  cases hr : (evAt p b).reads with
  | true => rfl
  | false => have := hs.out b hb hr; omega
 have hrd1 : ∀ {b : Nat}, b < p.length → Ae e b = -1 → (evAt p b).reads = true := by
  intro b hb hf
  cases hr : (evAt p b).reads with
  | true => rfl
  | false => have := hs.out b hb hr; omega
 have hmem : ∀ k, k < 3 → e.ord[k]?.getD [] ∈ e.ord := by
  intro k hk
  have : k < e.ord.length := by rw [hs.ol]; exact hk
  rw [List.getElem?_eq_getElem this, Option.getD_some]; exact List.getElem_mem _
 have hloc : ∀ {b : Nat} {k i : Nat}, b < p.length → k < 3 → i < (e.ord[k]?.getD []).length → Ae e b = Ad (e.ord[k]?.getD []) i → (evAt p b).op.loc = (k : Int) := by
  intro b k i hb hk hi hf
  obtain ⟨w, w1, w2, w3, w4, w5⟩ := A7.1 ((hs.ord k hk).mem_iff.1 (Hk.2 ⟨i, hi, rfl⟩))
  rcases hs.src b hb (hrd hb (hf.trans w1)) with h | ⟨w', g1, g2, g3, g4⟩
  ·omega
  ·have : w' = w := by omega
   subst this; rw [← g4]; exact w5
 have hat : ∀ {b : Nat} {k : Nat}, (evAt p b).op.loc = (k : Int) → J5 p e b = e.ord[k]?.getD [] := by
  intro b k h; unfold J5; rw [h, Int.toNat_natCast]
 constructor
 ·rintro (h | ⟨k, hk, h | ⟨h1, i, hi, ⟨g1, g2, g3, g4⟩ | ⟨g1, j, g2, g3, g4, g5⟩⟩⟩)
  ·exact .inr (.inl ⟨hrd h.1 h.2, h⟩)
  ·exact .inl ⟨_, hmem k hk, h⟩
  ·refine .inr (.inr ⟨h1, hrd1 h1 g1, g4, i, ?_, ?_, .inl g1⟩)
   ·rw [hat g2]; exact hi
   ·rw [hat g2]; exact g3
  ·have hlc := hloc h1 hk hi g1
   have h0 := hin k hk i hi
   obtain ⟨a, ha⟩ : ∃ a : Nat, Ad (e.ord[k]?.getD []) i = a := ⟨(Ad (e.ord[k]?.getD []) i).toNat, by omega⟩
   refine .inr (.inr ⟨h1, hrd h1 (g1.trans ha), g5, j, ?_, ?_, .inr ⟨i, g2, ?_⟩⟩)
   ·rw [hat hlc]; exact g3
   ·rw [hat hlc]; exact g4
   ·rw [hat hlc]; exact g1.symm
 ·rintro (⟨l, hl', h⟩ | ⟨_, h⟩ | ⟨h1, h2, h3, j, h4, h5, h6⟩)
  ·obtain ⟨k, hk, rfl⟩ := List.getElem_of_mem hl'
   have hk3 : k < 3 := by rw [← hs.ol]; exact hk
   refine .inr ⟨k, hk3, .inl ?_⟩
   rw [List.getElem?_eq_getElem hk, Option.getD_some]; exact h
  ·exact .inl h
  ·have hlc := hp.loc x h1
   obtain ⟨k, hk⟩ : ∃ k : Nat, (evAt p x).op.loc = (k : Int) := ⟨(evAt p x).op.loc.toNat, by omega⟩
   rw [hat hk] at h4 h5 h6
   refine .inr ⟨k, by omega, .inr ⟨h1, ?_⟩⟩
   rcases h6 with h6 | ⟨i, i1, i2⟩
   ·exact ⟨j, h4, .inl ⟨h6, hk, h5, h3⟩⟩
   ·exact ⟨i, by omega, .inr ⟨i2.symm, j, i1, h4, h5, h3⟩⟩
end Go.EV

namespace Go.EV
open Go.Proofs
theorem Nm {f : Nat → Nat → Nat} {P : Nat → Prop} {c : Nat} {n : Nat} (h : ∀ i s, i < n → ((f i s).testBit c = true ↔ s.testBit c = true ∨ P i)) : ∀ m s, m ≤ n → ((Af f m s).testBit c = true ↔ s.testBit c = true ∨ ∃ i, i < m ∧ P i)
 | 0, s, _ => by simp [Af]
 | m + 1, s, hm => by
  rw [Af, h m _ (by omega), Nm h m s (by omega)]
  constructor
  ·rintro ((h | ⟨i, h1, h2⟩) | h)
   ·exact .inl h
   ·exact .inr ⟨i, by omega, h2⟩
   ·exact .inr ⟨m, by omega, h⟩
  ·rintro (h | ⟨i, h1, h2⟩)
   ·exact .inl (.inl h)
   ·by_cases hi : i = m
    ·subst hi; exact .inr h2
    ·exact .inl (.inr ⟨i, by omega, h2⟩)
theorem Jr {f : Nat → Nat → Nat} {n N : Nat} (h : ∀ i s, i < n → s < 2 ^ N → f i s < 2 ^ N) : ∀ m s, m ≤ n → s < 2 ^ N → Af f m s < 2 ^ N
 | 0, _, _, h => h
 | m + 1, s, hm, hs => h m _ (by omega) (Jr h m s (by omega) hs)
def E6 (c : Bool) (s a : Nat) : Nat := if c then s ||| 2 ^ a else s
theorem Hr {c : Bool} {s a x : Nat} : (E6 c s a).testBit x = true ↔ s.testBit x = true ∨ (c = true ∧ x = a) := by
 unfold E6
 cases c with
 | true =>
  rw [if_pos rfl, Nat.testBit_or, Bool.or_eq_true, Nat.testBit_two_pow, decide_eq_true_eq]
  constructor
  ·rintro (h | h)
   ·exact .inl h
   ·exact .inr ⟨rfl, h.symm⟩
  ·rintro (h | ⟨_, h⟩)
   ·exact .inl h
   ·exact .inr h.symm
 | false => simp
theorem Lq {c : Bool} {s a N : Nat} (h : s < 2 ^ N) (ha : a < N) : E6 c s a < 2 ^ N := by
 unfold E6; split
 ·exact Nat.or_lt_two_pow h (Nat.pow_lt_pow_right (by decide) ha)
 ·exact h
def chS (e : Exec) (a c : Nat) : Nat := E6 (Bx e.dn a && decide (0 ≤ Ae e a) && c.testBit (Ae e a).toNat) c a
def Cl7 (p : List Ev) (e : Exec) (c : Nat) : Nat := Af (chS e) p.length c
def chN (p : List Ev) (e : Exec) (k w : Nat) : Nat := Af (fun _ c => Cl7 p e c) k (2 ^ w)
def chW (p : List Ev) (e : Exec) (w : Nat) : Nat := chN p e p.length w
section
variable {p : List Ev} {e : Exec}
theorem Ag7 {a c x : Nat} (h : c.testBit x = true) : (chS e a c).testBit x = true := Hr.2 (.inl h)
theorem Qt {c x : Nat} : ∀ m, c.testBit x = true → (Af (chS e) m c).testBit x = true
 | 0, h => h
 | m + 1, h => Ag7 (Qt m h)
theorem Pn {c x : Nat} {b : Nat} (hd : Bx e.dn x = true) (hf : Ae e x = (b : Nat)) (hb : c.testBit b = true) : ∀ m, x < m → (Af (chS e) m c).testBit x = true
 | 0, h => by omega
 | m + 1, h => by
  by_cases hx : x = m
  ·subst hx
   refine Hr.2 (.inr ⟨?_, rfl⟩)
   have h0 : (0 : Int) ≤ Ae e x := by omega
   have ht : (Ae e x).toNat = b := by omega
   rw [hd, ht, Qt x hb, decide_eq_true h0]; rfl
  ·exact Ag7 (Pn hd hf hb m (by omega))
theorem Es5 {p : List Ev} {e : Exec} (hs : Shape p e) {a b : Nat} (ha : a < p.length) (hd : Bx e.dn a = true) (hf : Ae e a = (b : Nat)) : Ex1 p e a b := by
 refine ⟨?_, hf⟩
 unfold Mb
 have hr : (evAt p a).reads = true := by
  cases hr : (evAt p a).reads with
  | true => rfl
  | false => have := hs.out a ha hr; omega
 rw [hr, Bool.true_and]; exact hd
theorem Nn (hs : Shape p e) {w c : Nat} (hc : ∀ x, c.testBit x = true → x < p.length ∧ Back p e x w) : ∀ m, m ≤ p.length → ∀ x, (Af (chS e) m c).testBit x = true → x < p.length ∧ Back p e x w
 | 0, _, x, h => hc x h
 | m + 1, hm, x, h => by
  have ih := Nn hs hc m (by omega)
  rcases Hr.1 h with h | ⟨h1, rfl⟩
  ·exact ih x h
  ·simp only [Bool.and_eq_true, decide_eq_true_eq] at h1
   obtain ⟨⟨h1, h2⟩, h3⟩ := h1
   exact ⟨by omega, .on (Es5 hs (by omega) h1 (by omega : Ae e x = ((Ae e x).toNat : Nat))) (ih _ h3).2⟩
theorem Sh (hs : Shape p e) {w : Nat} (hw : w < p.length) : ∀ k x, (chN p e k w).testBit x = true → x < p.length ∧ Back p e x w
 | 0, x, h => by
  have : (2 ^ w).testBit x = true := h
  rw [Nat.testBit_two_pow, decide_eq_true_eq] at this
  subst this; exact ⟨hw, .here⟩
 | k + 1, x, h => Nn hs (Sh hs hw k) _ (Nat.le_refl _) x h
theorem Ug (hx : XOk p e) {w : Nat} : ∀ (m k x : Nat), m ≤ k → x < p.length → Od p e m x w → (chN p e k w).testBit x = true
 | m, 0, x, hk, _, hb => by
  have : m = 0 := by omega
  subst this
  have hxw : x = w := hb
  subst hxw
  show (2 ^ x).testBit x = true
  simp
 | 0, k + 1, x, hk, hl, hb => Qt _ (Ug hx 0 k x (by omega) hl hb)
 | m + 1, k + 1, x, hk, hl, ⟨v, h1, h2⟩ => by
  have hv : v < p.length := by
   have := (hx.fr x hl).1
   have := h1.2
   unfold Ae at this; omega
  have hd : Bx e.dn x = true := by
   have := h1.1
   unfold Mb at this
   simp only [Bool.and_eq_true] at this
   exact this.2
  exact Pn hd h1.2 (Ug hx m k v (by omega) hv h2) _ hl
theorem Zh (hs : Shape p e) (hac : Y0 p e) {w x : Nat} (hw : w < p.length) : (chW p e w).testBit x = true ↔ x < p.length ∧ Back p e x w := by
 have hx := hs.xok (.inr trivial)
 refine ⟨Sh hs hw _ x, fun ⟨h1, h2⟩ => ?_⟩
 obtain ⟨m, hm⟩ := h2.n
 refine Ug hx m _ x ?_ h1 hm
 obtain ⟨f, q1, q2, q3⟩ := hm.way
 have := Qd (R := fun a b => Rf e p.length b a) (f := f) (m := m) (n := p.length) (fun a ha => hac a ?_) (fun i hi => ?_) (fun i hi => ?_)
 ·omega
 ·have key : ∀ a b, TG (fun a b => Rf e p.length b a) a b → TG (Rf e p.length) b a := by
   intro a b h
   induction h with
   | one h => exact .one h
   | more h _ ih => exact ih.trans (.one h)
  exact key a a ha
 ·have := q3 i hi
  exact ⟨Kb hx this.1, this.2⟩
 ·by_cases h0 : i = 0
  ·subst h0; rw [q1]; exact h1
  ·have := q3 (i - 1) (by omega)
   rw [show i - 1 + 1 = i by omega] at this
   have h1 := (hx.fr _ (Kb hx this.1)).1
   have h2 := this.2
   unfold Ae at h2; omega
end
def hdC (p : List Ev) (w a : Nat) : Bool := (evAt p a).rel && (decide (a = w) || (decide ((evAt p a).op.kind = 5) && decide ((evAt p a).th = (evAt p w).th) && decide (a < w)))
def tlC (p : List Ev) (b a : Nat) : Bool := (evAt p a).acq && (decide (a = b) || (decide ((evAt p a).op.kind = 5) && decide ((evAt p a).th = (evAt p b).th) && decide (a > b)))
def hdW (p : List Ev) (w : Nat) : Nat := Af (fun a s => E6 (hdC p w a) s a) p.length 0
def tlW (p : List Ev) (b : Nat) : Nat := Af (fun a s => E6 (tlC p b a) s a) p.length 0
theorem Zi {p : List Ev} {w a : Nat} : hdC p w a = true ↔ Rv p w a := by
 unfold hdC Rv
 simp only [Bool.and_eq_true, Bool.or_eq_true, decide_eq_true_eq]
 constructor
 ·rintro ⟨h1, h2 | ⟨⟨h2, h3⟩, h4⟩⟩
  ·exact ⟨h1, .inl h2⟩
  ·exact ⟨h1, .inr ⟨h4, h3, h2⟩⟩
 ·rintro ⟨h1, h2 | ⟨h4, h3, h2⟩⟩
  ·exact ⟨h1, .inl h2⟩
  ·exact ⟨h1, .inr ⟨⟨h2, h3⟩, h4⟩⟩
theorem Zj {p : List Ev} {w x : Nat} (hw : w < p.length) : (hdW p w).testBit x = true ↔ Rv p w x := by
 rw [hdW, Nm (P := fun a => hdC p w a = true ∧ x = a) (n := p.length) (fun i s _ => Hr) _ _ (Nat.le_refl _)]
 simp only [Nat.zero_testBit, Bool.false_eq_true, false_or]
 constructor
 ·rintro ⟨i, _, h, rfl⟩; exact Zi.1 h
 ·intro h; exact ⟨x, h.lt hw, Zi.2 h, rfl⟩
theorem At2 {p : List Ev} {b x : Nat} (hb : b < p.length) : (tlW p b).testBit x = true ↔ Z8 p b x := by
 rw [tlW, Nm (P := fun a => tlC p b a = true ∧ x = a) (n := p.length) (fun i s _ => Hr) _ _ (Nat.le_refl _)]
 simp only [Nat.zero_testBit, Bool.false_eq_true, false_or]
 unfold tlC Z8
 simp only [Bool.and_eq_true, Bool.or_eq_true, decide_eq_true_eq]
 constructor
 ·rintro ⟨i, h0, ⟨h1, h2 | ⟨⟨h2, h3⟩, h4⟩⟩, rfl⟩
  ·exact ⟨h1, .inl h2⟩
  ·exact ⟨h1, .inr ⟨h4, h0, h3, h2⟩⟩
 ·rintro ⟨h1, h2 | ⟨h4, h0, h3, h2⟩⟩
  ·exact ⟨x, by omega, ⟨h1, .inl h2⟩, rfl⟩
  ·exact ⟨x, h0, ⟨h1, .inr ⟨⟨h2, h3⟩, h4⟩⟩, rfl⟩
def mtA (p : List Ev) (w b a : Nat) (r : Rel) : Rel := if (hdW p w).testBit a then orR r a (tlW p b) else r
def mtB (p : List Ev) (e : Exec) (w b : Nat) (r : Rel) : Rel := if decide (Ae e b < 0) || !(chW p e w).testBit (Ae e b).toNat then r else Af (mtA p w b) p.length r
def mtW (p : List Ev) (e : Exec) (w : Nat) (r : Rel) : Rel := if Bx e.dn w then Af (mtB p e w) p.length r else r
def Js (p : List Ev) (e : Exec) : Rel := Af (mtW p e) p.length Bp
theorem Zk (p : List Ev) (w b : Nat) : ∀ a r, (mtA p w b a r).length = r.length := fun a r => by unfold mtA; split; exact Qc; rfl
theorem Zl (p : List Ev) (e : Exec) (w : Nat) : ∀ b r, (mtB p e w b r).length = r.length := fun b r => by unfold mtB; split; rfl; exact Bk (Zk p w b) _ _
theorem Zm (p : List Ev) (e : Exec) : ∀ w r, (mtW p e w r).length = r.length := fun w r => by unfold mtW; split; exact Bk (Zl p e w) _ _; rfl
theorem Po (p : List Ev) (e : Exec) : (Js p e).length = 16 := Bk (Zm p e) _ _
theorem W5 {p : List Ev} {e : Exec} (hl : p.length ≤ 16) (hs : Shape p e) (hac : Y0 p e) {x y : Nat} : A0 (Js p e) x y = true ↔ Sw p e x y := by
 have hx := hs.xok (.inr trivial)
 have hA : ∀ w b a r, w < p.length → b < p.length → a < p.length → r.length = 16 → (A0 (mtA p w b a r) x y = true ↔ A0 r x y = true ∨ (x = a ∧ Rv p w x ∧ Z8 p b y)) := by
  intro w b a r hw hb ha hr
  unfold mtA
  split
  ·rename_i h
   rw [Ml, Bool.or_eq_true, Bool.and_eq_true, decide_eq_true_eq, At2 hb]
   rw [Zj hw] at h
   constructor
   ·rintro (h1 | ⟨⟨h1, h2⟩, h3⟩)
    ·exact .inl h1
    ·subst h1; exact .inr ⟨rfl, h, h3⟩
   ·rintro (h1 | ⟨h1, h2, h3⟩)
    ·exact .inl h1
    ·exact .inr ⟨⟨h1, by omega⟩, h3⟩
  ·rename_i h
   rw [Zj hw] at h
   constructor
   ·exact .inl
   ·rintro (h1 | ⟨h1, h2, _⟩)
    ·exact h1
    ·subst h1; exact absurd h2 h
 have hB : ∀ w b r, w < p.length → b < p.length → r.length = 16 → (A0 (mtB p e w b r) x y = true ↔ A0 r x y = true ∨ (∃ v : Nat, Ae e b = v ∧ Back p e v w) ∧ Rv p w x ∧ Z8 p b y) := by
  intro w b r hw hb hr
  unfold mtB
  have hfb := (hx.fr b hb).1
  split
  ·rename_i h
   constructor
   ·exact .inl
   ·rintro (h1 | ⟨⟨v, h1, h2⟩, _⟩)
    ·exact h1
    ·exfalso
     simp only [Bool.or_eq_true, decide_eq_true_eq, Bool.not_eq_true'] at h
     rcases h with h | h
     ·omega
     ·have hv : (Ae e b).toNat = v := by omega
      rw [hv, (Zh hs hac hw).2 ⟨by unfold Ae at h1; omega, h2⟩] at h
      cases h
  ·rename_i h
   simp only [Bool.or_eq_true, decide_eq_true_eq, Bool.not_eq_true', not_or, Bool.not_eq_false] at h
   obtain ⟨h1, h2⟩ := h
   have hbk := ((Zh hs hac hw).1 h2).2
   rw [Bo (P := fun a => x = a ∧ Rv p w x ∧ Z8 p b y) (n := p.length) (L := 16) (Zk p w b) (fun a r ha hr => hA w b a r hw hb ha hr) _ r (Nat.le_refl _) hr]
   constructor
   ·rintro (g | ⟨a, _, _, g⟩)
    ·exact .inl g
    ·exact .inr ⟨⟨(Ae e b).toNat, by omega, hbk⟩, g⟩
   ·rintro (g | ⟨_, g⟩)
    ·exact .inl g
    ·exact .inr ⟨x, g.1.lt hw, rfl, g⟩
 have hW : ∀ w r, w < p.length → r.length = 16 → (A0 (mtW p e w r) x y = true ↔ A0 r x y = true ∨ (Bx e.dn w = true ∧ ∃ b, b < p.length ∧ (∃ v : Nat, Ae e b = v ∧ Back p e v w) ∧ Rv p w x ∧ Z8 p b y)) := by
  intro w r hw hr
  unfold mtW
  split
  ·rename_i h
   rw [Bo (n := p.length) (L := 16) (Zl p e w) (fun b r hb hr => hB w b r hw hb hr) _ r (Nat.le_refl _) hr]
   constructor
   ·rintro (g | ⟨b, hb, g⟩)
    ·exact .inl g
    ·exact .inr ⟨h, b, hb, g⟩
   ·rintro (g | ⟨_, b, hb, g⟩)
    ·exact .inl g
    ·exact .inr ⟨b, hb, g⟩
  ·rename_i h
   constructor
   ·exact .inl
   ·rintro (g | ⟨g, _⟩)
    ·exact g
    ·exact absurd g h
 rw [Js, Bo (n := p.length) (L := 16) (Zm p e) hW _ _ (Nat.le_refl _) rfl, H3]
 unfold Sw
 constructor
 ·rintro (h | ⟨w, hw, _, b, hb, ⟨v, h1, h2⟩, h3, h4⟩)
  ·cases h
  ·have hr : (evAt p b).reads = true := by
    cases hr : (evAt p b).reads with
    | true => rfl
    | false => have := hs.out b hb hr; omega
   exact ⟨b, v, w, hb, hr, h1, h2, h3, h4⟩
 ·rintro ⟨r, w, v, h1, h2, h3, h4, h5, h6⟩
  have hwd : w < p.length ∧ Bx e.dn w = true := by
   rcases hs.src r h1 h2 with h | ⟨w', g1, g2, g3, _⟩
   ·omega
   ·have : w' = w := by omega
    subst this; exact ⟨g2, g3⟩
  have hvd : v < p.length ∧ Bx e.dn v = true := by
   clear h5 h3
   induction h4 with
   | here => exact hwd
   | @on w u v h _ ih =>
    refine ih ?_
    have hl := Kb hx h.1
    have hr : (evAt p w).reads = true := by
     have := h.1; unfold Mb at this; simp only [Bool.and_eq_true] at this; exact this.1
    rcases hs.src w hl hr with g | ⟨w', g1, g2, g3, _⟩
    ·have := h.2; omega
    ·have : w' = u := by have := h.2; omega
     subst this; exact ⟨g2, g3⟩
  exact .inr ⟨v, hvd.1, hvd.2, r, h1, ⟨w, h3, h4⟩, h5, h6⟩
theorem zero16_ok : RelOk 16 Bp := RelOk.zero 16
theorem thrR_ok {p : List Ev} (hp : p.length ≤ 16) : RelOk 16 (W3 p) :=
 loopN_ok (n := p.length) (fun a r ha hr => loopN_ok (n := p.length - (a + 1)) (fun d r hd hr => putIf_ok hr a (by omega)) _ r (Nat.le_refl _) hr) _ _ (Nat.le_refl _) zero16_ok
theorem fromR_ok {p : List Ev} {e : Exec} (hp : p.length ≤ 16) : RelOk 16 (Iw p e) :=
 loopN_ok (n := p.length) (fun a r ha hr => putIf_ok hr _ (by omega)) _ _ (Nat.le_refl _) zero16_ok
theorem turnsR_ok {fen : List Int} (hin : ∀ k, k < fen.length → 0 ≤ Ad fen k ∧ Ad fen k < 16) : RelOk 16 (Fy fen) :=
 loopN_ok (n := fen.length) (fun i r hi hr => loopN_ok (n := fen.length - (i + 1)) (fun d r hd hr => by have := hin (i + 1 + d) (by omega); exact hr.put _ (by omega)) _ r (Nat.le_refl _) hr) _ _ (Nat.le_refl _) zero16_ok
theorem unionR_ok {a b : Rel} (ha : RelOk 16 a) (hb : RelOk 16 b) : RelOk 16 (Ed a b) :=
 loopN_ok (n := 16) (fun i r hi hr => hr.or i (hb.lt i)) _ _ (Nat.le_refl _) ha
theorem Zn {p : List Ev} (hp : p.length ≤ 16) (b : Nat) : tlW p b < 2 ^ 16 := Jr (n := p.length) (fun i s hi hs => Lq hs (by omega)) _ _ (Nat.le_refl _) (by decide)
theorem meetsR_ok {p : List Ev} {e : Exec} (hp : p.length ≤ 16) : RelOk 16 (Js p e) := by
 refine loopN_ok (n := p.length) (fun w r hw hr => ?_) _ _ (Nat.le_refl _) zero16_ok
 unfold mtW; split
 ·refine loopN_ok (n := p.length) (fun b r hb hr => ?_) _ _ (Nat.le_refl _) hr
  unfold mtB; split
  ·exact hr
  ·refine loopN_ok (n := p.length) (fun a r ha hr => ?_) _ _ (Nat.le_refl _) hr
   unfold mtA; split
   ·exact hr.or a (Zn hp b)
   ·exact hr
 ·exact hr
theorem seenR0_ok {p : List Ev} {e : Exec} (hp : p.length ≤ 16) (hin : ∀ k, k < 3 → ∀ i, i < (e.ord[k]?.getD []).length → 0 ≤ Ad (e.ord[k]?.getD []) i ∧ Ad (e.ord[k]?.getD []) i < p.length) : RelOk 16 (Vz p e) := by
 refine loopN_ok (n := 3) (fun k r hk hr => ?_) _ _ (Nat.le_refl _) (fromR_ok hp)
 refine loopN_ok (n := (e.ord[k]?.getD []).length) (fun i r hi hr => ?_) _ _ (Nat.le_refl _) hr
 refine loopN_ok (n := p.length) (fun b r hb hr => ?_) _ _ (Nat.le_refl _) (loopN_ok (n := (e.ord[k]?.getD []).length - (i + 1)) (fun d r hd hr => ?_) _ _ (Nat.le_refl _) hr)
 ·have h1 := hin k hk i hi
  refine loopN_ok (n := (e.ord[k]?.getD []).length - (i + 1)) (fun d r hd hr => ?_) _ _ (Nat.le_refl _) (putIf_ok hr _ (by omega))
  have h2 := hin k hk (i + 1 + d) (by omega)
  exact putIf_ok hr _ (by omega)
 ·have h2 := hin k hk (i + 1 + d) (by omega)
  exact hr.put _ (by omega)
def Zo (p : List Ev) (e : Exec) : Rel := Cc (Ed (W3 p) (Ed (Js p e) (Fy e.fen)))
def Si (p : List Ev) (e : Exec) : Rel := Cc (Vz p e)
def Au4 (p : List Ev) (e : Exec) : Rel := Cc (Ed (W3 p) (Ed (Iw p e) (Fy e.fen)))
def No (hb eco : Rel) : Bool := Bn hb || (List.range 16).any fun a => (List.range 16).any fun b => A0 hb a b && A0 eco b a
theorem V0 {p : List Ev} (hm : Lo p) {x y : Nat} (h1 : x < y) (h2 : y < p.length) (h3 : (evAt p x).th = (evAt p y).th) : TG (Sb1 p) x y := by
 have key : ∀ (d a : Nat), a + d + 1 < p.length → (evAt p a).th = (evAt p (a + d + 1)).th → TG (Sb1 p) a (a + d + 1) := by
  intro d
  induction d with
  | zero => intro a h ht; exact .one ⟨rfl, h, ht.symm⟩
  | succ d ih =>
   intro a h ht
   have h1 := hm.between (a := a) (b := a + (d + 1) + 1) (x := a + d + 1) h (by omega) (by omega) ht
   exact (ih a (by omega) (by rw [h1]; exact ht)).trans (.one ⟨by omega, h, h1.symm⟩)
 have := key (y - x - 1) x (by omega) (by rw [show x + (y - x - 1) + 1 = y by omega]; exact h3)
 rwa [show x + (y - x - 1) + 1 = y by omega] at this
theorem V1 {l : List Int} (hp : ∀ k, k < l.length → 0 ≤ Ad l k) {x y : Nat} (h : Co1 l x y) : TG (Fo1 l) x y := by
 obtain ⟨i, j, hij, hj, h1, h2⟩ := h
 have key : ∀ (d j a b : Nat), j + d + 1 < l.length → Ad l j = a → Ad l (j + d + 1) = b → TG (Fo1 l) a b := by
  intro d
  induction d with
  | zero => intro j a b h ha hb; exact .one ⟨j, h, ha, hb⟩
  | succ d ih =>
   intro j a b h ha hb
   have h1 := hp (j + d + 1) (by omega)
   obtain ⟨c, hc⟩ : ∃ c : Nat, Ad l (j + d + 1) = c := ⟨(Ad l (j + d + 1)).toNat, by omega⟩
   exact (ih j a c (by omega) ha hc).trans (.one ⟨j + d + 1, by omega, hc, by rw [← hb]; congr 1⟩)
 exact key (j - i - 1) i x y (by omega) h1 (by rw [show i + (j - i - 1) + 1 = j by omega]; exact h2)
theorem Ag8 {l : List Int} {x y : Nat} (h : Fo1 l x y) : Co1 l x y := by
 obtain ⟨j, h1, h2, h3⟩ := h; exact ⟨j, j + 1, by omega, h1, h2, h3⟩
theorem Ag9 {p : List Ev} {x y : Nat} (h : Sb1 p x y) : x < y ∧ y < p.length ∧ (evAt p x).th = (evAt p y).th := ⟨by have := h.1; omega, h.2.1, h.2.2.symm⟩
section
variable {p : List Ev} {e : Exec} (hl : p.length ≤ 16) (hm : Lo p) (hs : Shape p e)
include hl hm hs
theorem V2 : ∀ k, k < e.fen.length → 0 ≤ Ad e.fen k ∧ Ad e.fen k < 16 := fun k hk => by
 have := ((hs.xok (.inr trivial)).fin.1).num hk; omega
theorem Ac9 {x y : Nat} : A0 (Au4 p e) x y = true ↔ TG (fun a b => Sb1 p a b ∨ Fo1 e.fen a b ∨ Rf e p.length a b) x y := by
 have hx := hs.xok (.inr trivial)
 have hf := V2 hl hm hs
 rw [Au4, Ey (unionR_ok (thrR_ok hl) (unionR_ok (fromR_ok hl) (turnsR_ok hf)))]
 have hbase : ∀ a b, A0 (Ed (W3 p) (Ed (Iw p e) (Fy e.fen))) a b = true ↔ (a < b ∧ b < p.length ∧ (evAt p a).th = (evAt p b).th) ∨ Rf e p.length a b ∨ Co1 e.fen a b := fun a b => by
  rw [H4 (Vx p) (by rw [Pl, Hq]), Vy hl, H4 (Hq p e) (Pj _), Se hl (fun i hi => (hx.fr i hi).1), Pk hf]
 refine TG.iff (fun a b h => ?_) (fun a b h => .one ((hbase a b).2 ?_))
 ·rcases (hbase a b).1 h with ⟨h1, h2, h3⟩ | h | h
  ·exact (V0 hm h1 h2 h3).mono fun _ _ k => .inl k
  ·exact .one (.inr (.inr h))
  ·exact (V1 (fun k hk => (hf k hk).1) h).mono fun _ _ k => .inr (.inl k)
 ·rcases h with h | h | h
  ·exact .inl (Ag9 h)
  ·exact .inr (.inr (Ag8 h))
  ·exact .inr (.inl h)
theorem Qu (hac : Y0 p e) {x y : Nat} : A0 (Zo p e) x y = true ↔ Hb p e x y := by
 have hf := V2 hl hm hs
 rw [Zo, Ey (unionR_ok (thrR_ok hl) (unionR_ok (meetsR_ok hl) (turnsR_ok hf)))]
 have hbase : ∀ a b, A0 (Ed (W3 p) (Ed (Js p e) (Fy e.fen))) a b = true ↔ (a < b ∧ b < p.length ∧ (evAt p a).th = (evAt p b).th) ∨ Sw p e a b ∨ Co1 e.fen a b := fun a b => by
  rw [H4 (Vx p) (by rw [Pl, Po]), Vy hl, H4 (Po p e) (Pj _), W5 hl hs hac, Pk hf]
 refine TG.iff (fun a b h => ?_) (fun a b h => .one ((hbase a b).2 ?_))
 ·rcases (hbase a b).1 h with ⟨h1, h2, h3⟩ | h | h
  ·exact (V0 hm h1 h2 h3).mono fun _ _ k => .inl k
  ·exact .one (.inr (.inr h))
  ·exact (V1 (fun k hk => (hf k hk).1) h).mono fun _ _ k => .inr (.inl k)
 ·rcases h with h | h | h
  ·exact .inl (Ag9 h)
  ·exact .inr (.inr (Ag8 h))
  ·exact .inr (.inl h)
theorem Ah0 : ∀ k, k < 3 → ∀ i, i < (e.ord[k]?.getD []).length → 0 ≤ Ad (e.ord[k]?.getD []) i ∧ Ad (e.ord[k]?.getD []) i < p.length := by
 intro k hk i hi
 have hm : e.ord[k]?.getD [] ∈ e.ord := by
  have : k < e.ord.length := by rw [hs.ol]; exact hk
  rw [List.getElem?_eq_getElem this, Option.getD_some]; exact List.getElem_mem _
 exact ((hs.xok (.inr trivial)).oin _ hm).1.num hi
theorem Sj (hp : POk p) {x y : Nat} : A0 (Si p e) x y = true ↔ Eco p e x y := by
 rw [Si, Ey (seenR0_ok hl (Ah0 hl hm hs))]
 exact TG.congr fun a b => W4 hl hp hs
theorem Sk (hp : POk p) (hac : Y0 p e) : No (Zo p e) (Si p e) = true ↔ Qh p e := by
 unfold No Qh
 rw [Bool.or_eq_true, Ge]
 refine or_congr (exists_congr fun a => Qu hl hm hs hac) ?_
 simp only [List.any_eq_true, List.mem_range, Bool.and_eq_true]
 have hok : RelOk 16 (Zo p e) := (unionR_ok (thrR_ok hl) (unionR_ok (meetsR_ok hl) (turnsR_ok (V2 hl hm hs)))).close
 constructor
 ·rintro ⟨a, _, b, _, h1, h2⟩
  exact ⟨a, b, (Qu hl hm hs hac).1 h1, (Sj hl hm hs hp).1 h2⟩
 ·rintro ⟨a, b, h1, h2⟩
  have h1' := (Qu hl hm hs hac).2 h1
  have := hok.has h1'
  exact ⟨a, this.1, b, this.2, h1', (Sj hl hm hs hp).2 h2⟩
theorem Pp : Bn (Au4 p e) = true ↔ Ia p e := by
 rw [Ge]; exact exists_congr fun a => Ac9 hl hm hs
end
end Go.EV

namespace Go.EV
open Go.Proofs
abbrev vw (n : Nat) : Value := .int .u64 n
theorem V3 {x : Nat} (h : x < 2 ^ 64) : BitVec.ofInt IntKind.u64.bits (x : Int) = (BitVec.ofNat 64 x : BitVec IntKind.u64.bits) := BitVec.ofInt_natCast 64 x
theorem Bc {x : Nat} (h : x < 2 ^ 64) : IntKind.u64.wrap (x : Int) = x := by
 have e : (2 : Int) ^ IntKind.u64.bits = 18446744073709551616 := rfl
 have e3 : IntKind.u64.signed = false := rfl
 have h' : x < 18446744073709551616 := h
 simp only [IntKind.wrap, e, e3, Bool.false_and]
 simp only [Bool.false_eq_true, if_false]
 omega
theorem V4 {x y : Nat} (hx : x < 2 ^ 64) (hy : y < 2 ^ 64) : IntKind.u64.wrap ((BitVec.ofInt IntKind.u64.bits (x : Int) ||| BitVec.ofInt IntKind.u64.bits (y : Int)).toNat : Int) = ((x ||| y : Nat) : Int) := by
 rw [V3 hx, V3 hy]
 have e : (BitVec.ofNat 64 x ||| BitVec.ofNat 64 y).toNat = x ||| y := by
  rw [BitVec.toNat_or, BitVec.toNat_ofNat, BitVec.toNat_ofNat, Nat.mod_eq_of_lt hx, Nat.mod_eq_of_lt hy]
 show IntKind.u64.wrap ((BitVec.ofNat 64 x ||| BitVec.ofNat 64 y).toNat : Int) = _
 rw [e]
 exact Bc (Nat.or_lt_two_pow hx hy)
theorem Gm {b : Nat} (hb : b < 64) : IntKind.u64.wrap (1 * 2 ^ min b IntKind.u64.bits) = ((2 ^ b : Nat) : Int) := by
 rw [show IntKind.u64.bits = 64 from rfl, Nat.min_eq_left (by omega), Int.one_mul]
 rw [show ((2 : Int) ^ b) = ((2 ^ b : Nat) : Int) from by simp]
 exact Bc (Nat.pow_lt_pow_right (by decide) hb)
theorem Gn {x b : Nat} (hx : x < 2 ^ 64) (hb : b < 64) : IntKind.u64.wrap ((BitVec.ofInt IntKind.u64.bits (x : Int) ||| BitVec.ofInt IntKind.u64.bits (2 ^ b)).toNat : Int) = ((x ||| 2 ^ b : Nat) : Int) := by
 have := V4 (y := 2 ^ b) hx (Nat.pow_lt_pow_right (by decide) hb)
 rwa [show ((2 ^ b : Nat) : Int) = 2 ^ b from by simp] at this
theorem Ix {x b : Nat} (hx : x < 2 ^ 64) (hb : b < 64) : decide (IntKind.u64.wrap ((BitVec.ofInt IntKind.u64.bits ((x : Int).fdiv (2 ^ min b IntKind.u64.bits)) &&& BitVec.ofInt IntKind.u64.bits 1).toNat : Int) = 1) = x.testBit b := by
 have e0 : min b IntKind.u64.bits = b := Nat.min_eq_left (show b ≤ 64 by omega)
 rw [e0]
 have e1 : (x : Int).fdiv (2 ^ b) = ((x / 2 ^ b : Nat) : Int) := by
  rw [Int.fdiv_eq_ediv_of_nonneg _ (by exact_mod_cast Nat.zero_le _)]; simp
 have hd : x / 2 ^ b < 2 ^ 64 := Nat.lt_of_le_of_lt (Nat.div_le_self _ _) hx
 rw [e1, V3 hd]
 have e : (BitVec.ofNat 64 (x / 2 ^ b) &&& BitVec.ofInt 64 1).toNat = (x / 2 ^ b) % 2 := by
  rw [BitVec.toNat_and, BitVec.toNat_ofNat, Nat.mod_eq_of_lt hd]
  show (x / 2 ^ b) &&& 1 = _
  exact Nat.and_one_is_mod _
 show decide (IntKind.u64.wrap ((BitVec.ofNat 64 (x / 2 ^ b) &&& BitVec.ofInt 64 1).toNat : Int) = 1) = _
 rw [e, Bc (by omega)]
 rw [Nat.testBit_eq_decide_div_mod_eq]
 simp only [decide_eq_decide]
 omega
abbrev Fz (r : Rel) : Value := .agg (r.map vw).toArray
section
variable {M : Aa}
theorem K6 (r : Rel) (hr : RelOk 16 r) : Aq Tryz.prog 46 #[Fz r] M (vb (Bn r)) := by
 refine Con.enter Q76_ok (args := [Fz r]) (by simp [Q76]) fun w0 => ?_
 simp only [Q76, A3]
 have hl16 : (r.map vw).length = 16 := by rw [List.length_map, hr.len]
 have hlr := hr.len
 repeat' first
   | refine EV.seq ?_
   | refine EV.block ?_
   | refine rg ?_
   | (with_reducible intro b; try refine nx ?_)
   | exact ⟨⟩
   | fail
 refine EV.loopTo (fun i : Nat => ([(1, pv b 0), (3, vi i)], M, [(b, Cl 95 (r.map vw))])) (fun i => i ≤ 16 ∧ ∀ a, a < i → A0 r a a = false) (fun i => 16 - i) 0 rfl ⟨Nat.zero_le _, fun a ha => absurd ha (Nat.not_lt_zero _)⟩ ?env1 (List.Sublist.refl _) ?_
 case env1 =>
  exact eE
 rintro i ⟨hi, hno⟩ ih
 dsimp only at hi hno ih ⊢
 repeat' first
   | refine EV.seq ?_
   | refine EV.skip ?_
   | refine EV.block ?_
   | refine rg ?_
   | (refine cX (fun h => ?_) (fun h => ?_) <;> try exact Ah h)
   | (refine EV.exit rfl ?_)
   | (refine And.intro (by omega) ?_)
   | exact ⟨⟩
   | fail
 ·have hi' : i < 16 := by omega
  obtain ⟨hil, ei⟩ := hr.get hi'
  have hxi := hr.at (show 16 ≤ 32 by omega) i
  rw [ei] at hxi
  have hx64 : r[i] < 2 ^ 64 := Nat.lt_of_lt_of_le hxi (by decide)
  have hiw : IntKind.u64.wrap (i : Int) = (i : Int) := Bc (by omega)
  have hin : ¬ ((i : Int) < 0) := by omega
  have hbit := Ix (b := i) hx64 (by omega)
  have hh : A0 r i i = r[i].testBit i := by simp only [A0, ei]
  repeat' first
    | refine EV.seq ?_
    | refine EV.skip ?_
    | refine EV.inBlock ?_
    | (refine EV.reg ?_; (conv => (arg 2; whnf)); (repeat first | refine nx ?_ | simp only [hiw, hin]))
    | (refine Exists.intro _ (And.intro (B4 (f := vw) hil) ?_); (repeat first | refine nx ?_ | simp only [hiw, hin]))
    | (refine cX (fun h => ?_) (fun h => ?_) <;> try exact Ah h)
    | fail
  ·have ht : r[i].testBit i = true := by rw [← hbit]; exact decide_eq_true h
   have : Bn r = true := by
    simp only [Bn, List.any_eq_true, List.mem_range]
    exact ⟨i, hil, by rw [hh, ht]⟩
   (refine rt Q76_ok ?_; try with_reducible exact ⟨⟩)
   rw [this]
  ·have ht : r[i].testBit i = false := by rw [← hbit]; exact decide_eq_false h
   refine EV.to (ih (i + 1) ⟨by omega, fun a ha => ?_⟩ (by omega)) ?_ (List.Sublist.refl _)
   ·by_cases e : a = i
    ·subst e; rw [hh, ht]
    ·exact hno a (by omega)
   ·exact eE
 ·have : Bn r = false := Rr (i := i) hno (by omega)
  (refine rt Q76_ok ?_; try with_reducible exact ⟨⟩)
  rw [this]
theorem Gp (r t : Rel) (hr : RelOk 16 r) (ht : RelOk 16 t) : Con Tryz.prog 48 #[Fz r, Fz t] M [] fun v _ _ => v = Fz (Ed r t) := by
 refine Con.enter Q88_ok (args := [Fz r, Fz t]) (by simp [Q88]) fun w0 => ?_
 simp only [Q88, A3]
 have hlr := hr.len
 have hlt := ht.len
 repeat' first
   | refine EV.seq ?_
   | refine EV.block ?_
   | refine rg ?_
   | (with_reducible intro b; try refine nx ?_)
   | exact ⟨⟩
   | fail
 obtain ⟨b3, rfl⟩ : ∃ x, x = b := ⟨_, rfl⟩
 rename_i b1
 obtain ⟨b2, rfl⟩ : ∃ x, x = b := ⟨_, rfl⟩
 obtain ⟨zs, hzs⟩ : ∃ zs : List Value, zs = [vw 0, vw 0, vw 0, vw 0, vw 0, vw 0, vw 0, vw 0, vw 0, vw 0, vw 0, vw 0, vw 0, vw 0, vw 0, vw 0] := ⟨_, rfl⟩
 have hst : ∀ i, i ≤ 16 → RelOk 16 (Af (Gl t) i r) := fun i hi => loopN_ok (n := 16) (fun i q hi hq => hq.or i (ht.lt i)) i r hi hr
 refine EV.loopTo (fun i : Nat => ([(2, pv b1 0), (3, pv b2 0), (4, pv b3 0), (5, vi i)], M, [(b3, Cl 95 zs), (b2, Cl 95 (t.map vw)), (b1, Cl 95 ((Af (Gl t) i r).map vw))])) (fun i => i ≤ 16) (fun i => 16 - i) 0 rfl (Nat.zero_le _) ?env1 (by subst hzs; exact List.Sublist.refl _) ?_
 case env1 =>
  exact eE
 intro i hi ih
 dsimp only at hi ih ⊢
 repeat' first
   | refine EV.seq ?_
   | refine EV.skip ?_
   | refine EV.block ?_
   | refine rg ?_
   | (refine cX (fun h => ?_) (fun h => ?_) <;> try exact Ah h)
   | (refine EV.exit rfl ?_)
   | exact ⟨⟩
   | fail
 ·have hi' : i < 16 := by omega
  have hq := hst i (by omega)
  obtain ⟨hil, e1⟩ := hq.get hi'
  obtain ⟨htl, e2⟩ := ht.get hi'
  have hx1 := hq.at (show 16 ≤ 32 by omega) i
  have hx2 := ht.at (show 16 ≤ 32 by omega) i
  rw [e1] at hx1
  rw [e2] at hx2
  have ih2 := ih (i + 1) (by omega) (by omega)
  simp only [Af, Gl] at ih2
  generalize Af (Gl t) i r = q at *
  have hor := V4 (show q[i] < 2 ^ 64 from Nat.lt_of_lt_of_le hx1 (by decide)) (show t[i] < 2 ^ 64 from Nat.lt_of_lt_of_le hx2 (by decide))
  refine EV.any (t := Bg3) [(b2, Cl 95 (t.map vw)), (b1, Cl 95 (q.map vw))] (List.Sublist.cons _ (List.Sublist.refl _)) ?_
  simp only [Am, Au, Al, As, reduceIte, Nat.reduceEqDiff]
  repeat' first
    | ((first | refine zo (fun lq hlq => ?_) | refine zl ?_ | refine Exists.intro _ (And.intro (B4 (f := vw) hil) ?_) | refine Exists.intro _ (And.intro (B4 (f := vw) htl) ?_) | fail); (repeat first | refine nz ?_ | simp only [hor]))
    | (refine Ea (by first | with_reducible assumption | rfl) (fun tq htq => ?_) (fun tq htq => ?_) <;> (repeat first | refine nz ?_ | simp only [hor]))
    | exact zn
    | (refine And.intro (by omega) ?_)
    | (refine xw ?_; (repeat first | refine nz ?_ | simp only [hor]))
    | fail
  refine ⟨by rw [List.length_map, hq.len]; omega, ?_⟩
  rw [Ao vw q hil]
  repeat' first
    | (refine zl ?_; try refine nz ?_)
    | refine zq (fun lq tq hlq htq => ?_)
    | refine zf ?_
    | exact ⟨⟩
    | fail
  repeat' first
    | refine EV.inBlock ?_
    | refine rg ?_
    | exact ⟨⟩
    | fail
  rw [e1, e2] at ih2
  refine EV.to ih2 ?_ (List.Sublist.refl _)
  exact eE
 ·have hie : i = 16 := by omega
  subst hie
  have hul : (Af (Gl t) 16 r).length = 16 := (hst 16 (Nat.le_refl _)).len
  refine ⟨_, E8 (f := vw) hul, _, zs, [], _, rfl, by subst hzs; simp, by rw [List.length_map, hul], fun v hv => by obtain ⟨x, _, rfl⟩ := List.mem_map.1 hv; rfl, ?_⟩
  rw [List.length_map, hul, show zs.drop 16 = [] by subst hzs; rfl, List.append_nil, List.nil_append]
  (refine rt Q88_ok ?_; try with_reducible exact ⟨⟩)
  exact ⟨_, E8 (f := vw) hul, rfl⟩
theorem Hs (r : Rel) (hr : RelOk 16 r) : Con Tryz.prog 47 #[Fz r] M [] fun v _ _ => v = Fz (Cc r) := by
 refine Con.enter Q77_ok (args := [Fz r]) (by simp [Q77]) fun w0 => ?_
 simp only [Q77, A3]
 have hlr := hr.len
 repeat' first
   | refine EV.seq ?_
   | refine EV.block ?_
   | refine rg ?_
   | (with_reducible intro b; try refine nx ?_)
   | exact ⟨⟩
   | fail
 obtain ⟨b3, rfl⟩ : ∃ x, x = b := ⟨_, rfl⟩
 obtain ⟨b1, rfl⟩ : ∃ x, x = b := ⟨_, rfl⟩
 obtain ⟨zs, hzs⟩ : ∃ zs : List Value, zs = [vw 0, vw 0, vw 0, vw 0, vw 0, vw 0, vw 0, vw 0, vw 0, vw 0, vw 0, vw 0, vw 0, vw 0, vw 0, vw 0] := ⟨_, rfl⟩
 refine EV.loopTo (fun k : Nat => ([(1, pv b1 0), (2, pv b3 0), (3, vi k)], M, [(b3, Cl 95 zs), (b1, Cl 95 ((closeGo r k).map vw))])) (fun k => k ≤ 16) (fun k => 16 - k) 0 rfl (Nat.zero_le _) ?env1 (by subst hzs; exact List.Sublist.refl _) ?_
 case env1 =>
  exact eE
 intro k hk ih
 dsimp only at hk ih ⊢
 have hgo := hr.closeGo k
 repeat' first
   | refine EV.seq ?_
   | refine EV.skip ?_
   | refine EV.block ?_
   | refine rg ?_
   | (refine cX (fun h => ?_) (fun h => ?_) <;> try exact Ah h)
   | (refine EV.exit rfl ?_)
   | exact ⟨⟩
   | fail
 ·have hk' : k < 16 := by omega
  have ihk := ih (k + 1) (by omega) (by omega)
  have hrow := fun a => hgo.closeRow k a
  simp only [closeGo, hlr] at ihk
  generalize closeGo r k = g at *
  refine EV.loopTo (fun a : Nat => ([(1, pv b1 0), (2, pv b3 0), (3, vi k), (4, vi a)], M, [(b3, Cl 95 zs), (b1, Cl 95 ((closeRow g k a).map vw))])) (fun a => a ≤ 16) (fun a => 16 - a) 0 rfl (Nat.zero_le _) ?env2 (List.Sublist.refl _) ?_
  case env2 =>
   exact eE
  intro a ha ih2
  dsimp only at ha ih2 ⊢
  repeat' first
    | refine EV.seq ?_
    | refine EV.skip ?_
    | refine EV.block ?_
    | refine EV.inBlock ?_
    | refine rg ?_
    | (refine cX (fun h => ?_) (fun h => ?_) <;> try exact Ah h)
    | (refine EV.exit rfl ?_)
    | (refine And.intro (by omega) ?_)
    | exact ⟨⟩
    | fail
  ·have ha' : a < 16 := by omega
   have hq := hrow a
   obtain ⟨hal, e1⟩ := hq.get ha'
   obtain ⟨hkl, e2⟩ := hq.get hk'
   have hx1 := hq.at (show 16 ≤ 32 by omega) a
   have hx2 := hq.at (show 16 ≤ 32 by omega) k
   rw [e1] at hx1
   rw [e2] at hx2
   have ih3 := ih2 (a + 1) (by omega) (by omega)
   simp only [closeRow] at ih3
   generalize closeRow g k a = q at *
   have hy1 : q[a] < 2 ^ 64 := Nat.lt_of_lt_of_le hx1 (by decide)
   have hy2 : q[k] < 2 ^ 64 := Nat.lt_of_lt_of_le hx2 (by decide)
   have hor := V4 hy1 hy2
   have hbit := Ix (b := k) hy1 (by omega)
   have hkw : IntKind.u64.wrap (k : Int) = (k : Int) := Bc (by omega)
   have hkn : ¬ ((k : Int) < 0) := by omega
   repeat' first
     | refine EV.skip ?_
     | refine EV.inBlock ?_
     | (refine EV.reg ?_; (conv => (arg 2; whnf)); (repeat first | refine nx ?_ | simp only [hkw, hkn]))
     | (refine Exists.intro _ (And.intro (B4 (f := vw) hal) ?_); (repeat first | refine nx ?_ | simp only [hkw, hkn]))
     | (refine cX (fun h => ?_) (fun h => ?_) <;> try exact Ah h)
     | fail
   ·have ht : q[a].testBit k = true := by rw [← hbit]; exact decide_eq_true h
    refine EV.any (t := Bg0) [(b1, Cl 95 (q.map vw))] (List.Sublist.cons _ (List.Sublist.refl _)) ?_
    simp only [Am, Au, Al, As, reduceIte, Nat.reduceEqDiff]
    repeat' first
      | ((first | refine zo (fun lq hlq => ?_) | refine zl ?_ | refine Exists.intro _ (And.intro (B4 (f := vw) hal) ?_) | refine Exists.intro _ (And.intro (B4 (f := vw) hkl) ?_) | fail); (repeat first | refine nz ?_ | simp only [hor]))
      | (refine Ea (by first | with_reducible assumption | rfl) (fun tq htq => ?_) (fun tq htq => ?_) <;> (repeat first | refine nz ?_ | simp only [hor]))
      | exact zn
      | (refine And.intro (by omega) ?_)
      | (refine xw ?_; (repeat first | refine nz ?_ | simp only [hor]))
      | fail
    refine ⟨by rw [List.length_map, hq.len]; omega, ?_⟩
    rw [Ao vw q hal]
    repeat' first
      | (refine zl ?_; try refine nz ?_)
      | refine zq (fun lq tq hlq htq => ?_)
      | refine zf ?_
      | exact ⟨⟩
      | fail
    repeat' first
      | refine EV.inBlock ?_
      | refine rg ?_
      | exact ⟨⟩
      | fail
    rw [if_pos (show A0 q a k = true by simp only [A0, e1]; exact ht), orR, e1, e2] at ih3
    refine EV.to ih3 ?_ (List.Sublist.refl _)
    exact eE
   ·have ht : q[a].testBit k = false := by rw [← hbit]; exact decide_eq_false h
    rw [if_neg (show ¬ A0 q a k = true by simp only [A0, e1]; rw [ht]; decide)] at ih3
    refine EV.to ih3 ?_ (List.Sublist.refl _)
    exact eE
  ·have hae : a = 16 := by omega
   subst hae
   refine EV.to ihk ?_ (List.Sublist.refl _)
   exact eE
 ·have hke : k = 16 := by omega
  subst hke
  have hcl : Cc r = closeGo r 16 := by rw [Cc, hlr]
  rw [hcl]
  refine ⟨_, E8 (f := vw) hgo.len, _, zs, [], _, rfl, by subst hzs; simp, by rw [List.length_map, hgo.len], fun v hv => by obtain ⟨x, _, rfl⟩ := List.mem_map.1 hv; rfl, ?_⟩
  rw [List.length_map, hgo.len, show zs.drop 16 = [] by subst hzs; rfl, List.append_nil, List.nil_append]
  (refine rt Q77_ok ?_; try with_reducible exact ⟨⟩)
  exact ⟨_, E8 (f := vw) hgo.len, rfl⟩
end
end Go.EV

namespace Go.EV
open Go.Proofs
abbrev H5 (e : Ev) : List Value := [vi e.th, vi e.op.kind, vi e.op.loc, vi e.op.v, vi e.op.w, vi e.op.ord]
def Eg (o : OpV) : Bool := decide (o.kind = 0) || (decide (2 ≤ o.kind) && decide (o.kind ≤ 4))
def Cq (o : OpV) : Bool := decide (1 ≤ o.kind) && decide (o.kind ≤ 4)
def Np (o : OpV) : Bool := decide (o.kind = 5) && decide (o.ord = 4)
theorem Jt {e : Ev} (h : 0 ≤ e.op.kind ∧ e.op.kind ≤ 5) : Eg e.op = e.reads := by
 unfold Eg Ev.reads
 rw [Bool.eq_iff_iff]
 simp only [Bool.or_eq_true, Bool.and_eq_true, decide_eq_true_eq]
 omega
section
variable {M : Aa}
theorem Nq (o : OpV) : Aq Tryz.prog 56 #[vop o] M (vb (Eg o)) := by
 refine Con.enter Q82_ok (args := [vop o]) (by simp [Q82]) fun w0 => ?_
 simp only [Q82, A3]
 repeat' first
   | refine EV.seq ?_
   | refine rg ?_
   | with_reducible assumption
   | (refine Az.merge ?_ (fun hc K' hK => ?_) ?_; rotate_left)
   | refine rt Q82_ok ?_
   | ((first | with_reducible intro b | refine xiA rfl ?_ | fail); try refine nx ?_)
   | exact ⟨⟩
   | fail
 all_goals simp_all [Eg]
theorem K7 (o : OpV) : Aq Tryz.prog 93 #[vop o] M (vb (Cq o)) := by
 refine Con.enter Q90_ok (args := [vop o]) (by simp [Q90]) fun w0 => ?_
 simp only [Q90, A3]
 repeat' first
   | refine EV.seq ?_
   | refine rg ?_
   | with_reducible assumption
   | (refine Az.merge ?_ (fun hc K' hK => ?_) ?_; rotate_left)
   | refine rt Q90_ok ?_
   | ((first | with_reducible intro b | refine xiA rfl ?_ | fail); try refine nx ?_)
   | exact ⟨⟩
   | fail
 all_goals simp_all [Cq]
theorem Nr (o : OpV) : Aq Tryz.prog 94 #[vop o] M (vb (Np o)) := by
 refine Con.enter Q78_ok (args := [vop o]) (by simp [Q78]) fun w0 => ?_
 simp only [Q78, A3]
 repeat' first
   | refine EV.seq ?_
   | refine rg ?_
   | with_reducible assumption
   | (refine Az.merge ?_ (fun hc K' hK => ?_) ?_; rotate_left)
   | refine rt Q78_ok ?_
   | ((first | with_reducible intro b | refine xiA rfl ?_ | fail); try refine nx ?_)
   | exact ⟨⟩
   | fail
 all_goals simp_all [Np]
theorem thrIn_ok {p : List Ev} {a d : Nat} {r : Rel} (h : RelOk 16 r) (hd : a + 1 + d < 16) : RelOk 16 (Sc p a d r) := putIf_ok h a hd
theorem Ju (p : List Ev) (s : Value) (hs : Sl M 6 H5 s p) (hp : p.length ≤ 16) : Con Tryz.prog 49 #[s] M [] fun v _ _ => v = Fz (W3 p) := by
 obtain ⟨pa, pc, rfl, hpr⟩ := hs
 refine Con.enter Q86_ok (args := [.slice pa p.length pc]) (by simp [Q86]) fun w0 => ?_
 simp only [Q86, A3]
 repeat' first
   | refine EV.seq ?_
   | refine EV.block ?_
   | refine rg ?_
   | (with_reducible intro b; try refine nx ?_)
   | exact ⟨⟩
   | fail
 obtain ⟨b3, rfl⟩ : ∃ x, x = b := ⟨_, rfl⟩
 obtain ⟨b2, rfl⟩ : ∃ x, x = b := ⟨_, rfl⟩
 obtain ⟨zs, hzs⟩ : ∃ zs : List Value, zs = [vw 0, vw 0, vw 0, vw 0, vw 0, vw 0, vw 0, vw 0, vw 0, vw 0, vw 0, vw 0, vw 0, vw 0, vw 0, vw 0] := ⟨_, rfl⟩
 have hz0 : RelOk 16 Bp := ⟨rfl, fun a => by simp only [Bp, List.getElem?_replicate]; split <;> simp⟩
 have hout : ∀ a, a ≤ p.length → RelOk 16 (Af (Ii p) a Bp) := fun a ha => loopN_ok (n := p.length) (fun i q hi hq => loopN_ok (n := p.length - (i + 1)) (fun d q hd hq => thrIn_ok hq (by omega)) _ _ (Nat.le_refl _) hq) a _ ha hz0
 refine EV.loopTo (fun a : Nat => ([(0, .slice pa p.length pc), (2, pv b2 0), (3, pv b3 0), (4, vi a)], M, [(b3, Cl 95 ((Af (Ii p) a Bp).map vw)), (b2, Cl 95 zs)])) (fun a => a ≤ p.length) (fun a => p.length - a) 0 rfl (Nat.zero_le _) ?env1 (by subst hzs; exact List.Sublist.refl _) ?_
 case env1 =>
  exact eE
 intro a ha ih
 dsimp only at ha ih ⊢
 repeat' first
   | refine EV.seq ?_
   | refine EV.skip ?_
   | refine EV.block ?_
   | refine rg ?_
   | (refine cX (fun h => ?_) (fun h => ?_) <;> try exact Ah h)
   | (refine EV.exit rfl ?_)
   | exact ⟨⟩
   | fail
 ·have ha' : a < p.length := by omega
  have hq0 := hout a ha
  have ihk := ih (a + 1) (by omega) (by omega)
  simp only [Af] at ihk
  obtain ⟨pb, po, rfl, hat⟩ := Sl.at (sz := 6) (enc := H5) (fun _ => rfl) (by decide) hpr (by omega)
  have hpa := hat a ha'
  rw [← B5 ha'] at hpa
  have hpa0 := hpa.pt 0 1 (by omega) rfl
  generalize Af (Ii p) a Bp = q0 at *
  refine EV.loopTo (fun d : Nat => ([(0, .slice (some ⟨pb, po, none⟩) p.length pc), (2, pv b2 0), (3, pv b3 0), (4, vi a), (5, vi (a + 1 + d : Nat))], M, [(b3, Cl 95 ((Af (Sc p a) d q0).map vw)), (b2, Cl 95 zs)])) (fun d => d ≤ p.length - (a + 1)) (fun d => p.length - (a + 1) - d) 0 rfl (Nat.zero_le _) ?env2 (List.Sublist.refl _) ?_
  case env2 =>
   exact eE
  intro d hd ih2
  dsimp only at hd ih2 ⊢
  obtain ⟨x, hx⟩ : ∃ x, x = a + 1 + d := ⟨_, rfl⟩
  rw [← hx]
  repeat' first
    | refine EV.seq ?_
    | refine EV.skip ?_
    | refine EV.block ?_
    | refine EV.inBlock ?_
    | refine rg ?_
    | (refine cX (fun h => ?_) (fun h => ?_) <;> try exact Ah h)
    | (refine EV.exit rfl ?_)
    | exact ⟨⟩
    | fail
  ·have hdx : x < p.length := by omega
   have hq : RelOk 16 (Af (Sc p a) d q0) := loopN_ok (n := p.length - (a + 1)) (fun d q hd hq => thrIn_ok hq (by omega)) d _ hd hq0
   have ih3 := ih2 (d + 1) (by omega) (by omega)
   simp only [Af, Sc] at ih3
   generalize Af (Sc p a) d q0 = q at *
   rw [← hx, show a + 1 + (d + 1) = x + 1 by omega] at ih3
   have hpx := hat x hdx
   rw [← B5 hdx] at hpx
   have hpx0 := hpx.pt 0 1 (by omega) rfl
   simp only [Nat.add_zero] at hpa0 hpx0
   obtain ⟨hal, e1⟩ := hq.get (show a < 16 by omega)
   have hx1 := hq.at (show 16 ≤ 32 by omega) a
   rw [e1] at hx1
   have hy1 : q[a] < 2 ^ 64 := Nat.lt_of_lt_of_le hx1 (by decide)
   have hxw : IntKind.u64.wrap (x : Int) = (x : Int) := Bc (by omega)
   have hxn : ¬ ((x : Int) < 0) := by omega
   have hshl := Gm (show x < 64 by omega)
   have hor := Gn (b := x) hy1 (by omega)
   refine EV.any (t := Bg5) [] (List.nil_sublist _) ?_
   simp only [Am, Au, Al, As, reduceIte, Nat.reduceEqDiff]
   repeat' first
     | ((first | refine zo (fun lq hlq => ?_) | refine zl ?_ | fail); try refine nz ?_)
     | refine zf ?_
     | (refine And.intro (by omega) ?_)
     | (refine xm ?_; try refine nz ?_)
     | exact ⟨⟩
     | fail
   repeat' first
     | refine EV.skip ?_
     | refine EV.inBlock ?_
     | (refine EV.reg ?_; (conv => (arg 2; whnf)); (repeat first | refine nx ?_ | simp only [hxw, hxn, hshl, hor]))
     | (refine Exists.intro _ (And.intro (B4 (f := vw) hal) ?_); (repeat first | refine nx ?_ | simp only [hxw, hxn, hshl, hor]))
     | (refine cX (fun h => ?_) (fun h => ?_) <;> try exact Ah h)
     | (refine And.intro (by omega) ?_)
     | (refine xw ?_; (repeat first | refine nx ?_ | simp only [hxw, hxn, hshl, hor]))
     | fail
   ·refine ⟨by rw [List.length_map, hq.len]; omega, ?_⟩
    rw [Ao vw q hal]
    repeat' first
      | refine EV.inBlock ?_
      | refine rg ?_
      | exact ⟨⟩
      | fail
    rw [Fx, if_pos (decide_eq_true h), Li, orR, e1] at ih3
    refine EV.to ih3 ?_ (List.Sublist.refl _)
    exact eE
   ·rw [Fx, if_neg (by rw [decide_eq_false h]; decide)] at ih3
    refine EV.to ih3 ?_ (List.Sublist.refl _)
    exact eE
  ·have hde : d = p.length - (a + 1) := by omega
   subst hde
   refine EV.to ihk ?_ (List.Sublist.refl _)
   exact eE
 ·have hae : a = p.length := by omega
  subst hae
  have hul := (hout p.length (Nat.le_refl _)).len
  have hcl : W3 p = Af (Ii p) p.length Bp := rfl
  rw [hcl]
  refine ⟨_, E8 (f := vw) hul, _, zs, [(b3, Cl 95 ((Af (Ii p) p.length Bp).map vw))], _, rfl, by subst hzs; simp, by rw [List.length_map, hul], fun v hv => by obtain ⟨x, _, rfl⟩ := List.mem_map.1 hv; rfl, ?_⟩
  rw [List.length_map, hul, show zs.drop 16 = [] by subst hzs; rfl, List.append_nil]
  simp only [List.cons_append, List.nil_append]
  (refine rt Q86_ok ?_; try with_reducible exact ⟨⟩)
  exact ⟨_, Bz (T := 95) (cs := (Af (Ii p) p.length Bp).map vw) (by simp) (by rw [List.drop_zero, List.take_of_length_le (by rw [List.length_map, hul]; exact Nat.le_refl _)]) (by rw [List.length_map, hul]; exact Nat.le_refl _), rfl⟩
end
end Go.EV

namespace Go.EV
open Go.Proofs
theorem Uh {l m : List Int} (hl : l.Nodup) (hm : m.Nodup) (h : ∀ x, x ∈ l ↔ x ∈ m) : l.Perm m := (List.perm_ext_iff_of_nodup hl hm).2 h
structure Emb (p q : List Ev) (ι j : Nat → Nat) (σ : Int → Int) : Prop where
 lt : ∀ a, a < p.length → ι a < q.length
 inv : ∀ a, a < p.length → j (ι a) = a
 back : ∀ b, b < q.length → (evAt q b).op.kind ≠ 5 → j b < p.length ∧ ι (j b) = b
 sb : ∀ a b, a < b → b < p.length → (evAt p a).th = (evAt p b).th → ι a < ι b ∧ (evAt q (ι a)).th = (evAt q (ι b)).th
 kind : ∀ a, a < p.length → (evAt q (ι a)).op.kind = (evAt p a).op.kind
 v : ∀ a, a < p.length → (evAt q (ι a)).op.v = (evAt p a).op.v
 w : ∀ a, a < p.length → (evAt q (ι a)).op.w = (evAt p a).op.w
 loc : ∀ a, a < p.length → (evAt p a).op.kind ≠ 5 → (evAt q (ι a)).op.loc = σ (evAt p a).op.loc
 rel : ∀ a, a < p.length → (evAt p a).rel = true → (evAt q (ι a)).rel = true
 acq : ∀ a, a < p.length → (evAt p a).acq = true → (evAt q (ι a)).acq = true
 strong : ∀ a, a < p.length → (evAt p a).strong = true → (evAt q (ι a)).strong = true
 σ3 : ∀ k, 0 ≤ k → k < 3 → 0 ≤ σ k ∧ σ k < 3
 σi : ∀ k k', 0 ≤ k → k < 3 → 0 ≤ k' → k' < 3 → σ k = σ k' → k = k'
theorem Iy {p : List Ev} {x : Int} : x ∈ Bi p ↔ ∃ i : Nat, x = i ∧ i < p.length ∧ (evAt p i).strong = true := by
 rw [Bi, Dj]
 constructor
 ·rintro ⟨i, h1, h2, h3⟩; exact ⟨i, h3, h1, h2⟩
 ·rintro ⟨i, h3, h1, h2⟩; exact ⟨i, h1, h2, h3⟩
section
variable {p q : List Ev} {ι j : Nat → Nat} {σ : Int → Int} {e : Exec}
section
variable (H : Emb p q ι j σ) (hp : POk p) (hq : POk q) (hmq : Lo q) (hs : Shape q e)
include H hs
include hp in
include hp in
omit hs in
omit hs in
omit hs in
include hmq in
omit H hs in
include hp in
include hp hmq in
include hp in
include hp hq hmq in
omit H hs in
include hp in
end
end
end Go.EV

namespace Go.EV
open Go.Proofs
def LimS.wk (s : LimS) (k : Int) : Int := if k = 0 then s.w0 else if k = 1 then s.w1 else s.w2
theorem Z9.nodup {p : List Ev} {l : List (List Int)} (h : Z9 p l) : l.Nodup := by
 rw [List.nodup_iff_pairwise_ne]
 exact h.1.imp fun {a b} h e => by rw [e, Ec] at h; omega
end Go.EV

namespace Go.EV
open Go.Proofs
end Go.EV

namespace Go.EV
open Go.Proofs
theorem Sm {ts : List (List OpV)} (h : Bd ts = 0) : (A6 ts).length ≤ 14 := by
 obtain ⟨hl, hn, hall⟩ := Cu h
 have hfl : (ts.map Dp).flatten = Dp ts.flatten := by simp [Dp, List.flatMap_def, List.map_flatten, List.flatten_flatten, List.map_map]; rfl
 have h1 := (Vr ts.flatten (List.all_eq_true.1 hall)).1
 simp only [Fg, Bool.and_eq_true, decide_eq_true_eq] at hl
 have : (A6 ts).length = (Dp ts.flatten).length := by rw [A6, Hc, hfl]
 omega
end Go.EV

namespace Go.EV
open Go.Proofs
section
variable {M : Aa}
set_option maxHeartbeats 1000000 in
theorem Sn (ts : List (List OpV)) (s : Value) (hs : Gw M 5 Be s ts) (hck : Bd ts = 0) :
  Con Tryz.prog 39 #[.agg #[s]] M [] fun v M' _ => Sl M' 6 H5 v (A6 ts) := by
 have hs0 := hs
 obtain ⟨a, c, vs, rfl, hl, hrd, hk⟩ := hs
 have hsm := Gz hck
 have hl14 := Sm hck
 refine Con.enter Q71_ok (args := [.agg #[.slice a ts.length c]]) (by simp [Q71]) fun w0 => ?_
 simp only [Q71, A3]
 repeat' first
   | refine EV.seq ?_
   | refine rg ?_
   | ((first | with_reducible intro b | refine xrA rfl ?_ | fail); try refine nx ?_)
   | exact ⟨⟩
   | fail
 refine Con.callS (G1 := []) (Sb ts _ hs0 (by omega) (by omega)) ?_
 rintro v M1 G1 hM1 (⟨hne, rfl⟩ | ⟨_, s', rfl, hs1⟩)
 ·exact absurd hck hne
 have hs2 := hs1
 obtain ⟨a1, c1, vs1, rfl, hl1, hrd1, hk1⟩ := hs2
 (refine nx ?_; try with_reducible exact ⟨⟩)
 repeat' first
   | refine EV.seq ?_
   | refine EV.block ?_
   | refine rg ?_
   | (with_reducible intro b; try refine nx ?_)
   | (refine xw ?_; refine nx ?_)
   | exact ⟨⟩
   | fail
 refine EV.keepS [] ?_
 generalize hR : M1.add _ = N
 have hMN : M1.le N := hR ▸ Aa.le_add _ _
 have hlb : rd N b 0 1 [.slice a1 (ts.map Dp).length c1] := hR ▸ An 0 rfl rfl (by simp)
 clear hR
 have hqf : (ts.map Dp).flatten.length ≤ 14 := by rw [← Hc _ 0]; exact hl14
 have hevs : A6 ts = Cj 0 (ts.map Dp) := rfl
 rw [hevs]
 have hql : (ts.map Dp).length = ts.length := by simp
 have hrd2 := hrd1.mono hMN
 have hk2 : ∀ i (h : i < vs1.length) (h' : i < (ts.map Dp).length), Sl N 5 Be vs1[i] (ts.map Dp)[i] := fun i h h' => (hk1 i h h').mono hMN
 generalize ts.map Dp = q at *
 clear hs1 hrd1 hk1 hs0 hrd hk
 refine EV.loopTo (fun x : Nat × Vec => ([(3, pv b 0), (5, osv x.2 (Cj 0 (q.take x.1)).length), (6, vi x.1)], N, osg 103 x.2 ((Cj 0 (q.take x.1)).flatMap H5)))
  (fun x => x.1 ≤ q.length ∧ E7 6 x.2 (Cj 0 (q.take x.1)).length ((Cj 0 (q.take x.1)).flatMap H5)) (fun x => q.length - x.1) (0, none) rfl ⟨Nat.zero_le _, rfl, rfl⟩ ?env1 (List.nil_sublist _) ?_
 case env1 =>
  exact eE
 rintro ⟨i, ov⟩ ⟨hi, hov⟩ ih
 dsimp only at hi hov ih ⊢
 refine EV.seq ?_
 refine EV.seq ?_
 repeat' first
   | refine EV.skip ?_
   | refine rg ?_
   | (refine cX (fun h => ?_) (fun h => ?_) <;> try exact Ah h)
   | (refine EV.exit rfl ?_)
   | (refine xn ?_; try refine nx ?_)
   | exact ⟨⟩
   | fail
 ·have hi' : i < q.length := by omega
  obtain ⟨pb, po, rfl, hat⟩ := Gw.at hrd2 hl1 hk2 (by omega)
  obtain ⟨a', c', hr1, hr2⟩ := hat i hi'
  simp only [Nat.mul_one] at hr1
  have hlen : ∀ j, (C1 q i j).length ≤ q.flatten.length := fun j => J2 hi' j
  have hlen0 : q[i].length ≤ q.flatten.length := L5 hi'
  repeat' first
    | refine EV.seq ?_
    | refine EV.block ?_
    | refine rg ?_
    | exact ⟨⟩
    | fail
  refine EV.loopTo (fun x : Nat × Vec => ([(3, pv b 0), (5, osv x.2 (C1 q i x.1).length), (6, vi i), (7, vi x.1)], N,
    osg 103 x.2 ((C1 q i x.1).flatMap H5)))
   (fun x => x.1 ≤ q[i].length ∧ E7 6 x.2 (C1 q i x.1).length ((C1 q i x.1).flatMap H5))
   (fun x => q[i].length - x.1) (0, ov) rfl ⟨Nat.zero_le _, by rw [Dy]; exact hov⟩ ?env2 (by rw [Dy]; exact List.Sublist.refl _) ?_
  case env2 =>
   repeat' first
    | (refine List.forall_mem_cons.2 (And.intro ?_ ?_))
    | (intro _ hnil; cases hnil; done)
    | rfl
    | (simp (disch := omega) only [Al, As, reduceIte, Nat.reduceEqDiff, Option.some.injEq, Value.int.injEq, w64, Int.natCast_add, Int.natCast_one, Int.cast_ofNat_Int, Int.natCast_zero, Dy]; done)
    | fail
  rintro ⟨j, o1⟩ ⟨hj, ho1⟩ ih2
  dsimp only at hj ho1 ih2 ⊢
  refine EV.seq ?_
  refine EV.seq ?_
  repeat' first
    | refine EV.skip ?_
    | refine EV.inBlock ?_
    | refine rg ?_
    | (refine cX (fun h => ?_) (fun h => ?_) <;> try exact Ah h)
    | (refine EV.exit rfl ?_)
    | (refine And.intro (by omega) ?_)
    | (refine xn ?_; try refine nx ?_)
    | exact ⟨⟩
    | fail
  ·have hj' : j < q[i].length := by omega
   have hlj := hlen j
   obtain ⟨qb, qo, rfl, hat2⟩ := Sl.at (enc := Be) (fun _ => rfl) (by omega) hr2 (by omega)
   have hr3 := hat2 j hj'
   repeat' first
     | refine EV.seq ?_
     | refine EV.block ?_
     | refine rg ?_
     | (with_reducible intro b; try refine nx ?_)
     | (refine And.intro (by omega) ?_)
     | ((first | refine xm ?_ | refine xn ?_ | fail); try refine nx ?_)
     | exact ⟨⟩
     | fail
   refine ⟨H5 ⟨q[i][j], i⟩, Or.inr ⟨_, 0, rfl, An 0 rfl rfl (by simp)⟩, by simp [B6, C7, Value.oneCell'], Or.inl ⟨o1, _, rfl, _, ho1, _, B7 [[_], osg 103 o1 _] 1 (by simp), ?_, ?_, ?_⟩⟩
   ·simp only [maxLen]; omega
   ·omega
   intro o2 ho2 _
   simp only [List.eraseIdx_cons_succ, List.eraseIdx_cons_zero, List.getElem_cons_succ, List.getElem_cons_zero, List.insertIdx_zero, List.insertIdx_succ_cons, Dw, Dv, Dt, List.nil_append, List.cons_append, List.append_assoc, List.append_nil]
   repeat' first
     | refine EV.inBlock ?_
     | refine rg ?_
     | exact ⟨⟩
     | fail
   have e := L4 hi' hj'
   have ih3 := ih2 (j + 1, o2) ⟨by dsimp only; omega, by rw [e, List.length_append, List.flatMap_append]; exact ho2⟩ (by dsimp only; omega)
   dsimp only at ih3
   rw [e, List.length_append, List.flatMap_append] at ih3
   refine EV.to ih3 ?_ eS
   exact eE
  ·have hj' : j = q[i].length := by omega
   subst hj'
   rw [J1 hi'] at ho1 ⊢
   repeat' first
     | fail
   refine EV.to (ih (i + 1, o1) ⟨by dsimp only; omega, ho1⟩ (by dsimp only; omega)) ?_ eS
   exact eE
 ·have hi2 : i = q.length := by omega
  subst hi2
  rw [List.take_length] at hov ⊢
  repeat' first
    | refine EV.seq ?_
    | refine rg ?_
    | exact ⟨⟩
    | fail
  rw [← List.append_nil (osg _ _ _)]
  refine EV.freeze ?_
  (refine rt Q71_ok ?_; try with_reducible exact ⟨⟩)
  exact ⟨_, _, rfl, D7 hov (fun p hp => hp)⟩
end
end Go.EV

namespace Go.EV
open Go.Proofs
section
variable {M : Aa}
theorem Pq (p : List Ev) (s : Value) (hs : Sl M 6 H5 s p) (hp : p.length ≤ 16) (e : Exec) (v : Value) (hv : IsX M v e) (hfl : e.frm.length = p.length) (hfx : ∀ i, i < p.length → Ae e i < p.length) : Con Tryz.prog 50 #[s, v] M [] fun u _ _ => u = Fz (Iw p e) := by
 obtain ⟨pa, pc, rfl, hpr⟩ := hs
 obtain ⟨f, d, o, n, rfl, ⟨fa, fc, rfl, hrf⟩, ⟨da, dc, rfl, _⟩, ⟨oa, oc, ovs, rfl, _, _, _⟩, ⟨na, nc, rfl, _⟩⟩ := hv
 refine Con.enter Q79_ok (args := [.slice pa p.length pc, .agg #[.slice fa e.frm.length fc, .slice da e.dn.length dc, .slice oa e.ord.length oc, .slice na e.fen.length nc]]) (by simp [Q79]) fun w0 => ?_
 simp only [Q79, A3]
 repeat' first
   | refine EV.seq ?_
   | refine EV.block ?_
   | refine rg ?_
   | (with_reducible intro b; try refine nx ?_)
   | exact ⟨⟩
   | fail
 obtain ⟨b3, rfl⟩ : ∃ x, x = b := ⟨_, rfl⟩
 obtain ⟨b2, rfl⟩ : ∃ x, x = b := ⟨_, rfl⟩
 obtain ⟨xb, rfl⟩ : ∃ x, x = b := ⟨_, rfl⟩
 obtain ⟨zs, hzs⟩ : ∃ zs : List Value, zs = [vw 0, vw 0, vw 0, vw 0, vw 0, vw 0, vw 0, vw 0, vw 0, vw 0, vw 0, vw 0, vw 0, vw 0, vw 0, vw 0] := ⟨_, rfl⟩
 have hout : ∀ a, a ≤ p.length → RelOk 16 (Af (Ij e) a Bp) := fun a ha => loopN_ok (n := p.length) (fun i q hi hq => putIf_ok hq _ (by omega)) a _ ha zero16_ok
 refine EV.frz [(xb, Cl 37 [.slice fa e.frm.length fc, .slice da e.dn.length dc, .slice oa e.ord.length oc, .slice na e.fen.length nc])] ?_
 generalize hR : M.add _ = N
 have hMN : M.le N := hR ▸ Aa.le_add _ _
 have hxb : rd N xb 0 4 [.slice fa e.frm.length fc, .slice da e.dn.length dc, .slice oa e.ord.length oc, .slice na e.fen.length nc] := hR ▸ An 0 rfl rfl (by simp)
 clear hR
 have hxf := hxb.pt 0 1 (by omega) rfl
 simp only [Nat.zero_add] at hxf
 refine EV.loopTo (fun a : Nat => ([(0, .slice pa p.length pc), (3, pv xb 0), (4, pv b2 0), (5, pv b3 0), (6, vi a)], N, [(b3, Cl 95 ((Af (Ij e) a Bp).map vw)), (b2, Cl 95 zs)])) (fun a => a ≤ p.length) (fun a => p.length - a) 0 rfl (Nat.zero_le _) ?env1 (by subst hzs; exact List.Sublist.refl _) ?_
 case env1 =>
  exact eE
 intro a ha ih
 dsimp only at ha ih ⊢
 repeat' first
   | refine EV.seq ?_
   | refine EV.skip ?_
   | refine EV.block ?_
   | refine rg ?_
   | (refine cX (fun h => ?_) (fun h => ?_) <;> try exact Ah h)
   | (refine EV.exit rfl ?_)
   | (refine xn ?_; try refine nx ?_)
   | exact ⟨⟩
   | fail
 ·have ha' : a < p.length := by omega
  have hq := hout a ha
  have ih3 := ih (a + 1) (by omega) (by omega)
  simp only [Af, Ij] at ih3
  obtain ⟨fb, fo, rfl, hat⟩ := Sl.at (sz := 1) (enc := ei) (fun _ => rfl) (by decide) hrf (by omega)
  have hfr : rd N fb (fo + a) 1 [vi (Ae e a)] := (Cd hat a (by omega)).mono hMN
  have hlt := hfx a ha'
  generalize Ae e a = w at hfr hlt ih3
  generalize Af (Ij e) a Bp = q at *
  repeat' first
    | refine EV.skip ?_
    | refine EV.inBlock ?_
    | refine rg ?_
    | (refine cX (fun h => ?_) (fun h => ?_) <;> try exact Ah h)
    | (refine And.intro (by omega) ?_)
    | (refine xm ?_; try refine nx ?_)
    | exact ⟨⟩
    | fail
  ·obtain ⟨u, rfl⟩ : ∃ u : Nat, w = u := ⟨w.toNat, by omega⟩
   obtain ⟨hul, e1⟩ := hq.get (show u < 16 by omega)
   have hx1 := hq.at (show 16 ≤ 32 by omega) u
   rw [e1] at hx1
   have hy1 : q[u] < 2 ^ 64 := Nat.lt_of_lt_of_le hx1 (by decide)
   have hxw : IntKind.u64.wrap (a : Int) = (a : Int) := Bc (by omega)
   have hxn : ¬ ((a : Int) < 0) := by omega
   have hshl := Gm (show a < 64 by omega)
   have hor := Gn (b := a) hy1 (by omega)
   refine EV.any (t := Bg8) [(b3, Cl 95 (q.map vw))] (List.Sublist.cons_cons _ (List.nil_sublist _)) ?_
   simp only [Am, Au, Al, As, reduceIte, Nat.reduceEqDiff]
   repeat' first
     | ((first | refine zo (fun lq hlq => ?_) | refine zl ?_ | refine Exists.intro _ (And.intro (B4 (f := vw) hul) ?_) | fail); (repeat first | refine nz ?_ | simp only [hxw, hxn, hshl, hor]))
     | (refine Ea (by first | with_reducible assumption | rfl) (fun tq htq => ?_) (fun tq htq => ?_) <;> (repeat first | refine nz ?_ | simp only [hxw, hxn, hshl, hor]))
     | exact zn
     | (refine And.intro (by omega) ?_)
     | ((first | refine xm ?_ | refine xn ?_ | refine xw ?_ | fail); (repeat first | refine nz ?_ | simp only [hxw, hxn, hshl, hor]))
     | fail
   refine ⟨by rw [List.length_map, hq.len]; omega, ?_⟩
   rw [Ao vw q hul]
   repeat' first
     | (refine zl ?_; try refine nz ?_)
     | refine zq (fun lq tq hlq htq => ?_)
     | refine zf ?_
     | exact ⟨⟩
     | fail
   repeat' first
     | refine EV.inBlock ?_
     | refine rg ?_
     | exact ⟨⟩
     | fail
   rw [Fx, if_pos (decide_eq_true (by omega)), Int.toNat_natCast, Li, orR, e1] at ih3
   refine EV.to ih3 ?_ (List.Sublist.refl _)
   exact eE
  ·rw [Fx, if_neg (by rw [decide_eq_false (by omega)]; decide)] at ih3
   refine EV.to ih3 ?_ (List.Sublist.refl _)
   exact eE
 ·have hae : a = p.length := by omega
  subst hae
  have hul := (hout p.length (Nat.le_refl _)).len
  have hcl : Iw p e = Af (Ij e) p.length Bp := rfl
  rw [hcl]
  refine ⟨_, E8 (f := vw) hul, _, zs, [(b3, Cl 95 ((Af (Ij e) p.length Bp).map vw))], _, rfl, by subst hzs; simp, by rw [List.length_map, hul], fun v hv => by obtain ⟨x, _, rfl⟩ := List.mem_map.1 hv; rfl, ?_⟩
  rw [List.length_map, hul, show zs.drop 16 = [] by subst hzs; rfl, List.append_nil]
  simp only [List.cons_append, List.nil_append]
  (refine rt Q79_ok ?_; try with_reducible exact ⟨⟩)
  exact ⟨_, Bz (T := 95) (cs := (Af (Ij e) p.length Bp).map vw) (by simp) (by rw [List.drop_zero, List.take_of_length_le (by rw [List.length_map, hul]; exact Nat.le_refl _)]) (by rw [List.length_map, hul]; exact Nat.le_refl _), rfl⟩
end
end Go.EV

namespace Go.EV
open Go.Proofs
section
variable {M : Aa}
theorem Ns (e : Exec) (v : Value) (hv : IsX M v e) (hl : e.fen.length ≤ 16) (hin : ∀ k, k < e.fen.length → 0 ≤ Ad e.fen k ∧ Ad e.fen k < 16) : Con Tryz.prog 51 #[v] M [] fun u _ _ => u = Fz (Fy e.fen) := by
 obtain ⟨f, d, o, n, rfl, ⟨fa, fc, rfl, _⟩, ⟨da, dc, rfl, _⟩, ⟨oa, oc, ovs, rfl, _, _, _⟩, ⟨na, nc, rfl, hrn⟩⟩ := hv
 refine Con.enter Q87_ok (args := [.agg #[.slice fa e.frm.length fc, .slice da e.dn.length dc, .slice oa e.ord.length oc, .slice na e.fen.length nc]]) (by simp [Q87]) fun w0 => ?_
 simp only [Q87, A3]
 repeat' first
   | refine EV.seq ?_
   | refine EV.block ?_
   | refine rg ?_
   | (with_reducible intro b; try refine nx ?_)
   | exact ⟨⟩
   | fail
 obtain ⟨b3, rfl⟩ : ∃ x, x = b := ⟨_, rfl⟩
 obtain ⟨b2, rfl⟩ : ∃ x, x = b := ⟨_, rfl⟩
 obtain ⟨xb, rfl⟩ : ∃ x, x = b := ⟨_, rfl⟩
 obtain ⟨zs, hzs⟩ : ∃ zs : List Value, zs = [vw 0, vw 0, vw 0, vw 0, vw 0, vw 0, vw 0, vw 0, vw 0, vw 0, vw 0, vw 0, vw 0, vw 0, vw 0, vw 0] := ⟨_, rfl⟩
 have hout : ∀ a, a ≤ e.fen.length → RelOk 16 (Af (Fl e.fen) a Bp) := fun a ha => loopN_ok (n := e.fen.length) (fun i q hi hq => loopN_ok (n := e.fen.length - (i + 1)) (fun d q hd hq => hq.put _ (by have := hin (i + 1 + d) (by omega); omega)) _ _ (Nat.le_refl _) hq) a _ ha zero16_ok
 refine EV.frz [(xb, Cl 37 [.slice fa e.frm.length fc, .slice da e.dn.length dc, .slice oa e.ord.length oc, .slice na e.fen.length nc])] ?_
 generalize hR : M.add _ = N
 have hMN : M.le N := hR ▸ Aa.le_add _ _
 have hxb : rd N xb 0 4 [.slice fa e.frm.length fc, .slice da e.dn.length dc, .slice oa e.ord.length oc, .slice na e.fen.length nc] := hR ▸ An 0 rfl rfl (by simp)
 clear hR
 have hxn := hxb.pt 3 1 (by omega) rfl
 simp only [Nat.zero_add] at hxn
 refine EV.loopTo (fun a : Nat => ([(1, pv xb 0), (2, pv b2 0), (3, pv b3 0), (4, vi a)], N, [(b3, Cl 95 ((Af (Fl e.fen) a Bp).map vw)), (b2, Cl 95 zs)])) (fun a => a ≤ e.fen.length) (fun a => e.fen.length - a) 0 rfl (Nat.zero_le _) ?env1 (by subst hzs; exact List.Sublist.refl _) ?_
 case env1 =>
  exact eE
 intro a ha ih
 dsimp only at ha ih ⊢
 repeat' first
   | refine EV.seq ?_
   | refine EV.skip ?_
   | refine EV.block ?_
   | refine rg ?_
   | (refine cX (fun h => ?_) (fun h => ?_) <;> try exact Ah h)
   | (refine EV.exit rfl ?_)
   | (refine xn ?_; try refine nx ?_)
   | exact ⟨⟩
   | fail
 ·have ha' : a < e.fen.length := by omega
  have hq0 := hout a ha
  have ihk := ih (a + 1) (by omega) (by omega)
  simp only [Af] at ihk
  obtain ⟨fb, fo, rfl, hat⟩ := Sl.at (sz := 1) (enc := ei) (fun _ => rfl) (by decide) hrn (by omega)
  have hnum : ∀ k, k < e.fen.length → rd N fb (fo + k) 1 [vi (Ad e.fen k)] := fun k hk => by
   have := (hat k hk).mono hMN
   rw [Nat.mul_one] at this
   rw [Ad, List.getElem?_eq_getElem hk]
   exact this
  have hfr := hnum a ha'
  obtain ⟨g0, g1⟩ := hin a ha'
  obtain ⟨u, hu⟩ : ∃ u : Nat, Ad e.fen a = u := ⟨(Ad e.fen a).toNat, by omega⟩
  rw [hu] at hfr
  generalize Af (Fl e.fen) a Bp = q0 at *
  refine EV.loopTo (fun d : Nat => ([(1, pv xb 0), (2, pv b2 0), (3, pv b3 0), (4, vi a), (5, vi (a + 1 + d : Nat))], N, [(b3, Cl 95 ((Af (Ni e.fen a) d q0).map vw)), (b2, Cl 95 zs)])) (fun d => d ≤ e.fen.length - (a + 1)) (fun d => e.fen.length - (a + 1) - d) 0 rfl (Nat.zero_le _) ?env2 (List.Sublist.refl _) ?_
  case env2 =>
   exact eE
  intro d hd ih2
  dsimp only at hd ih2 ⊢
  obtain ⟨x, hx⟩ : ∃ x, x = a + 1 + d := ⟨_, rfl⟩
  rw [← hx]
  repeat' first
    | refine EV.seq ?_
    | refine EV.skip ?_
    | refine EV.block ?_
    | refine EV.inBlock ?_
    | refine rg ?_
    | (refine cX (fun h => ?_) (fun h => ?_) <;> try exact Ah h)
    | (refine EV.exit rfl ?_)
    | (refine xn ?_; try refine nx ?_)
    | exact ⟨⟩
    | fail
  ·have hdx : x < e.fen.length := by omega
   have hq : RelOk 16 (Af (Ni e.fen a) d q0) := loopN_ok (n := e.fen.length - (a + 1)) (fun d q hd hq => hq.put _ (by have := hin (a + 1 + d) (by omega); omega)) d _ hd hq0
   have ih3 := ih2 (d + 1) (by omega) (by omega)
   simp only [Af, Ni] at ih3
   generalize Af (Ni e.fen a) d q0 = q at *
   rw [← hx, show a + 1 + (d + 1) = x + 1 by omega] at ih3
   have hfx := hnum x hdx
   obtain ⟨g2, g3⟩ := hin x hdx
   obtain ⟨w, hw⟩ : ∃ w : Nat, Ad e.fen x = w := ⟨(Ad e.fen x).toNat, by omega⟩
   rw [hw] at hfx ih3
   rw [hu] at ih3
   obtain ⟨hul, e1⟩ := hq.get (show u < 16 by omega)
   have hx1 := hq.at (show 16 ≤ 32 by omega) u
   rw [e1] at hx1
   have hy1 : q[u] < 2 ^ 64 := Nat.lt_of_lt_of_le hx1 (by decide)
   have hxw : IntKind.u64.wrap (w : Int) = (w : Int) := Bc (by omega)
   have hxn2 : ¬ ((w : Int) < 0) := by omega
   have hshl := Gm (show w < 64 by omega)
   have hor := Gn (b := w) hy1 (by omega)
   refine EV.any (t := Bh0) [(b3, Cl 95 (q.map vw))] (List.Sublist.cons_cons _ (List.nil_sublist _)) ?_
   simp only [Am, Au, Al, As, reduceIte, Nat.reduceEqDiff]
   repeat' first
     | ((first | refine zo (fun lq hlq => ?_) | refine zl ?_ | refine Exists.intro _ (And.intro (B4 (f := vw) hul) ?_) | fail); (repeat first | refine nz ?_ | simp only [hxw, hxn2, hshl, hor]))
     | (refine Ea (by first | with_reducible assumption | rfl) (fun tq htq => ?_) (fun tq htq => ?_) <;> (repeat first | refine nz ?_ | simp only [hxw, hxn2, hshl, hor]))
     | exact zn
     | (refine And.intro (by omega) ?_)
     | ((first | refine xm ?_ | refine xn ?_ | refine xw ?_ | fail); (repeat first | refine nz ?_ | simp only [hxw, hxn2, hshl, hor]))
     | fail
   refine ⟨by rw [List.length_map, hq.len]; omega, ?_⟩
   rw [Ao vw q hul]
   repeat' first
     | (refine zl ?_; try refine nz ?_)
     | refine zq (fun lq tq hlq htq => ?_)
     | refine zf ?_
     | exact ⟨⟩
     | fail
   repeat' first
     | refine EV.inBlock ?_
     | refine rg ?_
     | exact ⟨⟩
     | fail
   rw [Int.toNat_natCast, Int.toNat_natCast, Li, orR, e1] at ih3
   refine EV.to ih3 ?_ (List.Sublist.refl _)
   exact eE
  ·have hde : d = e.fen.length - (a + 1) := by omega
   subst hde
   refine EV.to ihk ?_ (List.Sublist.refl _)
   exact eE
 ·have hae : a = e.fen.length := by omega
  subst hae
  have hul := (hout e.fen.length (Nat.le_refl _)).len
  have hcl : Fy e.fen = Af (Fl e.fen) e.fen.length Bp := rfl
  rw [hcl]
  refine ⟨_, E8 (f := vw) hul, _, zs, [(b3, Cl 95 ((Af (Fl e.fen) e.fen.length Bp).map vw))], _, rfl, by subst hzs; simp, by rw [List.length_map, hul], fun v hv => by obtain ⟨x, _, rfl⟩ := List.mem_map.1 hv; rfl, ?_⟩
  rw [List.length_map, hul, show zs.drop 16 = [] by subst hzs; rfl, List.append_nil]
  simp only [List.cons_append, List.nil_append]
  (refine rt Q87_ok ?_; try with_reducible exact ⟨⟩)
  exact ⟨_, Bz (T := 95) (cs := (Af (Fl e.fen) e.fen.length Bp).map vw) (by simp) (by rw [List.drop_zero, List.take_of_length_le (by rw [List.length_map, hul]; exact Nat.le_refl _)]) (by rw [List.length_map, hul]; exact Nat.le_refl _), rfl⟩
end
end Go.EV

namespace Go.EV
open Go.Proofs
section
variable {M : Aa}
theorem Pr (o : Int) (h : Bq o = true) : Aq Tryz.prog 155 #[vi o] M (vi (Ar3 o)) := by
 rcases Dg h with rfl | rfl | rfl | rfl | rfl
 all_goals
  refine Con.enter Q63_ok (by simp [Q63]) fun w0 => ?_
  simp only [Q63, A3]
  repeat' first
    | refine EV.seq ?_
    | refine rg ?_
    | refine rt Q63_ok ?_
    | (with_reducible intro b; try refine nx ?_)
    | (refine And.intro (by omega) ?_)
    | (refine xiA rfl ?_; try refine nx ?_)
    | exact ⟨⟩
    | fail
 all_goals rfl
theorem Oh (o : Int) (h : Bq o = true) : Aq Tryz.prog 130 #[vi o] M (vb (Cm9 o)) := by
 refine Con.enter Q64_ok (args := [vi o]) (by simp [Q64]) fun w0 => ?_
 simp only [Q64, A3]
 repeat' first
   | refine EV.seq ?_
   | refine rg ?_
   | (refine Aq.call (Pr _ h) ?_; try refine nx ?_)
   | refine rt Q64_ok ?_
   | exact ⟨⟩
   | fail
 all_goals (rcases Dg h with rfl | rfl | rfl | rfl | rfl <;> (congr 1 <;> decide))
theorem Oi (o : Int) (h : Bq o = true) : Aq Tryz.prog 131 #[vi o] M (vb (Cm8 o)) := by
 refine Con.enter Q62_ok (args := [vi o]) (by simp [Q62]) fun w0 => ?_
 simp only [Q62, A3]
 repeat' first
   | refine EV.seq ?_
   | refine rg ?_
   | (refine Aq.call (Pr _ h) ?_; try refine nx ?_)
   | refine rt Q62_ok ?_
   | exact ⟨⟩
   | fail
 all_goals (rcases Dg h with rfl | rfl | rfl | rfl | rfl <;> (congr 1 <;> decide))
theorem So (r o : Rel) (hh : RelOk 16 r) (ho : RelOk 16 o) : Aq Tryz.prog 52 #[Fz r, Fz o] M (vb (No r o)) := by
 refine Con.enter Q75_ok (args := [Fz r, Fz o]) (by simp [Q75]) fun w0 => ?_
 simp only [Q75, A3]
 have hlh := hh.len
 have hlo := ho.len
 have hci := fun G => K6 (M := M.add G) r hh
 repeat' first
   | refine EV.seq ?_
   | refine EV.skip ?_
   | refine EV.block ?_
   | refine rg ?_
   | ((first | refine Aq.call (hci _) ?_ | refine Exists.intro _ (And.intro (E8 (f := vw) hlh) ?_) | fail); try refine nx ?_)
   | (refine cX (fun h => ?_) (fun h => ?_) <;> try exact Ah h)
   | (with_reducible intro b; try refine nx ?_)
   | exact ⟨⟩
   | fail
 ·(refine rt Q75_ok ?_; try with_reducible exact ⟨⟩)
  simp only [No, h, Bool.true_or]
 obtain ⟨b3, rfl⟩ : ∃ x, x = b := ⟨_, rfl⟩
 obtain ⟨b2, rfl⟩ : ∃ x, x = b := ⟨_, rfl⟩
 refine EV.loopTo (fun a : Nat => ([(2, pv b2 0), (3, pv b3 0), (4, vb false), (5, vi a)], M, [(b3, Cl 95 (o.map vw)), (b2, Cl 95 (r.map vw))])) (fun a => a ≤ 16 ∧ ∀ x, x < a → ∀ y, y < 16 → (A0 r x y && A0 o y x) = false) (fun a => 16 - a) 0 rfl ⟨Nat.zero_le _, fun x hx => absurd hx (Nat.not_lt_zero _)⟩ ?env1 (List.Sublist.refl _) ?_
 case env1 =>
  exact eE
 rintro a ⟨ha, hno⟩ ih
 dsimp only at ha hno ih ⊢
 repeat' first
   | refine EV.seq ?_
   | refine EV.skip ?_
   | refine EV.block ?_
   | refine rg ?_
   | (refine cX (fun h => ?_) (fun h => ?_) <;> try exact Ah h)
   | (refine EV.exit rfl ?_)
   | exact ⟨⟩
   | fail
 ·have ha' : a < 16 := by omega
  refine EV.loopTo (fun c : Nat => ([(2, pv b2 0), (3, pv b3 0), (4, vb false), (5, vi a), (6, vi c)], M, [(b3, Cl 95 (o.map vw)), (b2, Cl 95 (r.map vw))])) (fun c => c ≤ 16 ∧ ∀ y, y < c → (A0 r a y && A0 o y a) = false) (fun c => 16 - c) 0 rfl ⟨Nat.zero_le _, fun x hx => absurd hx (Nat.not_lt_zero _)⟩ ?env2 (List.Sublist.refl _) ?_
  case env2 =>
   exact eE
  rintro c ⟨hc, hno2⟩ ih2
  dsimp only at hc hno2 ih2 ⊢
  repeat' first
    | refine EV.seq ?_
    | refine EV.skip ?_
    | refine EV.block ?_
    | refine EV.inBlock ?_
    | refine rg ?_
    | (refine cX (fun h => ?_) (fun h => ?_) <;> try exact Ah h)
    | (refine EV.exit rfl ?_)
    | (refine And.intro (by omega) ?_)
    | exact ⟨⟩
    | fail
  ·have hc' : c < 16 := by omega
   obtain ⟨hal, e1⟩ := hh.get ha'
   obtain ⟨hcl, e2⟩ := ho.get hc'
   have hx1 := hh.at (show 16 ≤ 32 by omega) a
   have hx2 := ho.at (show 16 ≤ 32 by omega) c
   rw [e1] at hx1
   rw [e2] at hx2
   have hy1 : r[a] < 2 ^ 64 := Nat.lt_of_lt_of_le hx1 (by decide)
   have hy2 : o[c] < 2 ^ 64 := Nat.lt_of_lt_of_le hx2 (by decide)
   have hb1 := Ix (b := c) hy1 (by omega)
   have hb2 := Ix (b := a) hy2 (by omega)
   have haw : IntKind.u64.wrap (a : Int) = (a : Int) := Bc (by omega)
   have han : ¬ ((a : Int) < 0) := by omega
   have hcw : IntKind.u64.wrap (c : Int) = (c : Int) := Bc (by omega)
   have hcn : ¬ ((c : Int) < 0) := by omega
   have g1 : A0 r a c = r[a].testBit c := by simp only [A0, e1]
   have g2 : A0 o c a = o[c].testBit a := by simp only [A0, e2]
   repeat' first
     | refine EV.seq ?_
     | refine EV.skip ?_
     | refine EV.inBlock ?_
     | (refine EV.reg ?_; (conv => (arg 2; whnf)); (repeat first | refine nx ?_ | simp only [haw, han, hcw, hcn, hb1, hb2]))
     | with_reducible assumption
     | ((first | refine Exists.intro _ (And.intro (B4 (f := vw) hcl) ?_) | refine Exists.intro _ (And.intro (B4 (f := vw) hal) ?_) | fail); (repeat first | refine nx ?_ | simp only [haw, han, hcw, hcn, hb1, hb2]))
     | (refine Az.merge ?_ (fun hc K' hK => ?_) ?_; rotate_left)
     | (refine cX (fun h => ?_) (fun h => ?_) <;> try exact Ah h)
     | (refine And.intro (by omega) ?_)
     | fail
   ·have : No r o = true := by
     simp only [No, Bool.or_eq_true, List.any_eq_true, List.mem_range]
     exact .inr ⟨a, ha', c, hc', by rw [g1, g2]; simpa using h⟩
    (refine rt Q75_ok ?_; try with_reducible exact ⟨⟩)
    rw [this]
   ·refine EV.to (ih2 (c + 1) ⟨by omega, fun y hy => ?_⟩ (by omega)) ?_ (List.Sublist.refl _)
    ·by_cases e : y = c
     ·subst e; rw [g1, g2, Bool.and_eq_false_iff]; simpa using h
     ·exact hno2 y (by omega)
    ·exact eE
  ·refine EV.to (ih (a + 1) ⟨by omega, fun x hx => ?_⟩ (by omega)) ?_ (List.Sublist.refl _)
   ·by_cases e : x = a
    ·subst e; intro y hy; exact hno2 y (by omega)
    ·exact hno x (by omega)
   ·exact eE
 ·have hc0 : Bn r = false := by assumption
  have : No r o = false := by
   cases hb : No r o with
   | false => rfl
   | true =>
    simp only [No, hc0, Bool.false_or, List.any_eq_true, List.mem_range] at hb
    obtain ⟨x, hx, y, hy, hxy⟩ := hb
    rw [hno x (by omega) y hy] at hxy; cases hxy
  (refine rt Q75_ok ?_; try with_reducible exact ⟨⟩)
  rw [this]
end
end Go.EV

namespace Go.EV
open Go.Proofs
theorem seenJ_ok {e : Exec} {k i a d : Nat} {r : Rel} (h : RelOk 16 r) (hx : 0 ≤ Ad (e.ord[k]?.getD []) (i + 1 + d) ∧ Ad (e.ord[k]?.getD []) (i + 1 + d) < 16) : RelOk 16 (Of e k i a d r) := h.put _ (by omega)
theorem seenJ2_ok {e : Exec} {k i a b d : Nat} {r : Rel} (h : RelOk 16 r) (hx : 0 ≤ Ad (e.ord[k]?.getD []) (i + 1 + d) ∧ Ad (e.ord[k]?.getD []) (i + 1 + d) < 16) : RelOk 16 (K5 e k i a b d r) := putIf_ok h _ (by omega)
theorem Ad0 {l z : List Value} (h : l.length = 16) (hz : z.length = 16) : l ++ z.drop l.length = l := by
 rw [h, List.drop_of_length_le (by omega), List.append_nil]
section
variable {p : List Ev} {e : Exec} (hp : p.length ≤ 16) (hin : ∀ k, k < 3 → ∀ i, i < (e.ord[k]?.getD []).length → 0 ≤ Ad (e.ord[k]?.getD []) i ∧ Ad (e.ord[k]?.getD []) i < p.length)
include hp hin
theorem loopJ_ok {k : Nat} (hk : k < 3) {i a : Nat} : ∀ d, d ≤ (e.ord[k]?.getD []).length - (i + 1) → ∀ {r : Rel}, RelOk 16 r → RelOk 16 (Af (Of e k i a) d r) :=
 fun d hd r h => loopN_ok (n := (e.ord[k]?.getD []).length - (i + 1)) (fun d q hd hq => seenJ_ok hq (by have := hin k hk (i + 1 + d) (by omega); omega)) d r hd h
theorem loopJ2_ok {k : Nat} (hk : k < 3) {i a b : Nat} : ∀ d, d ≤ (e.ord[k]?.getD []).length - (i + 1) → ∀ {r : Rel}, RelOk 16 r → RelOk 16 (Af (K5 e k i a b) d r) :=
 fun d hd r h => loopN_ok (n := (e.ord[k]?.getD []).length - (i + 1)) (fun d q hd hq => seenJ2_ok hq (by have := hin k hk (i + 1 + d) (by omega); omega)) d r hd h
theorem loopB_ok {k : Nat} (hk : k < 3) {i a : Nat} (ha : a < 16) : ∀ b, b ≤ p.length → ∀ {r : Rel}, RelOk 16 r → RelOk 16 (Af (Qr p e k i a) b r) :=
 fun b hb r h => loopN_ok (n := p.length) (fun b q hb hq => loopJ2_ok hp hin hk _ (Nat.le_refl _) (putIf_ok hq _ ha)) b r hb h
theorem loopI_ok {k : Nat} (hk : k < 3) : ∀ i, i ≤ (e.ord[k]?.getD []).length → ∀ {r : Rel}, RelOk 16 r → RelOk 16 (Af (Qs p e k) i r) :=
 fun i hi r h => loopN_ok (n := (e.ord[k]?.getD []).length) (fun i q hi hq => loopB_ok hp hin hk (by have := hin k hk i hi; omega) _ (Nat.le_refl _) (loopJ_ok hp hin hk _ (Nat.le_refl _) hq)) i r hi h
theorem loopK_ok : ∀ k, k ≤ 3 → ∀ {r : Rel}, RelOk 16 r → RelOk 16 (Af (Og p e) k r) :=
 fun k hk r h => loopN_ok (n := 3) (fun k q hk hq => loopI_ok hp hin hk _ (Nat.le_refl _) hq) k r hk h
end
section
variable {M : Aa}
set_option maxHeartbeats 4000000 in
theorem W6 (p : List Ev) (s : Value) (hs : Sl M 6 H5 s p) (hp : p.length ≤ 16) (e : Exec) (v : Value) (hv : IsX M v e) (hfl : e.frm.length = p.length) (hfx : ∀ i, i < p.length → Ae e i < p.length)
  (hol3 : e.ord.length = 3) (hin : ∀ k, k < 3 → ∀ i, i < (e.ord[k]?.getD []).length → 0 ≤ Ad (e.ord[k]?.getD []) i ∧ Ad (e.ord[k]?.getD []) i < p.length) (hsz : ∀ k, k < 3 → (e.ord[k]?.getD []).length ≤ 16) :
  Con Tryz.prog 54 #[s, v] M [] fun u _ _ => u = Fz (Si p e) := by
 have hs0 := hs
 have hv0 := hv
 obtain ⟨pa, pc, rfl, hpr⟩ := hs
 obtain ⟨f, d, o, n, rfl, ⟨fa, fc, rfl, hrf⟩, ⟨da, dc, rfl, _⟩, ⟨oa, oc, ovs, rfl, hol, hro, hko⟩, ⟨na, nc, rfl, _⟩⟩ := hv
 obtain ⟨ob, oo, rfl, hato⟩ := Di.at hro hol hko (by omega)
 refine Con.enter Q84_ok (args := [.slice pa p.length pc, .agg #[.slice fa e.frm.length fc, .slice da e.dn.length dc, .slice (some ⟨ob, oo, none⟩) e.ord.length oc, .slice na e.fen.length nc]]) (by simp [Q84]) fun w0 => ?_
 simp only [Q84, A3]
 have hfrc := fun G => Pq (M := M.add G) p _ (hs0.mono (Aa.le_add _ _)) hp e _ (IsX.mono (Aa.le_add _ _) hv0) hfl hfx
 repeat' first
   | refine EV.seq ?_
   | refine rg ?_
   | ((first | refine Aq.call (hfrc _) ?_ | with_reducible intro b | refine xrA rfl ?_ | fail); try refine nx ?_)
   | (refine xw ?_; refine nx ?_)
   | exact ⟨⟩
   | fail
 obtain ⟨b5, rfl⟩ : ∃ x, x = b := ⟨_, rfl⟩
 obtain ⟨b4, rfl⟩ : ∃ x, x = b := ⟨_, rfl⟩
 obtain ⟨xb, rfl⟩ : ∃ x, x = b := ⟨_, rfl⟩
 refine ⟨by rw [List.length_map, Hq], fun v hv => by obtain ⟨x, _, rfl⟩ := List.mem_map.1 hv; rfl, ?_⟩
 rw [Ad0 (by rw [List.length_map, Hq]) rfl]
 repeat' first
   | refine EV.seq ?_
   | refine EV.block ?_
   | refine rg ?_
   | exact ⟨⟩
   | fail
 obtain ⟨zs, hzs⟩ : ∃ zs : List Value, zs = [vw 0, vw 0, vw 0, vw 0, vw 0, vw 0, vw 0, vw 0, vw 0, vw 0, vw 0, vw 0, vw 0, vw 0, vw 0, vw 0] := ⟨_, rfl⟩
 have hfin := fromR_ok (e := e) hp
 refine EV.frz [(xb, Cl 37 [.slice fa e.frm.length fc, .slice da e.dn.length dc, .slice (some ⟨ob, oo, none⟩) e.ord.length oc, .slice na e.fen.length nc])] ?_
 generalize hR : M.add _ = N
 have hMN : M.le N := hR ▸ Aa.le_add _ _
 have hxb : rd N xb 0 4 [.slice fa e.frm.length fc, .slice da e.dn.length dc, .slice (some ⟨ob, oo, none⟩) e.ord.length oc, .slice na e.fen.length nc] := hR ▸ An 0 rfl rfl (by simp)
 clear hR hfrc
 have hx0 := hxb.pt 0 1 (by omega) rfl
 have hx2 := hxb.pt 2 1 (by omega) rfl
 simp only [Nat.zero_add] at hx0 hx2
 have hpr' := hpr.mono hMN
 have hlocs : ∀ b, b < p.length → ∃ pb po, pa = some ⟨pb, po, none⟩ ∧ rd N pb (po + b * 6) 6 (H5 (evAt p b)) := fun b hb => by
  obtain ⟨pb, po, e1, hat⟩ := Sl.at (sz := 6) (enc := H5) (fun _ => rfl) (by decide) hpr' (by omega)
  have := hat b hb
  rw [← B5 hb] at this
  exact ⟨pb, po, e1, this⟩
 have hfrs : ∀ b, b < p.length → ∃ fb fo, fa = some ⟨fb, fo, none⟩ ∧ rd N fb (fo + b) 1 [vi (Ae e b)] := fun b hb => by
  obtain ⟨fb, fo, e1, hat⟩ := Sl.at (sz := 1) (enc := ei) (fun _ => rfl) (by decide) hrf (by omega)
  exact ⟨fb, fo, e1, (Cd hat b (by omega)).mono hMN⟩
 have hords : ∀ k, k < 3 → ∃ a' c', rd N ob (oo + k) 1 [.slice a' (e.ord[k]?.getD []).length c'] ∧ rdS N 1 a' (e.ord[k]?.getD []).length ((e.ord[k]?.getD []).flatMap ei) := fun k hk => by
  obtain ⟨a', c', h1, _, h2⟩ := hato k (by omega)
  rw [Nat.mul_one] at h1
  rw [List.getElem?_eq_getElem (show k < e.ord.length by omega), Option.getD_some]
  exact ⟨a', c', h1.mono hMN, h2.mono hMN⟩
 clear hato hro hko hrf hpr hpr'
 refine EV.loopTo (fun k : Nat => ([(0, .slice pa p.length pc), (3, pv xb 0), (4, pv b4 0), (5, pv b5 0), (6, vi k)], N, [(b5, Cl 95 ((Af (Og p e) k (Iw p e)).map vw)), (b4, Cl 95 zs)])) (fun k => k ≤ 3) (fun k => 3 - k) 0 rfl (Nat.zero_le _) ?env1 (by subst hzs; exact List.Sublist.refl _) ?_
 case env1 =>
  exact eE
 intro k hk ih
 dsimp only at hk ih ⊢
 repeat' first
   | refine EV.seq ?_
   | refine EV.skip ?_
   | refine EV.block ?_
   | refine rg ?_
   | (refine cX (fun h => ?_) (fun h => ?_) <;> try exact Ah h)
   | (refine EV.exit rfl ?_)
   | exact ⟨⟩
   | fail
 ·have hk' : k < 3 := by omega
  have hq0 := loopK_ok hp hin k hk hfin
  have ihk := ih (k + 1) (by omega) (by omega)
  simp only [Af, Og] at ihk
  obtain ⟨la, lc, hrl, hrr⟩ := hords k hk'
  have hLin := hin k hk'
  have hL16 := hsz k hk'
  have oI := @loopI_ok p e hp hin k hk'
  have oB := @loopB_ok p e hp hin k hk'
  have oJ := @loopJ_ok p e hp hin k hk'
  have oJ2 := @loopJ2_ok p e hp hin k hk'
  generalize Af (Og p e) k (Iw p e) = q0 at *
  refine EV.loopTo (fun i : Nat => ([(0, .slice pa p.length pc), (3, pv xb 0), (4, pv b4 0), (5, pv b5 0), (6, vi k), (7, vi i)], N, [(b5, Cl 95 ((Af (Qs p e k) i q0).map vw)), (b4, Cl 95 zs)])) (fun i => i ≤ (e.ord[k]?.getD []).length) (fun i => (e.ord[k]?.getD []).length - i) 0 rfl (Nat.zero_le _) ?env2 (List.Sublist.refl _) ?_
  case env2 =>
   exact eE
  intro i hi ih2
  dsimp only at hi ih2 ⊢
  repeat' first
    | refine EV.seq ?_
    | refine EV.skip ?_
    | refine EV.block ?_
    | refine EV.inBlock ?_
    | refine rg ?_
    | (refine cX (fun h => ?_) (fun h => ?_) <;> try exact Ah h)
    | (refine EV.exit rfl ?_)
    | (refine And.intro (by omega) ?_)
    | (refine xn ?_; try refine nx ?_)
    | exact ⟨⟩
    | fail
  ·have hi' : i < (e.ord[k]?.getD []).length := by omega
   have hq1 := oI i hi hq0
   have ih3 := ih2 (i + 1) (by omega) (by omega)
   simp only [Af, Qs] at ih3
   obtain ⟨wb, wo, rfl, hatl⟩ := Sl.at (sz := 1) (enc := ei) (fun _ => rfl) (by decide) hrr (by omega)
   have hnum := Cd hatl
   obtain ⟨a, ha⟩ : ∃ a : Nat, Ad (e.ord[k]?.getD []) i = a := ⟨(Ad (e.ord[k]?.getD []) i).toNat, by have := hLin i hi'; omega⟩
   have hli := hnum i hi'
   have ha16 : a < p.length := by have := hLin i hi'; omega
   rw [ha, Int.toNat_natCast] at ih3
   rw [ha] at hli
   have oB := @oB i a (by omega)
   have oJ := fun d hd => @oJ i a d hd _ hq1
   have oJ2 := @oJ2 i a
   generalize hL : (e.ord[k]?.getD []) = L at *
   generalize Af (Qs p e k) i q0 = q1 at *
   repeat' first
     | refine EV.seq ?_
     | refine EV.block ?_
     | refine rg ?_
     | (refine And.intro (by omega) ?_)
     | (refine xm ?_; try refine nx ?_)
     | exact ⟨⟩
     | fail
   refine EV.loopTo (fun d : Nat => ([(0, .slice pa p.length pc), (3, pv xb 0), (4, pv b4 0), (5, pv b5 0), (6, vi k), (7, vi i), (8, vi a), (9, vi (i + 1 + d : Nat))], N, [(b5, Cl 95 ((Af (Of e k i a) d q1).map vw)), (b4, Cl 95 zs)])) (fun d => d ≤ L.length - (i + 1)) (fun d => L.length - (i + 1) - d) 0 rfl (Nat.zero_le _) ?env3 (List.Sublist.refl _) ?_
   case env3 =>
    exact eE
   intro d hd ih4
   dsimp only at hd ih4 ⊢
   obtain ⟨x, hx⟩ : ∃ x, x = i + 1 + d := ⟨_, rfl⟩
   rw [← hx]
   repeat' first
     | refine EV.seq ?_
     | refine EV.skip ?_
     | refine EV.block ?_
     | refine rg ?_
     | (refine cX (fun h => ?_) (fun h => ?_) <;> try exact Ah h)
     | (refine EV.exit rfl ?_)
     | (refine And.intro (by omega) ?_)
     | (refine xn ?_; try refine nx ?_)
     | exact ⟨⟩
     | fail
   ·have hdx : x < L.length := by omega
    have hq := oJ d hd
    have ih5 := ih4 (d + 1) (by omega) (by omega)
    simp only [Af, Of, hL] at ih5
    generalize Af (Of e k i a) d q1 = q at *
    rw [← hx, show i + 1 + (d + 1) = x + 1 by omega] at ih5
    have hlx := hnum x hdx
    have hxin := hLin x hdx
    obtain ⟨w, hw⟩ : ∃ w : Nat, Ad L x = w := ⟨(Ad L x).toNat, by omega⟩
    rw [hw] at hlx ih5
    obtain ⟨hul, e1⟩ := hq.get (show a < 16 by omega)
    have hx1 := hq.at (show 16 ≤ 32 by omega) a
    rw [e1] at hx1
    have hy1 : q[a] < 2 ^ 64 := Nat.lt_of_lt_of_le hx1 (by decide)
    have hxw : IntKind.u64.wrap (w : Int) = (w : Int) := Bc (by omega)
    have hxn2 : ¬ ((w : Int) < 0) := by omega
    have hshl := Gm (show w < 64 by omega)
    have hor := Gn (b := w) hy1 (by omega)
    refine EV.any (t := Bh6) [(b5, Cl 95 (q.map vw))] (List.Sublist.cons_cons _ (List.nil_sublist _)) ?_
    simp only [Am, Au, Al, As, reduceIte, Nat.reduceEqDiff]
    repeat' first
      | ((first | refine zo (fun lq hlq => ?_) | refine zl ?_ | refine Exists.intro _ (And.intro (B4 (f := vw) hul) ?_) | fail); (repeat first | refine nz ?_ | simp only [hxw, hxn2, hshl, hor]))
      | (refine Ea (by first | with_reducible assumption | rfl) (fun tq htq => ?_) (fun tq htq => ?_) <;> (repeat first | refine nz ?_ | simp only [hxw, hxn2, hshl, hor]))
      | exact zn
      | (refine And.intro (by omega) ?_)
      | ((first | refine xm ?_ | refine xn ?_ | refine xw ?_ | fail); (repeat first | refine nz ?_ | simp only [hxw, hxn2, hshl, hor]))
      | fail
    refine ⟨by rw [List.length_map, hq.len]; omega, ?_⟩
    rw [Ao vw q hul]
    repeat' first
      | (refine zl ?_; try refine nz ?_)
      | refine zq (fun lq tq hlq htq => ?_)
      | refine zf ?_
      | exact ⟨⟩
      | fail
    repeat' first
      | refine EV.inBlock ?_
      | refine rg ?_
      | exact ⟨⟩
      | fail
    rw [Int.toNat_natCast, Li, orR, e1] at ih5
    refine EV.to ih5 ?_ (List.Sublist.refl _)
    exact eE
   ·have hde : d = L.length - (i + 1) := by omega
    subst hde
    have hq2 := oJ _ (Nat.le_refl _)
    generalize Af (Of e k i a) (L.length - (i + 1)) q1 = q2 at *
    repeat' first
      | fail
    refine EV.loopTo (fun c : Nat => ([(0, .slice pa p.length pc), (3, pv xb 0), (4, pv b4 0), (5, pv b5 0), (6, vi k), (7, vi i), (8, vi a), (10, vi c)], N, [(b5, Cl 95 ((Af (Qr p e k i a) c q2).map vw)), (b4, Cl 95 zs)])) (fun c => c ≤ p.length) (fun c => p.length - c) 0 rfl (Nat.zero_le _) ?env4 (List.Sublist.refl _) ?_
    case env4 =>
     exact eE
    intro c hc ih4
    dsimp only at hc ih4 ⊢
    refine EV.seq ?_
    refine EV.seq ?_
    repeat' first
      | refine EV.skip ?_
      | refine EV.inBlock ?_
      | refine rg ?_
      | (refine cX (fun h => ?_) (fun h => ?_) <;> try exact Ah h)
      | (refine EV.exit rfl ?_)
      | exact ⟨⟩
      | fail
    ·have hc' : c < p.length := by omega
     have hq3 := oB c hc hq2
     have ih5 := ih4 (c + 1) (by omega) (by omega)
     simp only [Af, Qr, hL] at ih5
     generalize Af (Qr p e k i a) c q2 = q3 at *
     obtain ⟨pb, po, rfl, hpc⟩ := hlocs c hc'
     obtain ⟨fb, fo, rfl, hfc⟩ := hfrs c hc'
     have hlc : rd N pb (po + c * 6 + 1 + 1) 1 [vi (evAt p c).op.loc] := hpc.pt 2 1 (by omega) rfl
     obtain ⟨hcl, e1⟩ := hq3.get (show c < 16 by omega)
     have hx1 := hq3.at (show 16 ≤ 32 by omega) c
     rw [e1] at hx1
     have hy1 : q3[c] < 2 ^ 64 := Nat.lt_of_lt_of_le hx1 (by decide)
     have haw : IntKind.u64.wrap (a : Int) = (a : Int) := Bc (by omega)
     have han : ¬ ((a : Int) < 0) := by omega
     have hshl := Gm (show a < 64 by omega)
     have hor := Gn (b := a) hy1 (by omega)
     have hq4 : RelOk 16 (Fx (decide (Ae e c = -1) && decide ((evAt p c).op.loc = (k : Int)) && decide (a ≠ c)) q3 c a) := putIf_ok hq3 _ (by omega)
     have oJ3 := fun d hd => @oJ2 c d hd _ hq4
     generalize hq4e : Fx (decide (Ae e c = -1) && decide ((evAt p c).op.loc = (k : Int)) && decide (a ≠ c)) q3 c a = q4 at *
     refine EV.seq ?_
     refine EV.block ?_
     refine EV.seq (EV.thru (fun ρ' M' G' => M' = N ∧ (∀ q ∈ [(0, .slice (some ⟨pb, po, none⟩) p.length pc), (3, pv xb 0), (4, pv b4 0), (5, pv b5 0), (6, vi k), (7, vi i), (8, vi a), (10, vi c)], get ρ' q.1 = some q.2) ∧ G' = [(b5, Cl 95 (q4.map vw)), (b4, Cl 95 zs)]) ?_ ?_)
     ·intro k' key
      clear ih ihk ih2 ih3 ih4 ih5
      rw [← hq4e] at key
      repeat' first
        | refine EV.seq ?_
        | refine EV.skip ?_
        | (refine EV.reg ?_; (conv => (arg 2; whnf)); (repeat first | refine nx ?_ | simp only [haw, han, hshl, hor]))
        | with_reducible assumption
        | (refine Exists.intro _ (And.intro (B4 (f := vw) hcl) ?_); (repeat first | refine nx ?_ | simp only [haw, han, hshl, hor]))
        | (refine Az.merge ?_ (fun hc K' hK => ?_) ?_; rotate_left)
        | (refine cX (fun h => ?_) (fun h => ?_) <;> try exact Ah h)
        | (refine And.intro (by omega) ?_)
        | ((first | refine xm ?_ | refine xn ?_ | fail); (repeat first | refine nx ?_ | simp only [haw, han, hshl, hor]))
        | (refine xw ?_; (repeat first | refine nx ?_ | simp only [haw, han, hshl, hor]))
        | fail
      ·refine ⟨by rw [List.length_map, hq3.len]; omega, ?_⟩
       rw [Ao vw q3 hcl]
       rw [Fx, if_pos (by simp at h ⊢; omega), Li, orR, e1] at key
       refine EV.reS (key _ _ _ ⟨rfl, ?_, rfl⟩)
       exact eE
      ·rw [Fx, if_neg (by simp at h ⊢; omega)] at key
       refine EV.reS (key _ _ _ ⟨rfl, ?_, rfl⟩)
       exact eE
     rintro ρ' M' G' ⟨e0, hρ, e2⟩
     rw [e0, e2]
     clear e0 e2
     refine EV.to (ρ' := [(0, .slice (some ⟨pb, po, none⟩) p.length pc), (3, pv xb 0), (4, pv b4 0), (5, pv b5 0), (6, vi k), (7, vi i), (8, vi a), (10, vi c)]) ?_ hρ (List.Sublist.refl _)
     repeat' first
       | refine EV.seq ?_
       | refine EV.block ?_
       | refine rg ?_
       | exact ⟨⟩
       | fail
     refine EV.loopTo (fun d : Nat => ([(0, .slice (some ⟨pb, po, none⟩) p.length pc), (3, pv xb 0), (4, pv b4 0), (5, pv b5 0), (6, vi k), (7, vi i), (8, vi a), (10, vi c), (11, vi (i + 1 + d : Nat))], N, [(b5, Cl 95 ((Af (K5 e k i a c) d q4).map vw)), (b4, Cl 95 zs)])) (fun d => d ≤ L.length - (i + 1)) (fun d => L.length - (i + 1) - d) 0 rfl (Nat.zero_le _) ?env5 (List.Sublist.refl _) ?_
     case env5 =>
      exact eE
     intro d hd ih6
     dsimp only at hd ih6 ⊢
     obtain ⟨x, hx⟩ : ∃ x, x = i + 1 + d := ⟨_, rfl⟩
     rw [← hx]
     refine EV.seq ?_
     refine EV.seq ?_
     repeat' first
       | refine EV.skip ?_
       | refine EV.inBlock ?_
       | refine rg ?_
       | (refine cX (fun h => ?_) (fun h => ?_) <;> try exact Ah h)
       | (refine EV.exit rfl ?_)
       | (refine And.intro (by omega) ?_)
       | (refine xn ?_; try refine nx ?_)
       | exact ⟨⟩
       | fail
     ·have hdx : x < L.length := by omega
      have hq5 := oJ3 d hd
      have ih7 := ih6 (d + 1) (by omega) (by omega)
      simp only [Af, K5, hL] at ih7
      generalize Af (K5 e k i a c) d q4 = q5 at *
      rw [← hx, show i + 1 + (d + 1) = x + 1 by omega] at ih7
      have hlx := hnum x hdx
      have hxin := hLin x hdx
      obtain ⟨w, hw⟩ : ∃ w : Nat, Ad L x = w := ⟨(Ad L x).toNat, by omega⟩
      rw [hw] at hlx ih7
      obtain ⟨hcl5, e5⟩ := hq5.get (show c < 16 by omega)
      have hx5 := hq5.at (show 16 ≤ 32 by omega) c
      rw [e5] at hx5
      have hy5 : q5[c] < 2 ^ 64 := Nat.lt_of_lt_of_le hx5 (by decide)
      have hww : IntKind.u64.wrap (w : Int) = (w : Int) := Bc (by omega)
      have hwn : ¬ ((w : Int) < 0) := by omega
      have hshw := Gm (show w < 64 by omega)
      have horw := Gn (b := w) hy5 (by omega)
      repeat' first
        | refine EV.seq ?_
        | refine EV.skip ?_
        | refine EV.block ?_
        | refine EV.inBlock ?_
        | refine rg ?_
        | with_reducible assumption
        | (refine Az.merge ?_ (fun hc K' hK => ?_) ?_; rotate_left)
        | (refine cX (fun h => ?_) (fun h => ?_) <;> try exact Ah h)
        | (refine And.intro (by omega) ?_)
        | ((first | refine xm ?_ | refine xn ?_ | fail); try refine nx ?_)
        | exact ⟨⟩
        | fail
      ·refine EV.any (t := Af5) [(b5, Cl 95 (q5.map vw))] (List.Sublist.cons_cons _ (List.nil_sublist _)) ?_
       simp only [Am, Au, Al, As, reduceIte, Nat.reduceEqDiff]
       repeat' first
         | ((first | refine zo (fun lq hlq => ?_) | refine zl ?_ | refine Exists.intro _ (And.intro (B4 (f := vw) hcl5) ?_) | fail); (repeat first | refine nz ?_ | simp only [hww, hwn, hshw, horw]))
         | (refine Ea (by first | with_reducible assumption | rfl) (fun tq htq => ?_) (fun tq htq => ?_) <;> (repeat first | refine nz ?_ | simp only [hww, hwn, hshw, horw]))
         | exact zn
         | (refine And.intro (by omega) ?_)
         | ((first | refine xm ?_ | refine xn ?_ | refine xw ?_ | fail); (repeat first | refine nz ?_ | simp only [hww, hwn, hshw, horw]))
         | fail
       refine ⟨by rw [List.length_map, hq5.len]; omega, ?_⟩
       rw [Ao vw q5 hcl5]
       repeat' first
         | (refine zl ?_; try refine nz ?_)
         | refine zq (fun lq tq hlq htq => ?_)
         | refine zf ?_
         | exact ⟨⟩
         | fail
       repeat' first
         | refine EV.inBlock ?_
         | refine rg ?_
         | exact ⟨⟩
         | fail
       rw [Fx, if_pos (by simp at h ⊢; omega), Int.toNat_natCast, Li, orR, e5] at ih7
       refine EV.to ih7 ?_ (List.Sublist.refl _)
       exact eE
      ·rw [Fx, if_neg (by simp at h ⊢; omega)] at ih7
       refine EV.to ih7 ?_ (List.Sublist.refl _)
       exact eE
     ·have hde : d = L.length - (i + 1) := by omega
      subst hde
      refine EV.to ih5 ?_ (List.Sublist.refl _)
      exact eE
    ·have hce : c = p.length := by omega
     subst hce
     refine EV.to ih3 ?_ (List.Sublist.refl _)
     exact eE
  ·have hie : i = (e.ord[k]?.getD []).length := by omega
   subst hie
   refine EV.to ihk ?_ (List.Sublist.refl _)
   exact eE
 ·have hke : k = 3 := by omega
  subst hke
  have hk3 := loopK_ok hp hin 3 (Nat.le_refl _) hfin
  have hcl : Si p e = Cc (Af (Og p e) 3 (Iw p e)) := rfl
  rw [hcl]
  generalize Af (Og p e) 3 (Iw p e) = q at *
  have hclo := fun G => Hs (M := N.add G) q hk3
  repeat' first
    | ((first | refine Aq.call (hclo _) ?_ | refine Exists.intro _ (And.intro (E8 (f := vw) hk3.len) ?_) | fail); try refine nx ?_)
    | (refine xw ?_; refine nx ?_)
    | exact ⟨⟩
    | fail
  refine ⟨by subst hzs; simp, by rw [List.length_map, hk3.close.len], fun v hv => by obtain ⟨x, _, rfl⟩ := List.mem_map.1 hv; rfl, ?_⟩
  rw [Ad0 (by rw [List.length_map, hk3.close.len]) (by subst hzs; rfl)]
  (refine rt Q84_ok ?_; try with_reducible exact ⟨⟩)
  exact ⟨_, Bz (T := 95) (cs := (Cc q).map vw) (by simp) (by rw [List.drop_zero, List.take_of_length_le (by rw [List.length_map, hk3.close.len]; exact Nat.le_refl _)]) (by rw [List.length_map, hk3.close.len]; exact Nat.le_refl _), rfl⟩
end
end Go.EV

namespace Go.EV
open Go.Proofs
section
variable {p : List Ev} (hp : p.length ≤ 16)
include hp
theorem Ah1 (w : Nat) : ∀ m, m ≤ p.length → Af (fun a s => E6 (hdC p w a) s a) m 0 < 2 ^ 16 := fun m hm => Jr (n := p.length) (fun i s hi hs => Lq hs (by omega)) m 0 hm (by decide)
theorem Cl8 (w : Nat) : ∀ m, m ≤ p.length → Af (fun a s => E6 (tlC p w a) s a) m 0 < 2 ^ 16 := fun m hm => Jr (n := p.length) (fun i s hi hs => Lq hs (by omega)) m 0 hm (by decide)
end
set_option maxHeartbeats 4000000 in
theorem Ui {C : Cx Tryz.prog} {k : List RItem} {p : List Ev} {N : Aa} {pb po pc xb b4 b5 w c ch : Nat} {G : Own} (hp : p.length ≤ 16) (hord : Wp p) (hevs : ∀ b, b < p.length → rd N pb (po + b * 6) 6 (H5 (evAt p b))) (hw' : w < p.length) (hc' : c < p.length)
  (key : EV C [0, 1, 3, 4, 5, 6, 7, 8, 9, 10, 11, 12, 13, 14, 15] k [(0, .slice (some ⟨pb, po, none⟩) p.length pc), (3, pv xb 0), (4, pv b4 0), (5, pv b5 0), (6, vi w), (7, vw ch), (10, vi c), (11, vw (hdW p w)), (12, vw (tlW p c))] N G) :
  EV C [0, 1, 3, 4, 5, 6, 7, 8, 9, 10, 11, 12, 13, 14, 15] (.code (.loop Yi) :: .inBlock 8 :: k)
   [(13, vi 0), (0, .slice (some ⟨pb, po, none⟩) p.length pc), (3, pv xb 0), (4, pv b4 0), (5, pv b5 0), (6, vi w), (7, vw ch), (10, vi c), (11, vw 0), (12, vw 0)] N G := by
 refine EV.loopTo (fun a : Nat => ([(0, .slice (some ⟨pb, po, none⟩) p.length pc), (3, pv xb 0), (4, pv b4 0), (5, pv b5 0), (6, vi w), (7, vw ch), (10, vi c), (11, vw (Af (fun a s => E6 (hdC p w a) s a) a 0)), (12, vw (Af (fun a s => E6 (tlC p c a) s a) a 0)), (13, vi a)], N, G)) (fun a => a ≤ p.length) (fun a => p.length - a) 0 rfl (Nat.zero_le _) ?env1 (List.Sublist.refl _) ?_
 case env1 =>
  exact eE
 intro a ha ih
 dsimp only at ha ih ⊢
 refine EV.seq ?_
 refine EV.seq ?_
 repeat' first
   | refine EV.skip ?_
   | refine rg ?_
   | (refine cX (fun h => ?_) (fun h => ?_) <;> try exact Ah h)
   | (refine EV.exit rfl ?_)
   | exact ⟨⟩
   | fail
 ·have ha' : a < p.length := by omega
  have ih2 := ih (a + 1) (by omega) (by omega)
  simp only [Af] at ih2
  have hl1 := Ah1 hp w a ha
  have hl2 := Cl8 hp c a ha
  generalize Af (fun a s => E6 (hdC p w a) s a) a 0 = m1 at *
  generalize Af (fun a s => E6 (tlC p c a) s a) a 0 = m2 at *
  have hy1 : m1 < 2 ^ 64 := Nat.lt_of_lt_of_le hl1 (by decide)
  have hy2 : m2 < 2 ^ 64 := Nat.lt_of_lt_of_le hl2 (by decide)
  have haw : IntKind.u64.wrap (a : Int) = (a : Int) := Bc (by omega)
  have han : ¬ ((a : Int) < 0) := by omega
  have hsha := Gm (show a < 64 by omega)
  have hor1 := Gn (b := a) hy1 (by omega)
  have hor2 := Gn (b := a) hy2 (by omega)
  have hea := hevs a ha'
  have hea1 : rd N pb (po + a * 6 + 1) 5 [vi (evAt p a).op.kind, vi (evAt p a).op.loc, vi (evAt p a).op.v, vi (evAt p a).op.w, vi (evAt p a).op.ord] := hea.pt 1 5 (by omega) rfl
  have hea0 : rd N pb (po + a * 6 + 0) 1 [vi (evAt p a).th] := hea.pt 0 1 (by omega) rfl
  have hew0 : rd N pb (po + w * 6 + 0) 1 [vi (evAt p w).th] := (hevs w hw').pt 0 1 (by omega) rfl
  have hec0 : rd N pb (po + c * 6 + 0) 1 [vi (evAt p c).th] := (hevs c hc').pt 0 1 (by omega) rfl
  simp only [Nat.add_zero] at hea0 hew0 hec0
  have hoa := hord a ha'
  have hrel := fun G => Oh (M := N.add G) _ hoa
  have hacq := fun G => Oi (M := N.add G) _ hoa
  generalize hoe : (evAt p a).op = o at *
  refine EV.seq ?_
  refine EV.block ?_
  refine EV.seq ?_
  repeat' first
    | refine rg ?_
    | (with_reducible intro b; try refine nx ?_)
    | (refine And.intro (by omega) ?_)
    | (refine xm ?_; try refine nx ?_)
    | (refine xw ?_; refine nx ?_)
    | exact ⟨⟩
    | fail
  have hob := An (M := N) (G := (b, Cl 83 [vi o.kind, vi o.loc, vi o.v, vi o.w, vi o.ord]) :: G) (b := b) (off := 4) (n := 1) 0 rfl rfl (by simp)
  have hob0 := An (M := N) (G := (b, Cl 83 [vi o.kind, vi o.loc, vi o.v, vi o.w, vi o.ord]) :: G) (b := b) (off := 0) (n := 1) 0 rfl rfl (by simp)
  refine EV.seq (EV.thru (fun ρ' M' G' => M' = N ∧ (∀ q ∈ [(0, .slice (some ⟨pb, po, none⟩) p.length pc), (3, pv xb 0), (4, pv b4 0), (5, pv b5 0), (6, vi w), (7, vw ch), (10, vi c), (11, vw (E6 (hdC p w a) m1 a)), (12, vw m2), (13, vi a), (14, pv b 0)], get ρ' q.1 = some q.2) ∧ G' = (b, Cl 83 [vi o.kind, vi o.loc, vi o.v, vi o.w, vi o.ord]) :: G) ?_ ?_)
  ·intro k' key2
   clear ih ih2
   refine EV.seq ?_
   refine EV.any (t := Af7) [(b, Cl 83 [vi o.kind, vi o.loc, vi o.v, vi o.w, vi o.ord])] (List.Sublist.cons_cons _ (List.nil_sublist _)) ?_
   simp only [Am, Au, Al, As, reduceIte, Nat.reduceEqDiff]
   repeat' first
     | ((refine L3 (by first | with_reducible assumption | rfl) rfl ?_ (fun lq hlq hc => ?_) (fun lq hlq => ?_); rotate_left) <;> (try (exfalso; simp at hc; done)) <;> try refine nz ?_)
     | ((first | refine zo (fun lq hlq => ?_) | refine zl ?_ | refine Exists.intro _ (And.intro (hrel _) ?_) | fail); try refine nz ?_)
     | refine zf ?_
     | with_reducible rfl
     | (refine And.intro (by omega) ?_)
     | ((first | refine xm ?_ | refine xiA rfl ?_ | fail); try refine nz ?_)
     | exact ⟨⟩
     | fail
   have hh : (Cm9 o.ord && (decide ((a : Int) = (w : Int)) || decide (o.kind = 5) && decide ((evAt p a).th = (evAt p w).th) && decide ((a : Int) < (w : Int)))) = hdC p w a := by
    simp [hdC, Ev.rel, hoe, Int.natCast_inj, Int.ofNat_lt]
   rw [hh]
   generalize hdC p w a = y at *
   repeat' first
     | refine EV.skip ?_
     | (refine EV.reg ?_; (conv => (arg 2; whnf)); (repeat first | refine nx ?_ | simp only [haw, han, hsha, hor1]))
     | (refine cX (fun h => ?_) (fun h => ?_) <;> try exact Ah h)
     | fail
   ·rw [E6, if_pos h] at key2
    refine EV.reS (key2 _ _ _ ⟨rfl, ?_, rfl⟩)
    exact eE
   ·rw [E6, if_neg (by rw [h]; decide)] at key2
    refine EV.reS (key2 _ _ _ ⟨rfl, ?_, rfl⟩)
    exact eE
  ·rintro ρ' M' G' ⟨e0, hρ, e2⟩
   rw [e0, e2]
   clear e0 e2
   generalize E6 (hdC p w a) m1 a = m3 at *
   refine EV.to (ρ' := [(0, .slice (some ⟨pb, po, none⟩) p.length pc), (3, pv xb 0), (4, pv b4 0), (5, pv b5 0), (6, vi w), (7, vw ch), (10, vi c), (11, vw m3), (12, vw m2), (13, vi a), (14, pv b 0)]) ?_ hρ (List.Sublist.refl _)
   refine EV.seq ?_
   refine EV.any (t := Af8) [(b, Cl 83 [vi o.kind, vi o.loc, vi o.v, vi o.w, vi o.ord])] (List.Sublist.cons_cons _ (List.nil_sublist _)) ?_
   simp only [Am, Au, Al, As, reduceIte, Nat.reduceEqDiff]
   repeat' first
     | ((refine L3 (by first | with_reducible assumption | rfl) rfl ?_ (fun lq hlq hc => ?_) (fun lq hlq => ?_); rotate_left) <;> (try (exfalso; simp at hc; done)) <;> try refine nz ?_)
     | ((first | refine zo (fun lq hlq => ?_) | refine zl ?_ | refine Exists.intro _ (And.intro (hacq _) ?_) | fail); try refine nz ?_)
     | refine zf ?_
     | with_reducible rfl
     | (refine And.intro (by omega) ?_)
     | ((first | refine xm ?_ | refine xiA rfl ?_ | fail); try refine nz ?_)
     | exact ⟨⟩
     | fail
   have hh : (Cm8 o.ord && (decide ((a : Int) = (c : Int)) || decide (o.kind = 5) && decide ((evAt p a).th = (evAt p c).th) && decide ((c : Int) < (a : Int)))) = tlC p c a := by
    simp [tlC, Ev.acq, hoe, Int.natCast_inj, Int.ofNat_lt]
   rw [hh]
   generalize tlC p c a = y at *
   repeat' first
     | refine EV.skip ?_
     | refine EV.inBlock ?_
     | (refine EV.reg ?_; (conv => (arg 2; whnf)); (repeat first | refine nx ?_ | simp only [haw, han, hsha, hor2]))
     | (refine cX (fun h => ?_) (fun h => ?_) <;> try exact Ah h)
     | fail
   ·rw [E6, if_pos h] at ih2
    refine EV.to ih2 ?_ (List.Sublist.cons _ (List.Sublist.refl _))
    exact eE
   ·rw [E6, if_neg (by rw [h]; decide)] at ih2
    refine EV.to ih2 ?_ (List.Sublist.cons _ (List.Sublist.refl _))
    exact eE
 ·have hae : a = p.length := by omega
  subst hae
  repeat' first
    | fail
  refine EV.to key ?_ (List.Sublist.refl _)
  exact eE
end Go.EV

namespace Go.EV
open Go.Proofs
theorem loopMA_ok {p : List Ev} (hp : p.length ≤ 16) {w b : Nat} : ∀ m, m ≤ p.length → ∀ {r : Rel}, RelOk 16 r → RelOk 16 (Af (mtA p w b) m r) := fun m hm r h => loopN_ok (n := p.length) (fun a q ha hq => by
 unfold mtA; split
 ·exact hq.or a (Zn hp b)
 ·exact hq) m r hm h
set_option maxHeartbeats 4000000 in
theorem W7 {C : Cx Tryz.prog} {k : List RItem} {p : List Ev} {N : Aa} {pb po pc xb b4 b5 w c ch : Nat} {zs : List Value} {q1 : Rel} (hp : p.length ≤ 16) (hq1 : RelOk 16 q1)
  (key : EV C [0, 1, 3, 4, 5, 6, 7, 8, 9, 10, 11, 12, 13, 14, 15] k [(0, .slice (some ⟨pb, po, none⟩) p.length pc), (3, pv xb 0), (4, pv b4 0), (5, pv b5 0), (6, vi w), (7, vw ch), (10, vi c)] N [(b5, Cl 95 ((Af (mtA p w c) p.length q1).map vw)), (b4, Cl 95 zs)]) :
  EV C [0, 1, 3, 4, 5, 6, 7, 8, 9, 10, 11, 12, 13, 14, 15] (.code (.seq (.reg Af9) (.block 10 (.loop Yj))) :: k)
   [(0, .slice (some ⟨pb, po, none⟩) p.length pc), (3, pv xb 0), (4, pv b4 0), (5, pv b5 0), (6, vi w), (7, vw ch), (10, vi c), (11, vw (hdW p w)), (12, vw (tlW p c))] N [(b5, Cl 95 (q1.map vw)), (b4, Cl 95 zs)] := by
 have hd16 : hdW p w < 2 ^ 16 := Ah1 hp w _ (Nat.le_refl _)
 have htl := Zn hp c
 have hd64 : hdW p w < 2 ^ 64 := Nat.lt_of_lt_of_le hd16 (by decide)
 have ht64 : tlW p c < 2 ^ 64 := Nat.lt_of_lt_of_le htl (by decide)
 repeat' first
   | refine EV.seq ?_
   | refine EV.block ?_
   | refine rg ?_
   | exact ⟨⟩
   | fail
 refine EV.loopTo (fun a : Nat => ([(0, .slice (some ⟨pb, po, none⟩) p.length pc), (3, pv xb 0), (4, pv b4 0), (5, pv b5 0), (6, vi w), (7, vw ch), (10, vi c), (11, vw (hdW p w)), (12, vw (tlW p c)), (15, vi a)], N, [(b5, Cl 95 ((Af (mtA p w c) a q1).map vw)), (b4, Cl 95 zs)])) (fun a => a ≤ p.length) (fun a => p.length - a) 0 rfl (Nat.zero_le _) ?env1 (List.Sublist.refl _) ?_
 case env1 =>
  exact eE
 intro a ha ih
 dsimp only at ha ih ⊢
 refine EV.seq ?_
 refine EV.seq ?_
 repeat' first
   | refine EV.skip ?_
   | refine rg ?_
   | (refine cX (fun h => ?_) (fun h => ?_) <;> try exact Ah h)
   | (refine EV.exit rfl ?_)
   | exact ⟨⟩
   | fail
 ·have ha' : a < p.length := by omega
  have hq := loopMA_ok (w := w) (b := c) hp a ha hq1
  have ih2 := ih (a + 1) (by omega) (by omega)
  simp only [Af, mtA] at ih2
  generalize Af (mtA p w c) a q1 = q at *
  generalize hdW p w = hd at *
  generalize tlW p c = tl at *
  have haw : IntKind.u64.wrap (a : Int) = (a : Int) := Bc (by omega)
  have han : ¬ ((a : Int) < 0) := by omega
  have hbit := Ix (b := a) hd64 (by omega)
  obtain ⟨hal, e1⟩ := hq.get (show a < 16 by omega)
  have hx1 := hq.at (show 16 ≤ 32 by omega) a
  rw [e1] at hx1
  have hy1 : q[a] < 2 ^ 64 := Nat.lt_of_lt_of_le hx1 (by decide)
  have hor := V4 hy1 ht64
  repeat' first
    | refine EV.seq ?_
    | refine EV.skip ?_
    | refine EV.block ?_
    | refine EV.inBlock ?_
    | (refine EV.reg ?_; (conv => (arg 2; whnf)); (repeat first | refine nx ?_ | simp only [haw, han, hbit, hor]))
    | (refine Exists.intro _ (And.intro (B4 (f := vw) hal) ?_); (repeat first | refine nx ?_ | simp only [haw, han, hbit, hor]))
    | (refine cX (fun h => ?_) (fun h => ?_) <;> try exact Ah h)
    | (refine And.intro (by omega) ?_)
    | (refine xw ?_; (repeat first | refine nx ?_ | simp only [haw, han, hbit, hor]))
    | fail
  ·refine ⟨by rw [List.length_map, hq.len]; omega, ?_⟩
   rw [Ao vw q hal]
   repeat' first
     | refine EV.inBlock ?_
     | refine rg ?_
     | exact ⟨⟩
     | fail
   rw [if_pos (by simpa using h), orR, e1] at ih2
   refine EV.to ih2 ?_ (List.Sublist.refl _)
   exact eE
  ·rw [if_neg (by simpa using h)] at ih2
   refine EV.to ih2 ?_ (List.Sublist.refl _)
   exact eE
 ·have hae : a = p.length := by omega
  subst hae
  repeat' first
    | fail
  refine EV.to key ?_ (List.Sublist.refl _)
  exact eE
end Go.EV

namespace Go.EV
open Go.Proofs
theorem Ah2 (r : Rel) : ok1 (r.map vw) := fun v hv => by obtain ⟨x, _, rfl⟩ := List.mem_map.1 hv; rfl
theorem V5 {x b : Nat} (hx : x < 2 ^ 64) (hb : b < 64) : decide (IntKind.u64.wrap ((BitVec.ofInt IntKind.u64.bits ((x : Int).fdiv (2 ^ min b IntKind.u64.bits)) &&& BitVec.ofInt IntKind.u64.bits 1).toNat : Int) = 0) = !x.testBit b := by
 have h := Ix hx hb
 have e0 : min b IntKind.u64.bits = b := Nat.min_eq_left (show b ≤ 64 by omega)
 rw [e0] at h ⊢
 have e1 : (x : Int).fdiv (2 ^ b) = ((x / 2 ^ b : Nat) : Int) := by
  rw [Int.fdiv_eq_ediv_of_nonneg _ (by exact_mod_cast Nat.zero_le _)]; simp
 have hd : x / 2 ^ b < 2 ^ 64 := Nat.lt_of_le_of_lt (Nat.div_le_self _ _) hx
 rw [e1, V3 hd] at h ⊢
 have e : (BitVec.ofNat 64 (x / 2 ^ b) &&& BitVec.ofInt 64 1).toNat = (x / 2 ^ b) % 2 := by
  rw [BitVec.toNat_and, BitVec.toNat_ofNat, Nat.mod_eq_of_lt hd]
  show (x / 2 ^ b) &&& 1 = _
  exact Nat.and_one_is_mod _
 have e2 : IntKind.u64.wrap ((BitVec.ofNat 64 (x / 2 ^ b) &&& BitVec.ofInt 64 1).toNat : Int) = ((x / 2 ^ b % 2 : Nat) : Int) := by rw [e, Bc (by omega)]
 change decide (IntKind.u64.wrap ((BitVec.ofNat 64 (x / 2 ^ b) &&& BitVec.ofInt 64 1).toNat : Int) = 1) = _ at h
 change decide (IntKind.u64.wrap ((BitVec.ofNat 64 (x / 2 ^ b) &&& BitVec.ofInt 64 1).toNat : Int) = 0) = _
 rw [e2] at h ⊢
 rw [← h, ← decide_not, decide_eq_decide]
 omega
section
variable {p : List Ev} {e : Exec} (hp : p.length ≤ 16)
include hp
theorem V6 {c : Nat} (hc : c < 2 ^ 16) : ∀ m, m ≤ p.length → Af (chS e) m c < 2 ^ 16 := fun m hm => Jr (n := p.length) (fun i s hi hs => Lq hs (by omega)) m c hm hc
theorem Zp {w : Nat} (hw : w < p.length) : ∀ k, chN p e k w < 2 ^ 16
 | 0 => Nat.pow_lt_pow_right (by decide) (by omega)
 | k + 1 => by
  show Cl7 p e (chN p e k w) < 2 ^ 16
  exact V6 hp (Zp hw k) _ (Nat.le_refl _)
theorem loopMB_ok {w : Nat} : ∀ m, m ≤ p.length → ∀ {r : Rel}, RelOk 16 r → RelOk 16 (Af (mtB p e w) m r) := fun m hm r h => loopN_ok (n := p.length) (fun b q hb hq => by
 unfold mtB; split
 ·exact hq
 ·exact loopMA_ok hp _ (Nat.le_refl _) hq) m r hm h
theorem loopMW_ok : ∀ m, m ≤ p.length → ∀ {r : Rel}, RelOk 16 r → RelOk 16 (Af (mtW p e) m r) := fun m hm r h => loopN_ok (n := p.length) (fun w q hw hq => by
 unfold mtW; split
 ·exact loopMB_ok hp _ (Nat.le_refl _) hq
 ·exact hq) m r hm h
end
section
variable {M : Aa}
set_option maxHeartbeats 4000000 in
theorem Uj (p : List Ev) (s : Value) (hs : Sl M 6 H5 s p) (hp : p.length ≤ 16) (hord : Wp p) (e : Exec) (v : Value) (hv : IsX M v e) (hfl : e.frm.length = p.length) (hdl : e.dn.length = p.length) (hfx : ∀ i, i < p.length → Ae e i < p.length) :
  Con Tryz.prog 95 #[s, v] M [] fun u _ _ => u = Fz (Js p e) := by
 obtain ⟨pa, pc, rfl, hpr⟩ := hs
 obtain ⟨f, d, o, n, rfl, ⟨fa, fc, rfl, hrf⟩, ⟨da, dc, rfl, hrd⟩, ⟨oa, oc, ovs, rfl, hol, hro, hko⟩, ⟨na, nc, rfl, _⟩⟩ := hv
 refine Con.enter Q80_ok (args := [.slice pa p.length pc, .agg #[.slice fa e.frm.length fc, .slice da e.dn.length dc, .slice oa e.ord.length oc, .slice na e.fen.length nc]]) (by simp [Q80]) fun w0 => ?_
 simp only [Q80, A3]
 repeat' first
   | refine EV.seq ?_
   | refine EV.block ?_
   | refine rg ?_
   | (with_reducible intro b; try refine nx ?_)
   | exact ⟨⟩
   | fail
 obtain ⟨b5, rfl⟩ : ∃ x, x = b := ⟨_, rfl⟩
 obtain ⟨b4, rfl⟩ : ∃ x, x = b := ⟨_, rfl⟩
 obtain ⟨xb, rfl⟩ : ∃ x, x = b := ⟨_, rfl⟩
 obtain ⟨zs, hzs⟩ : ∃ zs : List Value, zs = [vw 0, vw 0, vw 0, vw 0, vw 0, vw 0, vw 0, vw 0, vw 0, vw 0, vw 0, vw 0, vw 0, vw 0, vw 0, vw 0] := ⟨_, rfl⟩
 refine EV.frz [(xb, Cl 37 [.slice fa e.frm.length fc, .slice da e.dn.length dc, .slice oa e.ord.length oc, .slice na e.fen.length nc])] ?_
 generalize hR : M.add _ = N
 have hMN : M.le N := hR ▸ Aa.le_add _ _
 have hxb : rd N xb 0 4 [.slice fa e.frm.length fc, .slice da e.dn.length dc, .slice oa e.ord.length oc, .slice na e.fen.length nc] := hR ▸ An 0 rfl rfl (by simp)
 clear hR
 have hx0 := hxb.pt 0 1 (by omega) rfl
 have hx1 := hxb.pt 1 1 (by omega) rfl
 simp only [Nat.zero_add] at hx0 hx1
 have hpr' := hpr.mono hMN
 refine EV.loopTo (fun w : Nat => ([(0, .slice pa p.length pc), (3, pv xb 0), (4, pv b4 0), (5, pv b5 0), (6, vi w)], N, [(b5, Cl 95 ((Af (mtW p e) w Bp).map vw)), (b4, Cl 95 zs)])) (fun w => w ≤ p.length) (fun w => p.length - w) 0 rfl (Nat.zero_le _) ?env1 (by subst hzs; exact List.Sublist.refl _) ?_
 case env1 =>
  exact eE
 intro w hw ih
 dsimp only at hw ih ⊢
 refine EV.seq ?_
 refine EV.seq ?_
 repeat' first
   | refine EV.skip ?_
   | refine rg ?_
   | (refine cX (fun h => ?_) (fun h => ?_) <;> try exact Ah h)
   | (refine EV.exit rfl ?_)
   | exact ⟨⟩
   | fail
 ·have hw' : w < p.length := by omega
  obtain ⟨pb, po, rfl, hpat⟩ := Sl.at (sz := 6) (enc := H5) (fun _ => rfl) (by decide) hpr' (by omega)
  obtain ⟨fb, fo, rfl, hfat⟩ := Sl.at (sz := 1) (enc := ei) (fun _ => rfl) (by decide) hrf (by omega)
  obtain ⟨db, dof, rfl, hdat⟩ := Sl.at (sz := 1) (enc := eb) (fun _ => rfl) (by decide) hrd (by omega)
  have hevs : ∀ b, b < p.length → rd N pb (po + b * 6) 6 (H5 (evAt p b)) := fun b hb => by
   have := hpat b hb
   rwa [← B5 hb] at this
  have hfrs : ∀ b, b < p.length → rd N fb (fo + b) 1 [vi (Ae e b)] := fun b hb => (Cd hfat b (by omega)).mono hMN
  have hdns : ∀ b, b < p.length → rd N db (dof + b) 1 [vb (Bx e.dn b)] := fun b hb => by
   have := (hdat b (by omega)).mono hMN
   rw [Nat.mul_one] at this
   rw [Bx, List.getElem?_eq_getElem (by omega)]; exact this
  clear hro hko hrf hpr hpr' hpat hfat hdat hrd
  have hq0 := loopMW_ok (e := e) hp w hw zero16_ok
  have ihk := ih (w + 1) (by omega) (by omega)
  simp only [Af, mtW] at ihk
  generalize Af (mtW p e) w Bp = q0 at *
  have hdw := hdns w hw'
  cases hdv : Bx e.dn w with
  | false =>
   rw [hdv] at hdw ihk
   repeat' first
     | refine EV.seq ?_
     | refine EV.block ?_
     | refine rg ?_
     | (refine cX (fun h => ?_) (fun h => ?_) <;> try exact Ah h)
     | (refine EV.exit rfl ?_)
     | (refine And.intro (by omega) ?_)
     | ((first | refine xm ?_ | refine xn ?_ | fail); try refine nx ?_)
     | exact ⟨⟩
     | fail
   refine EV.to ihk ?_ (List.Sublist.refl _)
   exact eE
  | true =>
   rw [hdv] at hdw ihk
   have hww : IntKind.u64.wrap (w : Int) = (w : Int) := Bc (by omega)
   have hwn : ¬ ((w : Int) < 0) := by omega
   have hshw := Gm (show w < 64 by omega)
   repeat' first
     | refine EV.seq ?_
     | refine EV.skip ?_
     | refine EV.block ?_
     | (refine EV.reg ?_; (conv => (arg 2; whnf)); (repeat first | refine nx ?_ | simp only [hww, hwn, hshw]))
     | (refine cX (fun h => ?_) (fun h => ?_) <;> try exact Ah h)
     | (refine And.intro (by omega) ?_)
     | ((first | refine xm ?_ | refine xn ?_ | fail); (repeat first | refine nx ?_ | simp only [hww, hwn, hshw]))
     | fail
   refine EV.loopTo (fun r : Nat => ([(0, .slice (some ⟨pb, po, none⟩) p.length pc), (3, pv xb 0), (4, pv b4 0), (5, pv b5 0), (6, vi w), (7, vw (chN p e r w)), (8, vi r)], N, [(b5, Cl 95 ((q0).map vw)), (b4, Cl 95 zs)])) (fun r => r ≤ p.length) (fun r => p.length - r) 0 rfl (Nat.zero_le _) ?env2 (List.Sublist.refl _) ?_
   case env2 =>
    exact eE
   intro r hr ih2
   dsimp only at hr ih2 ⊢
   repeat' first
     | refine EV.seq ?_
     | refine EV.skip ?_
     | refine EV.block ?_
     | refine rg ?_
     | (refine cX (fun h => ?_) (fun h => ?_) <;> try exact Ah h)
     | (refine EV.exit rfl ?_)
     | exact ⟨⟩
     | fail
   ·have hr' : r < p.length := by omega
    have hc0 := Zp (e := e) hp hw' r
    have ih3 := ih2 (r + 1) (by omega) (by omega)
    rw [show chN p e (r + 1) w = Af (chS e) p.length (chN p e r w) from rfl] at ih3
    generalize chN p e r w = c0 at *
    refine EV.loopTo (fun a : Nat => ([(0, .slice (some ⟨pb, po, none⟩) p.length pc), (3, pv xb 0), (4, pv b4 0), (5, pv b5 0), (6, vi w), (7, vw (Af (chS e) a c0)), (8, vi r), (9, vi a)], N, [(b5, Cl 95 ((q0).map vw)), (b4, Cl 95 zs)])) (fun a => a ≤ p.length) (fun a => p.length - a) 0 rfl (Nat.zero_le _) ?env3 (List.Sublist.refl _) ?_
    case env3 =>
     exact eE
    intro a ha ih4
    dsimp only at ha ih4 ⊢
    refine EV.seq ?_
    refine EV.seq ?_
    repeat' first
      | refine EV.skip ?_
      | refine EV.inBlock ?_
      | refine rg ?_
      | (refine cX (fun h => ?_) (fun h => ?_) <;> try exact Ah h)
      | (refine EV.exit rfl ?_)
      | exact ⟨⟩
      | fail
    ·have ha' : a < p.length := by omega
     have hc := V6 (e := e) hp hc0 a ha
     have ih5 := ih4 (a + 1) (by omega) (by omega)
     simp only [Af, chS] at ih5
     generalize Af (chS e) a c0 = c at *
     have hda := hdns a ha'
     have hfa := hfrs a ha'
     have haw : IntKind.u64.wrap (a : Int) = (a : Int) := Bc (by omega)
     have han : ¬ ((a : Int) < 0) := by omega
     have hsha := Gm (show a < 64 by omega)
     have hy1 : c < 2 ^ 64 := Nat.lt_of_lt_of_le hc (by decide)
     have hor := Gn (b := a) hy1 (by omega)
     by_cases h0 : 0 ≤ Ae e a
     ·obtain ⟨u, hu⟩ : ∃ u : Nat, Ae e a = u := ⟨(Ae e a).toNat, by omega⟩
      have hux := hfx a ha'
      rw [hu] at hfa hux ih5
      have huw : IntKind.u64.wrap (u : Int) = (u : Int) := Bc (by omega)
      have hun : ¬ ((u : Int) < 0) := by omega
      have hbit := Ix (b := u) hy1 (by omega)
      rw [Int.toNat_natCast, decide_eq_true (show (0 : Int) ≤ (u : Int) by omega), Bool.and_true] at ih5
      generalize hdb : Bx e.dn a = y at *
      have h0u : decide ((0 : Int) ≤ (u : Int)) = true := decide_eq_true (by omega)
      repeat' first
        | refine EV.seq ?_
        | refine EV.skip ?_
        | refine EV.block ?_
        | refine EV.inBlock ?_
        | (refine EV.reg ?_; (conv => (arg 2; whnf)); (repeat first | refine nx ?_ | simp only [haw, han, hsha, hor, huw, hun, hbit, h0u, Bool.and_true]))
        | with_reducible assumption
        | (refine Az.merge ?_ (fun hc K' hK => ?_) ?_; rotate_left)
        | (refine cX (fun h => ?_) (fun h => ?_) <;> try exact Ah h)
        | (refine And.intro (by omega) ?_)
        | ((first | refine xm ?_ | refine xn ?_ | fail); (repeat first | refine nx ?_ | simp only [haw, han, hsha, hor, huw, hun, hbit, h0u, Bool.and_true]))
        | fail
      ·rw [E6, if_pos (by simpa using h)] at ih5
       refine EV.to ih5 ?_ (List.Sublist.refl _)
       exact eE
      ·rw [E6, if_neg (by rw [Bool.not_eq_true, Bool.and_eq_false_iff]; simpa using h)] at ih5
       refine EV.to ih5 ?_ (List.Sublist.refl _)
       exact eE
     ·have h0f : decide ((0 : Int) ≤ Ae e a) = false := decide_eq_false h0
      rw [h0f, Bool.and_false, Bool.false_and, E6, if_neg (by decide)] at ih5
      generalize hdb : Bx e.dn a = y at *
      repeat' first
        | refine EV.seq ?_
        | refine EV.skip ?_
        | refine EV.block ?_
        | refine EV.inBlock ?_
        | (refine EV.reg ?_; (conv => (arg 2; whnf)); (repeat first | refine nx ?_ | simp only [h0f, Bool.and_false]))
        | with_reducible assumption
        | (refine Az.merge ?_ (fun hc K' hK => ?_) ?_; rotate_left)
        | (refine cX (fun h => ?_) (fun h => ?_) <;> try exact Ah h)
        | (refine And.intro (by omega) ?_)
        | ((first | refine xm ?_ | refine xn ?_ | fail); (repeat first | refine nx ?_ | simp only [h0f, Bool.and_false]))
        | (exfalso; simp at hc; done)
        | fail
      refine EV.to ih5 ?_ (List.Sublist.refl _)
      exact eE
    ·have hae : a = p.length := by omega
     subst hae
     refine EV.to ih3 ?_ (List.Sublist.refl _)
     exact eE
   ·have hre : r = p.length := by omega
    subst hre
    have hcw : chN p e p.length w = chW p e w := rfl
    have hcl := Zp (e := e) hp hw' p.length
    rw [hcw] at hcl
    rw [hcw]
    have hcl64 : chW p e w < 2 ^ 64 := Nat.lt_of_lt_of_le hcl (by decide)
    rw [if_pos rfl] at ihk
    have hmb := fun m hm => loopMB_ok (e := e) (w := w) hp m hm hq0
    refine EV.loopTo (fun c : Nat => ([(0, .slice (some ⟨pb, po, none⟩) p.length pc), (3, pv xb 0), (4, pv b4 0), (5, pv b5 0), (6, vi w), (7, vw (chW p e w)), (10, vi c)], N, [(b5, Cl 95 ((Af (mtB p e w) c q0).map vw)), (b4, Cl 95 zs)])) (fun c => c ≤ p.length) (fun c => p.length - c) 0 rfl (Nat.zero_le _) ?env4 (List.Sublist.refl _) ?_
    case env4 =>
     exact eE
    intro c hc ih3
    dsimp only at hc ih3 ⊢
    refine EV.seq ?_
    refine EV.seq ?_
    repeat' first
      | refine EV.skip ?_
      | refine EV.inBlock ?_
      | refine rg ?_
      | (refine cX (fun h => ?_) (fun h => ?_) <;> try exact Ah h)
      | (refine EV.exit rfl ?_)
      | exact ⟨⟩
      | fail
    ·have hc' : c < p.length := by omega
     have hq1 := hmb c hc
     have ih4 := ih3 (c + 1) (by omega) (by omega)
     simp only [Af, mtB] at ih4
     generalize Af (mtB p e w) c q0 = q1 at *
     have hfc := hfrs c hc'
     generalize hch : chW p e w = ch at *
     by_cases hgo : (decide (Ae e c < 0) || !ch.testBit (Ae e c).toNat) = true
     ·rw [if_pos hgo] at ih4
      by_cases h0 : Ae e c < 0
      ·have h0t : decide (Ae e c < 0) = true := decide_eq_true h0
       repeat' first
         | refine EV.seq ?_
         | refine EV.block ?_
         | (refine EV.reg ?_; (conv => (arg 2; whnf)); (repeat first | refine nx ?_ | simp only [h0t, Bool.true_or]))
         | (refine Az.merge ?_ (fun hc K' hK => ?_) ?_; rotate_left)
         | (refine cX (fun h => ?_) (fun h => ?_) <;> try exact Ah h)
         | (refine EV.exit rfl ?_)
         | (refine And.intro (by omega) ?_)
         | ((first | refine xm ?_ | refine xn ?_ | fail); (repeat first | refine nx ?_ | simp only [h0t, Bool.true_or]))
         | (exfalso; simp at hc; done)
         | exact false
         | fail
       refine EV.to ih4 ?_ (List.Sublist.refl _)
       exact eE
      ·obtain ⟨u, hu⟩ : ∃ u : Nat, Ae e c = u := ⟨(Ae e c).toNat, by omega⟩
       have hux := hfx c hc'
       rw [hu] at hfc hux hgo
       have huw : IntKind.u64.wrap (u : Int) = (u : Int) := Bc (by omega)
       have hun : ¬ ((u : Int) < 0) := by omega
       have hbit := V5 (b := u) hcl64 (by omega)
       have h0f : decide ((u : Int) < 0) = false := decide_eq_false hun
       rw [h0f, Bool.false_or, Int.toNat_natCast] at hgo
       repeat' first
         | refine EV.seq ?_
         | refine EV.block ?_
         | (refine EV.reg ?_; (conv => (arg 2; whnf)); (repeat first | refine nx ?_ | simp only [huw, hun, hbit, h0f, Bool.false_or, hgo]))
         | with_reducible assumption
         | (refine Az.merge ?_ (fun hc K' hK => ?_) ?_; rotate_left)
         | (refine cX (fun h => ?_) (fun h => ?_) <;> try exact Ah h)
         | (refine EV.exit rfl ?_)
         | (refine And.intro (by omega) ?_)
         | ((first | refine xm ?_ | refine xn ?_ | fail); (repeat first | refine nx ?_ | simp only [huw, hun, hbit, h0f, Bool.false_or, hgo]))
         | fail
       refine EV.to ih4 ?_ (List.Sublist.refl _)
       exact eE
     ·rw [if_neg hgo] at ih4
      have hgo' : (decide (Ae e c < 0) || !ch.testBit (Ae e c).toNat) = false := by simpa using hgo
      rw [Bool.or_eq_false_iff] at hgo'
      have h0 : ¬ Ae e c < 0 := of_decide_eq_false hgo'.1
      obtain ⟨u, hu⟩ : ∃ u : Nat, Ae e c = u := ⟨(Ae e c).toNat, by omega⟩
      have hux := hfx c hc'
      rw [hu] at hfc hux hgo'
      have huw : IntKind.u64.wrap (u : Int) = (u : Int) := Bc (by omega)
      have hun : ¬ ((u : Int) < 0) := by omega
      have hbit := V5 (b := u) hcl64 (by omega)
      have h0f : decide ((u : Int) < 0) = false := decide_eq_false hun
      have hgb := hgo'.2
      rw [Int.toNat_natCast] at hgb
      repeat' first
        | refine EV.seq ?_
        | refine EV.skip ?_
        | refine EV.block ?_
        | (refine EV.reg ?_; (conv => (arg 2; whnf)); (repeat first | refine nx ?_ | simp only [huw, hun, hbit, h0f, Bool.false_or, hgb]))
        | with_reducible assumption
        | (refine Az.merge ?_ (fun hc K' hK => ?_) ?_; rotate_left)
        | (refine cX (fun h => ?_) (fun h => ?_) <;> try exact Ah h)
        | (refine And.intro (by omega) ?_)
        | ((first | refine xm ?_ | refine xn ?_ | fail); (repeat first | refine nx ?_ | simp only [huw, hun, hbit, h0f, Bool.false_or, hgb]))
        | fail
      refine Ui (w := w) (c := c) hp hord hevs hw' hc' ?_
      refine W7 hp hq1 ?_
      repeat' first
        | refine EV.inBlock ?_
        | refine rg ?_
        | exact ⟨⟩
        | fail
      refine EV.to ih4 ?_ (List.Sublist.refl _)
      exact eE
    ·have hce : c = p.length := by omega
     subst hce
     refine EV.to ihk ?_ (List.Sublist.refl _)
     exact eE
 ·have hwe : w = p.length := by omega
  subst hwe
  have hul : (Af (mtW p e) p.length Bp).length = 16 := (loopMW_ok (e := e) hp _ (Nat.le_refl _) zero16_ok).len
  have hcl : Js p e = Af (mtW p e) p.length Bp := rfl
  rw [hcl]
  generalize Af (mtW p e) p.length Bp = q at *
  repeat' first
    | refine EV.seq ?_
    | refine rg ?_
    | (refine Exists.intro _ (And.intro (E8 (f := vw) hul) ?_); try refine nx ?_)
    | (refine xw ?_; refine nx ?_)
    | exact ⟨⟩
    | fail
  refine ⟨by subst hzs; simp, by rw [List.length_map, hul], Ah2 _, ?_⟩
  rw [Ad0 (by rw [List.length_map, hul]) (by subst hzs; rfl)]
  (refine rt Q80_ok ?_; try with_reducible exact ⟨⟩)
  exact ⟨_, Bz (T := 95) (cs := q.map vw) (by simp) (by rw [List.drop_zero, List.take_of_length_le (by rw [List.length_map, hul]; exact Nat.le_refl _)]) (by rw [List.length_map, hul]; exact Nat.le_refl _), rfl⟩
end
end Go.EV

namespace Go.EV
open Go.Proofs
inductive Kn (p : List Ev) (f : List Int) : Nat → Int → Prop
 | init {i : Nat} (hi : i < p.length) (hr : (evAt p i).reads = true) (h : Bs f i = -1) : Kn p f i 0
 | store {i w : Nat} (hi : i < p.length) (hr : (evAt p i).reads = true) (h : Bs f i = w) (hk : (evAt p w).op.kind = 1) : Kn p f i (evAt p w).op.v
 | cas {i w : Nat} (hi : i < p.length) (hr : (evAt p i).reads = true) (h : Bs f i = w) (hk : (evAt p w).op.kind = 3 ∨ (evAt p w).op.kind = 4) : Kn p f i (evAt p w).op.w
 | add {i w : Nat} {x : Int} (hi : i < p.length) (hr : (evAt p i).reads = true) (h : Bs f i = w) (hk : (evAt p w).op.kind = 2) (hw : Kn p f w x) : Kn p f i (IntKind.i64.wrap (x + (evAt p w).op.v))
theorem Kn.lt {p : List Ev} {f : List Int} {i : Nat} {x : Int} (h : Kn p f i x) : i < p.length ∧ (evAt p i).reads = true := by cases h <;> exact ⟨by assumption, by assumption⟩
theorem Kn.uniq {p : List Ev} {f : List Int} {i : Nat} {x y : Int} (h : Kn p f i x) (k : Kn p f i y) : x = y := by
 induction h generalizing y with
 | init hi hr h => cases k with
  | init => rfl
  | store _ _ h' => omega
  | cas _ _ h' => omega
  | add _ _ h' => omega
 | @store i w hi hr h hk => cases k with
  | init _ _ h' => omega
  | @store _ w' _ _ h' hk' =>
   have : w' = w := by omega
   subst this; rfl
  | @cas _ w' _ _ h' hk' =>
   have : w' = w := by omega
   subst this; omega
  | @add _ w' _ _ _ h' hk' =>
   have : w' = w := by omega
   subst this; omega
 | @cas i w hi hr h hk => cases k with
  | init _ _ h' => omega
  | @store _ w' _ _ h' hk' =>
   have : w' = w := by omega
   subst this; omega
  | @cas _ w' _ _ h' hk' =>
   have : w' = w := by omega
   subst this; rfl
  | @add _ w' _ _ _ h' hk' =>
   have : w' = w := by omega
   subst this; omega
 | @add i w x hi hr h hk hw ih => cases k with
  | init _ _ h' => omega
  | @store _ w' _ _ h' hk' =>
   have : w' = w := by omega
   subst this; omega
  | @cas _ w' _ _ h' hk' =>
   have : w' = w := by omega
   subst this; omega
  | @add _ w' y _ _ h' hk' hw' =>
   have : w' = w := by omega
   subst this; rw [ih hw']
theorem Kn.ends {p : List Ev} {f : List Int} {i : Nat} {x : Int} (h : Kn p f i x) (g : Nat → Nat) (h0 : g 0 = i) (hg : ∀ j, Bs f (g j) = (g (j + 1) : Nat) ∧ (evAt p (g (j + 1))).op.kind = 2) : False := by
 induction h generalizing g with
 | init hi hr h => have := (hg 0).1; rw [h0] at this; omega
 | @store i w hi hr h hk =>
  have h1 := hg 0
  rw [h0, Nat.zero_add] at h1
  have : w = g 1 := by omega
  rw [this] at hk; omega
 | @cas i w hi hr h hk =>
  have h1 := hg 0
  rw [h0, Nat.zero_add] at h1
  have : w = g 1 := by omega
  rw [this] at hk; omega
 | @add i w x hi hr h hk hw ih =>
  have h1 := hg 0
  rw [h0, Nat.zero_add] at h1
  exact ih (fun j => g (j + 1)) (by show g 1 = w; omega) (fun j => hg (j + 1))
theorem Sp {n m : Nat} {g : Nat → Nat} {F : Nat → Int} {Q : Nat → Prop} (hm : n ≤ m) (hl : ∀ j, j ≤ m → g j < n) (hg : ∀ j, j < m → F (g j) = (g (j + 1) : Nat) ∧ Q (g (j + 1))) : ∃ G : Nat → Nat, G 0 = g 0 ∧ ∀ j, F (G j) = (G (j + 1) : Nat) ∧ Q (G (j + 1)) := by
 -- two places alike
 have hdup : ∃ a b, a < b ∧ b ≤ m ∧ g a = g b := by
  apply Classical.byContradiction
  intro hno
  have hnd : ((List.range (m + 1)).map g).Nodup := by
   rw [List.nodup_iff_pairwise_ne, List.pairwise_map, List.pairwise_iff_getElem]
   intro i j hi hj hij he
   rw [List.length_range] at hi hj
   simp only [List.getElem_range] at he
   exact hno ⟨i, j, hij, by omega, he⟩
  have := Mp n _ hnd (fun x hx => by
   obtain ⟨i, hi, rfl⟩ := List.mem_map.1 hx
   rw [List.mem_range] at hi
   exact hl i (by omega))
  simp at this
  omega
 obtain ⟨a, b, hab, hbm, he⟩ := hdup
 -- place j, seen before b
 let red : Nat → Nat := fun j => if j < b then j else a + (j - a) % (b - a)
 have hred : ∀ j, red j < b := by
  intro j
  show (if j < b then j else a + (j - a) % (b - a)) < b
  split
  ·assumption
  ·have := Nat.mod_lt (j - a) (show 0 < b - a by omega); omega
 refine ⟨fun j => g (red j), by show g (red 0) = g 0; congr 1; show (if 0 < b then 0 else _) = 0; rw [if_pos (by omega)], fun j => ?_⟩
 have h1 := hg (red j) (by have := hred j; omega)
 have hs : g (red j + 1) = g (red (j + 1)) := by
  have hr := hred j
  by_cases hj : j + 1 < b
  ·have e1 : red j = j := by show (if j < b then j else _) = j; rw [if_pos (by omega)]
   have e2 : red (j + 1) = j + 1 := by show (if j + 1 < b then j + 1 else _) = j + 1; rw [if_pos hj]
   rw [e1, e2]
  ·have e2 : red (j + 1) = a + (j + 1 - a) % (b - a) := by show (if j + 1 < b then j + 1 else _) = _; rw [if_neg hj]
   have e1 : red j = a + (j - a) % (b - a) := by
    show (if j < b then j else _) = _
    split
    ·rw [Nat.mod_eq_of_lt (by omega)]; omega
    ·rfl
   rw [e1, e2]
   have hm1 := Nat.mod_lt (j - a) (show 0 < b - a by omega)
   have hmod : (j + 1 - a) % (b - a) = if (j - a) % (b - a) + 1 = b - a then 0 else (j - a) % (b - a) + 1 := by
    have e3 : j + 1 - a = (j - a) + 1 := by omega
    rw [e3]
    split
    ·rename_i h
     rw [Nat.add_mod, ← h]
     rw [h]
     by_cases h1 : b - a = 1
     ·rw [h1]; omega
     ·rw [Nat.mod_eq_of_lt (show 1 < b - a by omega), h, Nat.mod_self]
    ·rename_i h
     rw [Nat.add_mod]
     by_cases h1 : b - a = 1
     ·rw [h1] at h hm1; omega
     ·rw [Nat.mod_eq_of_lt (show 1 < b - a by omega), Nat.mod_eq_of_lt (by omega)]
   rw [hmod]
   split
   ·rename_i h
    have : a + (j - a) % (b - a) + 1 = b := by omega
    rw [this, Nat.add_zero]; exact he.symm
   ·rfl
 rw [hs] at h1
 exact h1
section
variable {p : List Ev} {f : List Int}
structure Wd.Knows (p : List Ev) (f : List Int) (s : Wd) : Prop where
 k : ∀ i, s.K i = true → Kn p f i (s.R i)
 t : ∀ i, s.T i = true → ((evAt p i).op.kind = 1 ∧ s.W i = (evAt p i).op.v) ∨ ((evAt p i).op.kind = 2 ∧ ∃ x, Kn p f i x ∧ s.W i = IntKind.i64.wrap (x + (evAt p i).op.v)) ∨ (((evAt p i).op.kind = 3 ∨ (evAt p i).op.kind = 4) ∧ s.W i = (evAt p i).op.w)
theorem Wd.Knows.read {s : Wd} (h : s.Knows p f) {i w : Nat} (hi : i < p.length) (hr : (evAt p i).reads = true) (hw : Bs f i = w) (ht : s.T w = true) : Kn p f i (s.W w) := by
 rcases h.t w ht with ⟨h1, h2⟩ | ⟨h1, x, h2, h3⟩ | ⟨h1, h2⟩
 ·rw [h2]; exact .store hi hr hw h1
 ·rw [h3]; exact .add hi hr hw h1 h2
 ·rw [h2]; exact .cas hi hr hw h1
theorem Sq (hf : Cs p f) {s : Wd} {i : Nat} (hi : i < p.length) (hinv : s.Inv p f) (h : s.Knows p f) : (B2 p f s i).Knows p f := by
 have hl := hinv.len
 have hik : i < s.k.length := by rw [hl.k]; exact hi
 have hir : i < s.r.length := by rw [hl.r]; exact hi
 unfold B2
 split
 ·rename_i hc
  simp only [Bool.and_eq_true, decide_eq_true_eq] at hc
  have hK : ∀ j, ({ s with k := s.k.set i true } : Wd).K j = if j = i then true else s.K j := fun j => A4 hik
  refine ⟨fun j hj => ?_, h.t⟩
  rw [hK] at hj
  by_cases hji : j = i
  ·subst hji
   show Kn p f j (s.R j)
   cases hk : s.K j with
   | true => exact h.k j hk
   | false => rw [hinv.n j hk]; exact .init hi hc.1 hc.2
  ·rw [if_neg hji] at hj; exact h.k j hj
 ·split
  ·rename_i hc hc2
   simp only [Bool.and_eq_true, decide_eq_true_eq, not_and] at hc hc2
   have hne : Bs f i ≠ -1 := hc hc2.1
   obtain ⟨w, hw⟩ : ∃ w : Nat, Bs f i = w := by
    rcases hf.2 i hi hc2.1 with h1 | ⟨h1, _⟩
    ·exact absurd h1 hne
    ·exact ⟨(Bs f i).toNat, by unfold Bs; omega⟩
   have hwf : (f[i]?.getD 0).toNat = w := by unfold Bs at hw; omega
   rw [hwf] at hc2
   rw [hwf]
   have hK : ∀ j, ({ s with r := s.r.set i (s.w[w]?.getD 0), k := s.k.set i true } : Wd).K j = if j = i then true else s.K j := fun j => A4 hik
   have hR : ∀ j, ({ s with r := s.r.set i (s.w[w]?.getD 0), k := s.k.set i true } : Wd).R j = if j = i then s.W w else s.R j := fun j => A4 hir
   refine ⟨fun j hj => ?_, h.t⟩
   rw [hK] at hj
   rw [hR]
   by_cases hji : j = i
   ·subst hji; rw [if_pos rfl]; exact h.read hi hc2.1 hw hc2.2
   ·rw [if_neg hji] at hj ⊢; exact h.k j hj
  ·exact h
theorem Qv {s : Wd} {i : Nat} (hi : i < p.length) (hl : s.Len p.length) (h : s.Knows p f) : (Cb p s i).Knows p f := by
 have hiw : i < s.w.length := by rw [hl.w]; exact hi
 have hit : i < s.t.length := by rw [hl.t]; exact hi
 have key : ∀ (x : Int) (b : Bool), (b = true → ((evAt p i).op.kind = 1 ∧ x = (evAt p i).op.v) ∨ ((evAt p i).op.kind = 2 ∧ ∃ y, Kn p f i y ∧ x = IntKind.i64.wrap (y + (evAt p i).op.v)) ∨ (((evAt p i).op.kind = 3 ∨ (evAt p i).op.kind = 4) ∧ x = (evAt p i).op.w)) →
   ({ s with w := s.w.set i x, t := s.t.set i b } : Wd).Knows p f := by
  intro x b h2
  have hT : ∀ j, ({ s with w := s.w.set i x, t := s.t.set i b } : Wd).T j = if j = i then b else s.T j := fun j => A4 hit
  have hW : ∀ j, ({ s with w := s.w.set i x, t := s.t.set i b } : Wd).W j = if j = i then x else s.W j := fun j => A4 hiw
  refine ⟨h.k, fun j hj => ?_⟩
  rw [hT] at hj
  rw [hW]
  by_cases hji : j = i
  ·subst hji; rw [if_pos rfl] at hj ⊢; exact h2 hj
  ·rw [if_neg hji] at hj ⊢; exact h.t j hj
 unfold Cb
 split
 ·rename_i hk; exact key _ _ fun _ => .inl ⟨hk, rfl⟩
 ·split
  ·rename_i hk; exact key _ _ fun hb => .inr (.inl ⟨hk, _, h.k i hb, rfl⟩)
  ·split
   ·rename_i hk; exact key _ _ fun _ => .inr (.inr ⟨hk, rfl⟩)
   ·exact h
theorem Nt (hf : Cs p f) {s : Wd} (hinv : s.Inv p f) (h : s.Knows p f) : ∀ m, m ≤ p.length → (Co p f s m).Knows p f
 | 0, _ => h
 | m + 1, hm => by
  have ih := Nt hf hinv h m (by omega)
  have hi := (E5 hf hinv m (by omega)).1
  exact Qv (by omega) (Pc hf (i := m) (by omega) hi).1.len (Sq hf (by omega) hi ih)
theorem K8 (hf : Cs p f) : ∀ k, (Bb p f k).Knows p f
 | 0 => by
  have hT : ∀ i, (wd0 p.length).T i = false := fun i => by simp only [Wd.T, wd0, List.getElem?_replicate]; split <;> rfl
  have hK : ∀ i, (wd0 p.length).K i = false := fun i => by simp only [Wd.K, wd0, List.getElem?_replicate]; split <;> rfl
  exact ⟨fun i h => absurd ((hK i).symm.trans h) (by decide), fun i h => absurd ((hT i).symm.trans h) (by decide)⟩
 | k + 1 => Nt hf (Dz hf k) (K8 hf k) _ (Nat.le_refl _)
theorem K9 (hf : Cs p f) (hs : Lj p f) : ∀ (m i : Nat), i < p.length → (evAt p i).reads = true → (Bb p f (m + 1)).K i = false →
  ∃ g : Nat → Nat, g 0 = i ∧ (∀ j, j ≤ m → g j < p.length) ∧ ∀ j, j < m → Bs f (g j) = (g (j + 1) : Nat) ∧ (evAt p (g (j + 1))).op.kind = 2
 | 0, i, hi, _, _ => ⟨fun _ => i, rfl, fun _ _ => hi, fun j hj => by omega⟩
 | m + 1, i, hi, hr, hk => by
  obtain ⟨_, _, h3, _, _⟩ := E5 hf (Dz hf (m + 1)) p.length (Nat.le_refl _)
  obtain ⟨_, _, _, k4, _⟩ := E5 hf (Dz hf m) p.length (Nat.le_refl _)
  have hn : Bs f i ≠ -1 := fun e => by
   have := h3 i hi ⟨hr, .inl e⟩
   rw [show Co p f (Bb p f (m + 1)) p.length = Bb p f (m + 1 + 1) from rfl, hk] at this; cases this
  obtain ⟨w, hw⟩ : ∃ w : Nat, Bs f i = w := by
   rcases hf.2 i hi hr with h1 | ⟨h1, _⟩
   ·exact absurd h1 hn
   ·exact ⟨(Bs f i).toNat, by unfold Bs; omega⟩
  obtain ⟨hwl, hk1, hk4⟩ := hs i w hi hr hw
  have hT : (Bb p f (m + 1)).T w = false := by
   cases ht : (Bb p f (m + 1)).T w with
   | false => rfl
   | true =>
    have := h3 i hi ⟨hr, .inr ⟨w, hw, ht⟩⟩
    rw [show Co p f (Bb p f (m + 1)) p.length = Bb p f (m + 1 + 1) from rfl, hk] at this; cases this
  have hk2 : (evAt p w).op.kind = 2 := by
   apply Decidable.byContradiction; intro h2
   have := k4 w hwl (by omega)
   rw [show Co p f (Bb p f m) p.length = Bb p f (m + 1) from rfl, hT] at this; cases this
  have hKw : (Bb p f (m + 1)).K w = false := by
   cases ht : (Bb p f (m + 1)).K w with
   | false => rfl
   | true =>
    have := k4 w hwl (.inr (.inl ⟨hk2, ht⟩))
    rw [show Co p f (Bb p f m) p.length = Bb p f (m + 1) from rfl, hT] at this; cases this
  obtain ⟨g, g1, g2, g3⟩ := K9 hf hs m w hwl (by simp [Ev.reads, hk2]) hKw
  refine ⟨fun j => if j = 0 then i else g (j - 1), rfl, fun j hj => ?_, fun j hj => ?_⟩
  ·by_cases h0 : j = 0
   ·simp [h0, hi]
   ·simp only [h0, if_false]; exact g2 _ (by omega)
  ·by_cases h0 : j = 0
   ·subst h0; simpa [g1] using ⟨hw, hk2⟩
   ·have := g3 (j - 1) (by omega)
    rw [show j - 1 + 1 = j by omega] at this
    simpa [h0] using this
theorem Qw (hf : Cs p f) (hs : Lj p f) {i : Nat} (hi : i < p.length) (hr : (evAt p i).reads = true) : ((Ap p f).K i = true ↔ ∃ x, Kn p f i x) ∧ ∀ x, Kn p f i x → (Ap p f).R i = x := by
 have hk := K8 hf (p.length + 1)
 have hall : ∀ x, Kn p f i x → (Ap p f).K i = true := by
  intro x hx
  cases h : (Ap p f).K i with
  | true => rfl
  | false =>
   exfalso
   obtain ⟨g, g1, g2, g3⟩ := K9 hf hs p.length i hi hr h
   obtain ⟨G, e1, e2⟩ := Sp (F := Bs f) (Q := fun w => (evAt p w).op.kind = 2) (Nat.le_refl _) g2 g3
   exact hx.ends G (e1.trans g1) e2
 refine ⟨⟨fun h => ⟨_, hk.k i h⟩, fun ⟨x, hx⟩ => hall x hx⟩, fun x hx => (hk.k i (hall x hx)).uniq hx⟩
end
def Qx (p : List Ev) (e : Exec) : Prop := ∀ i x, Kn p e.frm i x →
 ((evAt p i).op.kind = 3 → (Bx e.dn i = true ↔ x = (evAt p i).op.v)) ∧ ((evAt p i).op.kind = 4 → Bx e.dn i = true → x = (evAt p i).op.v)
theorem Cl9 {p : List Ev} {e : Exec} (hs : Shape p e) (hac : Y0 p e) {i : Nat} (hi : i < p.length) (hr : (evAt p i).reads = true) : Kn p e.frm i ((Ap p e.frm).R i) := by
 have h := T9 hs.fromOk hs.srcOk hac hi hr
 obtain ⟨x, hx⟩ := (Qw hs.fromOk hs.srcOk hi hr).1.1 h
 rw [(Qw hs.fromOk hs.srcOk hi hr).2 x hx]; exact hx
open Classical in
noncomputable def Ct (p : List Ev) (e : Exec) : Int :=
 if Shape p e ∧ Qx p e then (if Ia p e then 2 else if Qh p e then 3 else if Kx p e then 0 else 4) else 1
end Go.EV

namespace Go.EV
open Go.Proofs
structure Rk where
 r : List Int
 l : List Int
 k : List Bool
 f : List Bool
def Rk.R (s : Rk) (i : Nat) : Int := s.r[i]?.getD 0
def Rk.L (s : Rk) (i : Nat) : Int := s.l[i]?.getD 0
def Rk.K (s : Rk) (i : Nat) : Bool := s.k[i]?.getD false
def Rk.F (s : Rk) (i : Nat) : Bool := s.f[i]?.getD false
structure Rk.Len (s : Rk) (n : Nat) : Prop where
 r : s.r.length = n
 l : s.l.length = n
 k : s.k.length = n
 f : s.f.length = n
def Ps (p : List Ev) (i : Nat) (s : Rk) : Rk :=
 { s with f := s.f.set i (decide ((evAt p i).op.kind ≠ 2)), l := if (evAt p i).op.kind = 1 then s.l.set i (evAt p i).op.v else if (evAt p i).op.kind = 3 ∨ (evAt p i).op.kind = 4 then s.l.set i (evAt p i).op.w else s.l }
def rk0 (p : List Ev) : Rk := Af (Ps p) p.length ⟨List.replicate p.length 0, List.replicate p.length 0, List.replicate p.length false, List.replicate p.length false⟩
def Bt (f : List Int) (i : Nat) (s : Rk) : Rk := { s with k := s.k.set i true, r := if 0 ≤ Bs f i then s.r.set i (s.l[(Bs f i).toNat]?.getD 0) else s.r }
def Fm (p : List Ev) (i : Nat) (s : Rk) : Rk := if (evAt p i).op.kind = 2 then { s with l := s.l.set i (IntKind.i64.wrap (s.r[i]?.getD 0 + (evAt p i).op.v)), f := s.f.set i true } else s
def Cn (p : List Ev) (f : List Int) (i : Nat) (s : Rk) : Rk :=
 if s.K i || (decide (0 ≤ Bs f i) && !s.F (Bs f i).toNat) then s else Fm p i (Bt f i s)
def Ib (p : List Ev) (f : List Int) (s : Rk) : Rk := Af (Cn p f) p.length s
def Bl (p : List Ev) (f : List Int) : Rk := Af (fun _ s => Ib p f s) (p.length + 1) (rk0 p)
section
variable {p : List Ev} {f : List Int}
structure Rk.Ok (p : List Ev) (f : List Int) (s : Rk) : Prop where
 len : s.Len p.length
 out : ∀ i, i < p.length → (evAt p i).reads = false → s.R i = 0
 kn : ∀ i, i < p.length → (evAt p i).reads = true → s.K i = true → Kn p f i (s.R i)
 no : ∀ i, s.K i = false → s.R i = 0
 st : ∀ i, i < p.length → (evAt p i).op.kind = 1 → s.F i = true ∧ s.L i = (evAt p i).op.v
 cs : ∀ i, i < p.length → ((evAt p i).op.kind = 3 ∨ (evAt p i).op.kind = 4) → s.F i = true ∧ s.L i = (evAt p i).op.w
 ad : ∀ i, i < p.length → (evAt p i).op.kind = 2 → (s.F i = true ↔ s.K i = true) ∧ (s.K i = true → s.L i = IntKind.i64.wrap (s.R i + (evAt p i).op.v))
theorem V7 (p : List Ev) : ∀ m, m ≤ p.length → (Af (Ps p) m ⟨List.replicate p.length 0, List.replicate p.length 0, List.replicate p.length false, List.replicate p.length false⟩).Len p.length ∧
  (∀ i, (Af (Ps p) m ⟨List.replicate p.length 0, List.replicate p.length 0, List.replicate p.length false, List.replicate p.length false⟩).R i = 0) ∧
  (∀ i, (Af (Ps p) m ⟨List.replicate p.length 0, List.replicate p.length 0, List.replicate p.length false, List.replicate p.length false⟩).K i = false) ∧
  (∀ i, (Af (Ps p) m ⟨List.replicate p.length 0, List.replicate p.length 0, List.replicate p.length false, List.replicate p.length false⟩).F i = (decide (i < m) && decide ((evAt p i).op.kind ≠ 2))) ∧
  (∀ i, i < m → ((evAt p i).op.kind = 1 → (Af (Ps p) m ⟨List.replicate p.length 0, List.replicate p.length 0, List.replicate p.length false, List.replicate p.length false⟩).L i = (evAt p i).op.v) ∧
   (((evAt p i).op.kind = 3 ∨ (evAt p i).op.kind = 4) → (Af (Ps p) m ⟨List.replicate p.length 0, List.replicate p.length 0, List.replicate p.length false, List.replicate p.length false⟩).L i = (evAt p i).op.w))
 | 0, _ => by
  refine ⟨⟨by simp [Af], by simp [Af], by simp [Af], by simp [Af]⟩, fun i => ?_, fun i => ?_, fun i => ?_, fun i h => by omega⟩
  ·simp only [Af, Rk.R, List.getElem?_replicate]; split <;> rfl
  ·simp only [Af, Rk.K, List.getElem?_replicate]; split <;> rfl
  ·simp only [Af, Rk.F, List.getElem?_replicate]
   have : decide (i < 0) = false := decide_eq_false (Nat.not_lt_zero _)
   rw [this, Bool.false_and]; split <;> rfl
 | m + 1, hm => by
  obtain ⟨hl, h1, h2, h3, h4⟩ := V7 p m (by omega)
  rw [Af]
  generalize Af (Ps p) m ⟨List.replicate p.length 0, List.replicate p.length 0, List.replicate p.length false, List.replicate p.length false⟩ = s at hl h1 h2 h3 h4 ⊢
  have hfl : m < s.f.length := by rw [hl.f]; omega
  have hll : m < s.l.length := by rw [hl.l]; omega
  refine ⟨⟨hl.r, ?_, hl.k, by simp [Ps, hl.f]⟩, h1, h2, fun i => ?_, fun i hi => ?_⟩
  ·unfold Ps; dsimp only; split
   ·simp [hl.l]
   ·split <;> simp [hl.l]
  ·show (s.f.set m (decide ((evAt p m).op.kind ≠ 2)))[i]?.getD false = _
   rw [A4 hfl]
   by_cases him : i = m
   ·subst him; simp
   ·rw [if_neg him]
    have : decide (i < m + 1) = decide (i < m) := by rw [decide_eq_decide]; omega
    rw [this]; exact h3 i
  ·have hL : (Ps p m s).L i = if i = m then (if (evAt p m).op.kind = 1 then (evAt p m).op.v else if (evAt p m).op.kind = 3 ∨ (evAt p m).op.kind = 4 then (evAt p m).op.w else s.L i) else s.L i := by
    unfold Ps Rk.L
    dsimp only
    split
    ·rw [A4 hll]
    ·split
     ·rw [A4 hll]
     ·split <;> rfl
   rw [hL]
   by_cases him : i = m
   ·subst him
    rw [if_pos rfl]
    refine ⟨fun hk => by rw [if_pos hk], fun hk => by rw [if_neg (by omega), if_pos hk]⟩
   ·rw [if_neg him]; exact h4 i (by omega)
theorem rk0_ok (p : List Ev) (f : List Int) : (rk0 p).Ok p f := by
 obtain ⟨hl, h1, h2, h3, h4⟩ := V7 p p.length (Nat.le_refl _)
 refine ⟨hl, fun i _ _ => h1 i, fun i _ _ h => ?_, fun i _ => h1 i, fun i hi hk => ⟨?_, (h4 i hi).1 hk⟩, fun i hi hk => ⟨?_, (h4 i hi).2 hk⟩, fun i hi hk => ⟨?_, fun h => ?_⟩⟩
 ·have := h2 i
  rw [show (rk0 p).K i = false from this] at h; cases h
 ·show (rk0 p).F i = true
  have := h3 i
  rw [show (rk0 p).F i = _ from this, decide_eq_true hi]; simp [hk]
 ·show (rk0 p).F i = true
  have := h3 i
  rw [show (rk0 p).F i = _ from this, decide_eq_true hi]; simp; omega
 ·have e1 : (rk0 p).K i = false := h2 i
  have e2 : (rk0 p).F i = _ := h3 i
  rw [e1, e2]; simp [hk]
 ·have e1 : (rk0 p).K i = false := h2 i
  rw [e1] at h; cases h
theorem rkStep_ok (hf : Cs p f) (hs : Lj p f) (hout : ∀ i, i < p.length → (evAt p i).reads = false → Bs f i < 0) {s : Rk} {i : Nat} (hi : i < p.length) (h : s.Ok p f) : (Cn p f i s).Ok p f := by
 unfold Cn
 split
 ·exact h
 rename_i hc
 simp only [Bool.or_eq_true, Bool.and_eq_true, decide_eq_true_eq, Bool.not_eq_true', not_or, not_and, Bool.not_eq_true] at hc
 obtain ⟨hk0, hfix⟩ := hc
 have hl := h.len
 have hik : i < s.k.length := by rw [hl.k]; exact hi
 have hir : i < s.r.length := by rw [hl.r]; exact hi
 -- what is read
 obtain ⟨x, hx, hxk⟩ : ∃ x, (Bt f i s).r = (if 0 ≤ Bs f i then s.r.set i x else s.r) ∧ ((evAt p i).reads = true → Kn p f i (if 0 ≤ Bs f i then x else s.R i)) := by
  refine ⟨s.l[(Bs f i).toNat]?.getD 0, rfl, fun hr => ?_⟩
  rcases hf.2 i hi hr with h0 | ⟨h0, h1⟩
  ·have h0' : Bs f i = -1 := h0
   rw [if_neg (by omega), h.no i hk0]; exact .init hi hr h0'
  ·have h0' : 0 ≤ Bs f i := h0
   rw [if_pos h0']
   obtain ⟨w, hw⟩ : ∃ w : Nat, Bs f i = w := ⟨(Bs f i).toNat, by omega⟩
   have hwn : (Bs f i).toNat = w := by omega
   obtain ⟨hwl, k1, k4⟩ := hs i w hi hr hw
   have hF : s.F w = true := by
    have := hfix h0'
    rw [hwn] at this
    simpa using this
   rw [hwn]
   show Kn p f i (s.L w)
   by_cases q1 : (evAt p w).op.kind = 1
   ·rw [(h.st w hwl q1).2]; exact .store hi hr hw q1
   ·by_cases q2 : (evAt p w).op.kind = 2
    ·obtain ⟨a1, a2⟩ := h.ad w hwl q2
     have hKw := a1.1 hF
     rw [a2 hKw]; exact .add hi hr hw q2 (h.kn w hwl (by simp [Ev.reads, q2]) hKw)
    ·rw [(h.cs w hwl (by omega)).2]; exact .cas hi hr hw (by omega)
 have hR1 : ∀ j, (Bt f i s).R j = if j = i ∧ 0 ≤ Bs f i then x else s.R j := by
  intro j
  unfold Rk.R
  rw [hx]
  by_cases h0 : 0 ≤ Bs f i
  ·rw [if_pos h0, A4 hir]
   by_cases hji : j = i
   ·rw [if_pos hji, if_pos ⟨hji, h0⟩]
   ·rw [if_neg hji, if_neg (fun h => hji h.1)]
  ·rw [if_neg h0, if_neg (fun h => h0 h.2)]
 have hK1 : ∀ j, (Bt f i s).K j = if j = i then true else s.K j := fun j => A4 hik
 have hL1 : (Bt f i s).l = s.l := rfl
 have hF1 : (Bt f i s).f = s.f := rfl
 have hlen1 : (Bt f i s).Len p.length := ⟨by rw [hx]; split <;> simp [hl.r], hl.l, by simp [Bt, hl.k], hl.f⟩
 have hne : ∀ j, j ≠ i → (Bt f i s).R j = s.R j := fun j hj => by rw [hR1, if_neg (fun h => hj h.1)]
 have hout1 : ∀ j, j < p.length → (evAt p j).reads = false → (Bt f i s).R j = 0 := fun j hj hr => by
  rw [hR1]
  split
  ·rename_i hc; have := hout j hj hr; rw [hc.1] at this; omega
  ·exact h.out j hj hr
 have hkn1 : ∀ j, j < p.length → (evAt p j).reads = true → (Bt f i s).K j = true → Kn p f j ((Bt f i s).R j) := fun j hj hr hkj => by
  by_cases hji : j = i
  ·subst hji
   have := hxk hr
   rw [hR1]
   by_cases h0 : 0 ≤ Bs f j
   ·rw [if_pos h0] at this; rw [if_pos ⟨rfl, h0⟩]; exact this
   ·rw [if_neg h0] at this; rw [if_neg (fun h => h0 h.2)]; exact this
  ·rw [hne j hji]; rw [hK1, if_neg hji] at hkj; exact h.kn j hj hr hkj
 have hno1 : ∀ j, (Bt f i s).K j = false → (Bt f i s).R j = 0 := fun j hkj => by
  rw [hK1] at hkj
  by_cases hji : j = i
  ·rw [if_pos hji] at hkj; cases hkj
  ·rw [if_neg hji] at hkj; rw [hne j hji]; exact h.no j hkj
 unfold Fm
 split
 ·rename_i hk2
  have hil : i < (Bt f i s).l.length := by rw [hlen1.l]; exact hi
  have hif : i < (Bt f i s).f.length := by rw [hlen1.f]; exact hi
  generalize hs1 : Bt f i s = s1 at *
  have hL2 : ∀ j, ({ s1 with l := s1.l.set i (IntKind.i64.wrap (s1.r[i]?.getD 0 + (evAt p i).op.v)), f := s1.f.set i true } : Rk).L j = if j = i then IntKind.i64.wrap (s1.R i + (evAt p i).op.v) else s.L j := fun j => by
   show (s1.l.set i _)[j]?.getD 0 = _
   rw [A4 hil]; split
   ·rfl
   ·show s1.l[j]?.getD 0 = _; rw [hL1]; rfl
  have hF2 : ∀ j, ({ s1 with l := s1.l.set i (IntKind.i64.wrap (s1.r[i]?.getD 0 + (evAt p i).op.v)), f := s1.f.set i true } : Rk).F j = if j = i then true else s.F j := fun j => by
   show (s1.f.set i true)[j]?.getD false = _
   rw [A4 hif]; split
   ·rfl
   ·show s1.f[j]?.getD false = _; rw [hF1]; rfl
  refine ⟨⟨hlen1.r, by simp [hlen1.l], hlen1.k, by simp [hlen1.f]⟩, hout1, hkn1, hno1, fun j hj hkj => ?_, fun j hj hkj => ?_, fun j hj hkj => ?_⟩
  ·rw [hF2, hL2, if_neg (fun e => by subst e; omega), if_neg (fun e => by subst e; omega)]; exact h.st j hj hkj
  ·rw [hF2, hL2, if_neg (fun e => by subst e; omega), if_neg (fun e => by subst e; omega)]; exact h.cs j hj hkj
  ·rw [hF2, hL2]
   show ((if j = i then true else s.F j) = true ↔ s1.K j = true) ∧ (s1.K j = true → _ = IntKind.i64.wrap (s1.R j + _))
   by_cases hji : j = i
   ·subst hji
    rw [if_pos rfl, if_pos rfl, hK1, if_pos rfl]
    exact ⟨Iff.rfl, fun _ => rfl⟩
   ·rw [if_neg hji, if_neg hji, hK1, if_neg hji, hne j hji]
    exact h.ad j hj hkj
 ·rename_i hk2
  have hL2 : ∀ j, (Bt f i s).L j = s.L j := fun j => by unfold Rk.L; rw [hL1]
  have hF2 : ∀ j, (Bt f i s).F j = s.F j := fun j => by unfold Rk.F; rw [hF1]
  refine ⟨hlen1, hout1, hkn1, hno1, fun j hj hkj => ?_, fun j hj hkj => ?_, fun j hj hkj => ?_⟩
  ·rw [hF2, hL2]; exact h.st j hj hkj
  ·rw [hF2, hL2]; exact h.cs j hj hkj
  ·have hji : j ≠ i := fun e => by subst e; exact hk2 hkj
   rw [hF2, hL2, hK1, if_neg hji, hne j hji]
   exact h.ad j hj hkj
theorem Sr {s : Rk} {i x : Nat} (hl : i < s.k.length) (h : s.K x = true) : (Cn p f i s).K x = true := by
 unfold Cn
 split
 ·exact h
 ·have h1 : (Bt f i s).K x = true := by
   show (s.k.set i true)[x]?.getD false = true
   rw [A4 hl]; split
   ·rfl
   ·exact h
  unfold Fm
  split
  ·exact h1
  ·exact h1
theorem Uk {s : Rk} {i : Nat} (hl : i < s.k.length) (h : Bs f i < 0 ∨ s.F (Bs f i).toNat = true) : (Cn p f i s).K i = true := by
 unfold Cn
 split
 ·rename_i hc
  simp only [Bool.or_eq_true, Bool.and_eq_true, decide_eq_true_eq, Bool.not_eq_true'] at hc
  rcases hc with hc | ⟨h0, h1⟩
  ·exact hc
  ·rcases h with h | h
   ·omega
   ·rw [h] at h1; cases h1
 ·have h1 : (Bt f i s).K i = true := by
   show (s.k.set i true)[i]?.getD false = true
   rw [A4 hl, if_pos rfl]
  unfold Fm
  split
  ·exact h1
  ·exact h1
theorem W8 {s : Rk} {i x : Nat} (hl : i < s.f.length) (h : s.F x = true) : (Cn p f i s).F x = true := by
 unfold Cn
 split
 ·exact h
 ·have h1 : (Bt f i s).F x = true := h
  unfold Fm
  split
  ·show ((Bt f i s).f.set i true)[x]?.getD false = true
   rw [A4 (by exact hl)]; split
   ·rfl
   ·exact h1
  ·exact h1
theorem Lr (hf : Cs p f) (hs : Lj p f) (hout : ∀ i, i < p.length → (evAt p i).reads = false → Bs f i < 0) {s : Rk} (h : s.Ok p f) : ∀ m, m ≤ p.length → (Af (Cn p f) m s).Ok p f ∧
  (∀ x, s.K x = true → (Af (Cn p f) m s).K x = true) ∧ (∀ x, s.F x = true → (Af (Cn p f) m s).F x = true) ∧
  (∀ i, i < m → (Bs f i < 0 ∨ s.F (Bs f i).toNat = true) → (Af (Cn p f) m s).K i = true)
 | 0, _ => ⟨h, fun _ h => h, fun _ h => h, fun i hi => by omega⟩
 | m + 1, hm => by
  obtain ⟨h1, h2, h3, h4⟩ := Lr hf hs hout h m (by omega)
  have hk : m < (Af (Cn p f) m s).k.length := by rw [h1.len.k]; omega
  have hff : m < (Af (Cn p f) m s).f.length := by rw [h1.len.f]; omega
  refine ⟨rkStep_ok hf hs hout (by omega) h1, fun x hx => Sr hk (h2 x hx), fun x hx => W8 hff (h3 x hx), fun i hi hx => ?_⟩
  by_cases him : i = m
  ·subst him
   exact Uk hk (hx.imp id (h3 _))
  ·exact Sr hk (h4 i (by omega) hx)
theorem rkAll_ok (hf : Cs p f) (hs : Lj p f) (hout : ∀ i, i < p.length → (evAt p i).reads = false → Bs f i < 0) : ∀ k, (Af (fun _ s => Ib p f s) k (rk0 p)).Ok p f
 | 0 => rk0_ok p f
 | k + 1 => (Lr hf hs hout (rkAll_ok hf hs hout k) _ (Nat.le_refl _)).1
theorem Pt (hf : Cs p f) (hs : Lj p f) (hout : ∀ i, i < p.length → (evAt p i).reads = false → Bs f i < 0) : ∀ (m i : Nat), i < p.length → (evAt p i).reads = true → (Af (fun _ s => Ib p f s) (m + 1) (rk0 p)).K i = false →
  ∃ g : Nat → Nat, g 0 = i ∧ (∀ j, j ≤ m → g j < p.length) ∧ ∀ j, j < m → Bs f (g j) = (g (j + 1) : Nat) ∧ (evAt p (g (j + 1))).op.kind = 2
 | 0, i, hi, _, _ => ⟨fun _ => i, rfl, fun _ _ => hi, fun j hj => by omega⟩
 | m + 1, i, hi, hr, hk => by
  have hok := rkAll_ok hf hs hout (m + 1)
  obtain ⟨_, _, _, h4⟩ := Lr hf hs hout hok _ (Nat.le_refl _)
  have hno : ¬ (Bs f i < 0 ∨ (Af (fun _ s => Ib p f s) (m + 1) (rk0 p)).F (Bs f i).toNat = true) := fun h => by
   have : (Af (fun _ s => Ib p f s) (m + 1 + 1) (rk0 p)).K i = true := h4 i hi h
   rw [hk] at this; cases this
  have h0 : ¬ Bs f i < 0 := fun h => hno (.inl h)
  obtain ⟨w, hw⟩ : ∃ w : Nat, Bs f i = w := ⟨(Bs f i).toNat, by omega⟩
  have hwn : (Bs f i).toNat = w := by omega
  have hF : ¬ (Af (fun _ s => Ib p f s) (m + 1) (rk0 p)).F w = true := fun h => hno (.inr (by rw [hwn]; exact h))
  obtain ⟨hwl, k1, k4⟩ := hs i w hi hr hw
  have hk2 : (evAt p w).op.kind = 2 := by
   apply Decidable.byContradiction; intro h2
   by_cases q1 : (evAt p w).op.kind = 1
   ·exact hF (hok.st w hwl q1).1
   ·exact hF (hok.cs w hwl (by omega)).1
  have hKw : (Af (fun _ s => Ib p f s) (m + 1) (rk0 p)).K w = false := by
   cases hq : (Af (fun _ s => Ib p f s) (m + 1) (rk0 p)).K w with
   | false => rfl
   | true => exact absurd ((hok.ad w hwl hk2).1.2 hq) hF
  obtain ⟨g, g1, g2, g3⟩ := Pt hf hs hout m w hwl (by simp [Ev.reads, hk2]) hKw
  refine ⟨fun j => if j = 0 then i else g (j - 1), rfl, fun j hj => ?_, fun j hj => ?_⟩
  ·by_cases h0 : j = 0
   ·simp [h0, hi]
   ·simp only [h0, if_false]; exact g2 _ (by omega)
  ·by_cases h0 : j = 0
   ·subst h0; simpa [g1] using ⟨hw, hk2⟩
   ·have := g3 (j - 1) (by omega)
    rw [show j - 1 + 1 = j by omega] at this
    simpa [h0] using this
theorem Et2 (hf : Cs p f) (hs : Lj p f) (hout : ∀ i, i < p.length → (evAt p i).reads = false → Bs f i < 0) {i : Nat} (hi : i < p.length) (hr : (evAt p i).reads = true) : ((Bl p f).K i = true ↔ ∃ x, Kn p f i x) ∧ ∀ x, Kn p f i x → (Bl p f).R i = x := by
 have hok := rkAll_ok hf hs hout (p.length + 1)
 have hall : ∀ x, Kn p f i x → (Bl p f).K i = true := by
  intro x hx
  cases h : (Bl p f).K i with
  | true => rfl
  | false =>
   exfalso
   obtain ⟨g, g1, g2, g3⟩ := Pt hf hs hout p.length i hi hr h
   obtain ⟨G, e1, e2⟩ := Sp (F := Bs f) (Q := fun w => (evAt p w).op.kind = 2) (Nat.le_refl _) g2 g3
   exact hx.ends G (e1.trans g1) e2
 exact ⟨⟨fun h => ⟨_, hok.kn i hi hr h⟩, fun ⟨x, hx⟩ => hall x hx⟩, fun x hx => (hok.kn i hi hr (hall x hx)).uniq hx⟩
theorem Cm0 (hf : Cs p f) (hs : Lj p f) (hout : ∀ i, i < p.length → (evAt p i).reads = false → Bs f i < 0) {i : Nat} (hi : i < p.length) (hr : (evAt p i).reads = false) : (Bl p f).K i = true :=
 (Lr hf hs hout (rkAll_ok hf hs hout p.length) _ (Nat.le_refl _)).2.2.2 i hi (.inl (hout i hi hr))
end
theorem Shape.outLt {p : List Ev} {e : Exec} (h : Shape p e) : ∀ i, i < p.length → (evAt p i).reads = false → Bs e.frm i < 0 := fun i hi hr => by
 have : Bs e.frm i = -2 := h.out i hi hr
 omega
end Go.EV

namespace Go.EV
open Go.Proofs
structure EvR (p : List Ev) (e : Exec) (a : Nat) : Prop where
 out : Eg (evAt p a).op = false → Ae e a = -2
 src : Eg (evAt p a).op = true → -1 ≤ Ae e a ∧ Ae e a < p.length
 do1 : (evAt p a).op.kind = 1 ∨ (evAt p a).op.kind = 2 → Bx e.dn a = true
 do0 : Cq (evAt p a).op = false → Bx e.dn a = false
 src2 : Eg (evAt p a).op = true → 0 ≤ Ae e a → Bx e.dn (Ae e a).toNat = true ∧ (evAt p (Ae e a).toNat).op.loc = (evAt p a).op.loc ∧ Cq (evAt p (Ae e a).toNat).op = true
theorem Gq {o : OpV} : Cq o = true ↔ 1 ≤ o.kind ∧ o.kind ≤ 4 := by simp [Cq]
theorem Shape.evR {p : List Ev} {e : Exec} (hk : ∀ i, i < p.length → 0 ≤ (evAt p i).op.kind ∧ (evAt p i).op.kind ≤ 5) (h : Shape p e) {a : Nat} (ha : a < p.length) : EvR p e a := by
 have hr := Jt (e := evAt p a) (hk a ha)
 refine ⟨fun h1 => h.out a ha (by rw [← hr]; exact h1), fun h1 => ?_, h.dn1 a ha, fun h1 => ?_, fun h1 h0 => ?_⟩
 ·rcases h.src a ha (by rw [← hr]; exact h1) with h2 | ⟨w, h2, h3, _⟩
  ·omega
  ·omega
 ·cases hd : Bx e.dn a with
  | false => rfl
  | true => rw [Gq.2 (h.dn0 a ha hd)] at h1; cases h1
 ·rcases h.src a ha (by rw [← hr]; exact h1) with h2 | ⟨w, h2, h3, h4, h5⟩
  ·omega
  ·rw [h2, Int.toNat_natCast]
   exact ⟨h4, h5, Gq.2 (h.dn0 w h3 h4)⟩
theorem Ss {e : Exec} (h : e.ord.length = 3) : ∃ a b c, e.ord = [a, b, c] := by
 match hq : e.ord, h with
 | [a, b, c], _ => exact ⟨a, b, c, rfl⟩
theorem Gr (p : List Ev) : (Bi p).Nodup := Hl (Fv p)
theorem D5 (p : List Ev) (dn : List Bool) (k : Int) : (Ar p dn k).Nodup := Hl (D2 p dn k)
theorem Shape.nodup {p : List Ev} {e : Exec} (h : Shape p e) : (e.fen ++ e.ord.flatten).Nodup := by
 obtain ⟨a, b, c, he⟩ := Ss h.ol
 have ha := h.ord 0 (by decide)
 have hb := h.ord 1 (by decide)
 have hc := h.ord 2 (by decide)
 have hf := h.fen
 rw [he] at ha hb hc ⊢
 simp only [List.getElem?_cons_zero, List.getElem?_cons_succ, Option.getD_some] at ha hb hc
 have da := ha.nodup_iff.2 (D5 _ _ _)
 have db := hb.nodup_iff.2 (D5 _ _ _)
 have dc := hc.nodup_iff.2 (D5 _ _ _)
 have df := hf.nodup_iff.2 (Gr _)
 have hstrong : ∀ i, (evAt p i).strong = true → (evAt p i).op.kind = 5 := fun i hi => by
  simp only [Ev.strong, Bool.and_eq_true, decide_eq_true_eq] at hi; exact hi.1
 have hd : ∀ (k l : Int) (x : Int), x ∈ Ar p e.dn k → x ∈ Ar p e.dn l → k = l := by
  intro k l x h1 h2
  obtain ⟨i, rfl, _, _, _, e1⟩ := A7.1 h1
  obtain ⟨j, e2, _, _, _, e3⟩ := A7.1 h2
  have : i = j := by omega
  subst this
  rw [← e1, ← e3]
 have hfd : ∀ (k : Int) (x : Int), x ∈ Bi p → x ∈ Ar p e.dn k → False := by
  intro k x h1 h2
  obtain ⟨i, rfl, _, e0⟩ := Iy.1 h1
  obtain ⟨j, e2, _, e4, _, _⟩ := A7.1 h2
  have : i = j := by omega
  subst this
  exact e4 (hstrong i e0)
 simp only [List.flatten_cons, List.flatten_nil, List.append_nil, List.nodup_append]
 refine ⟨df, ⟨da, ⟨db, dc, fun x h1 y h2 e1 => ?_⟩, fun x h1 y h2 e1 => ?_⟩, fun x h1 y h2 e1 => ?_⟩
 ·subst e1
  have := hd _ _ _ (hb.mem_iff.1 h1) (hc.mem_iff.1 h2); omega
 ·subst e1
  rcases List.mem_append.1 h2 with h2 | h2
  ·have := hd _ _ _ (ha.mem_iff.1 h1) (hb.mem_iff.1 h2); omega
  ·have := hd _ _ _ (ha.mem_iff.1 h1) (hc.mem_iff.1 h2); omega
 ·subst e1
  have h1 := hf.mem_iff.1 h1
  rcases List.mem_append.1 h2 with h2 | h2
  ·exact hfd _ _ h1 (ha.mem_iff.1 h2)
  ·rcases List.mem_append.1 h2 with h2 | h2
   ·exact hfd _ _ h1 (hb.mem_iff.1 h2)
   ·exact hfd _ _ h1 (hc.mem_iff.1 h2)
theorem Nu {l m : List Int} (hl : l.Nodup) (hm : m.Nodup) (hs : ∀ x ∈ l, x ∈ m) (hn : m.length ≤ l.length) : l.Perm m :=
 Uh hl hm fun x => ⟨hs x, fun hx => Decidable.byContradiction fun hno => by
  have := Gg (l := x :: l) (m := m) (List.nodup_cons.2 ⟨hno, hl⟩) (by
   intro y hy
   rcases List.mem_cons.1 hy with rfl | hy
   ·exact hx
   ·exact hs y hy)
  simp only [List.length_cons] at this
  omega⟩
theorem Ul {n : Nat} {f g : Nat → Bool} (h : ∀ i, i < n → f i = g i) : Cr n f = Cr n g := by
 unfold Cr
 congr 1
 exact List.filter_congr fun i hi => h i (List.mem_range.1 hi)
def W9 (p : List Ev) (dn : List Bool) (k : Int) (n : Nat) : List Int := Cr n fun i => Bx dn i && decide ((evAt p i).op.loc = k)
theorem Zq {p : List Ev} {e : Exec} (h : ∀ a, a < p.length → EvR p e a) (k : Int) : W9 p e.dn k p.length = Ar p e.dn k := by
 refine Ul fun i hi => ?_
 have h0 := (h i hi).do0
 show (Bx e.dn i && _) = (decide ((evAt p i).op.kind ≠ 5) && Bx e.dn i && _)
 cases hd : Bx e.dn i with
 | false => simp
 | true =>
  cases hw : Cq (evAt p i).op with
  | false => rw [h0 hw] at hd; cases hd
  | true =>
   have := Gq.1 hw
   rw [decide_eq_true (show (evAt p i).op.kind ≠ 5 by omega)]; rfl
theorem Ad1 {p : List Ev} {e : Exec} (hk : ∀ i, i < p.length → 0 ≤ (evAt p i).op.kind ∧ (evAt p i).op.kind ≤ 5) (hfl : e.frm.length = p.length) (hdl : e.dn.length = p.length) (hol : e.ord.length = 3)
  (hev : ∀ a, a < p.length → EvR p e a) (hn : (e.fen ++ e.ord.flatten).Nodup) (hfn : e.fen.length = (Bi p).length) (hfs : ∀ x ∈ e.fen, x ∈ Bi p)
  (hon : ∀ k : Nat, k < 3 → (e.ord[k]?.getD []).length = (W9 p e.dn k p.length).length) (hos : ∀ k : Nat, k < 3 → ∀ x ∈ e.ord[k]?.getD [], x ∈ Ar p e.dn k) : Shape p e := by
 refine ⟨hfl, hdl, hol, fun i hi => (hev i hi).do1, fun i hi hd => ?_, fun i hi hr => ?_, fun i hi hr => ?_, fun k hk3 => ?_, ?_⟩
 ·cases hw : Cq (evAt p i).op with
  | false => rw [(hev i hi).do0 hw] at hd; cases hd
  | true => exact Gq.1 hw
 ·exact (hev i hi).out (by rw [Jt (hk i hi)]; exact hr)
 ·have hr' : Eg (evAt p i).op = true := by rw [Jt (hk i hi)]; exact hr
  have h1 := (hev i hi).src hr'
  by_cases h0 : 0 ≤ Ae e i
  ·obtain ⟨h2, h3, h4⟩ := (hev i hi).src2 hr' h0
   exact .inr ⟨(Ae e i).toNat, by omega, by omega, h2, h3⟩
  ·exact .inl (by omega)
 ·have hd : (e.ord[k]?.getD []).Nodup := by
   have h2 := (List.nodup_append.1 hn).2.1
   rw [List.getElem?_eq_getElem (by omega), Option.getD_some]
   exact List.Nodup.sublist (List.sublist_flatten_of_mem (List.getElem_mem _)) h2
  refine Nu hd (D5 _ _ _) (hos k hk3) ?_
  rw [hon k hk3, Zq hev]; exact Nat.le_refl _
 ·exact Nu (List.nodup_append.1 hn).1 (Gr p) hfs (by omega)
def Iz (p : List Ev) (e : Exec) (a : Nat) : Bool :=
 !(Bl p e.frm).K a || !((decide ((evAt p a).op.kind = 3) && (Bx e.dn a != decide ((Bl p e.frm).R a = (evAt p a).op.v))) || (decide ((evAt p a).op.kind = 4) && Bx e.dn a && decide ((Bl p e.frm).R a ≠ (evAt p a).op.v)))
theorem Su {p : List Ev} {e : Exec} (hs : Shape p e) : (∀ a, a < p.length → Iz p e a = true) ↔ Qx p e := by
 have hK : ∀ {i : Nat} (hi : i < p.length) (hr : (evAt p i).reads = true), _ := fun {i} hi hr => Et2 hs.fromOk hs.srcOk hs.outLt hi hr
 constructor
 ·intro h i x hx
  obtain ⟨hi, hr⟩ := hx.lt
  have h1 := (hK hi hr).1.2 ⟨x, hx⟩
  have h2 := (hK hi hr).2 x hx
  have h3 := h i hi
  unfold Iz at h3
  rw [h1, h2] at h3
  constructor
  ·intro k3
   cases hd : Bx e.dn i <;> simp [k3, hd] at h3 ⊢ <;> exact h3
  ·intro k4 hd
   simp [k4, hd] at h3; exact h3
 ·intro h i hi
  unfold Iz
  cases hk : (Bl p e.frm).K i with
  | false => rfl
  | true =>
   by_cases k3 : (evAt p i).op.kind = 3
   ·have hr : (evAt p i).reads = true := by simp [Ev.reads, k3]
    obtain ⟨x, hx⟩ := (hK hi hr).1.1 hk
    have h2 := (hK hi hr).2 x hx
    have h3 := (h i x hx).1 k3
    rw [h2]
    cases hd : Bx e.dn i with
    | true => simp [k3, h3.1 hd]
    | false =>
     have : ¬ x = (evAt p i).op.v := fun hxx => by rw [h3.2 hxx] at hd; cases hd
     simp [k3, this]
   ·by_cases k4 : (evAt p i).op.kind = 4
    ·have hr : (evAt p i).reads = true := by simp [Ev.reads, k4]
     obtain ⟨x, hx⟩ := (hK hi hr).1.1 hk
     have h2 := (hK hi hr).2 x hx
     have h3 := (h i x hx).2 k4
     rw [h2]
     cases hd : Bx e.dn i with
     | true => simp [k4, h3 hd]
     | false => simp [k4]
    ·simp [k3, k4]
theorem Qy {p : List Ev} {e : Exec} (h : ¬ Shape p e) : Ct p e = 1 := by
 unfold Ct; rw [if_neg fun hw => h hw.1]
theorem Sv {p : List Ev} {e : Exec} (hs : Shape p e) {a : Nat} (ha : a < p.length) (h : Iz p e a = false) : Ct p e = 1 := by
 unfold Ct; rw [if_neg fun hw => ?_]
 rw [(Su hs).2 hw.2 a ha] at h; cases h
theorem Sx {p : List Ev} {e : Exec} (hs : Shape p e) (hw : Qx p e) {a : Nat} (ha : a < p.length) (h : (Bl p e.frm).K a = false) : Ct p e = 2 := by
 have hr : (evAt p a).reads = true := by
  cases hr : (evAt p a).reads with
  | true => rfl
  | false => rw [Cm0 hs.fromOk hs.srcOk hs.outLt ha hr] at h; cases h
 have hround : Ia p e := Classical.byContradiction fun hn => by
  have := (Et2 hs.fromOk hs.srcOk hs.outLt ha hr).1.2 ⟨_, Cl9 hs (Ia.rfOk hn) ha hr⟩
  rw [h] at this; cases this
 unfold Ct; rw [if_pos ⟨hs, hw⟩, if_pos hround]
theorem Um {p : List Ev} {e : Exec} (hm : Lo p) (hl : p.length ≤ 16) (hs : Shape p e) (hw : Qx p e) (h : Bn (Au4 p e) = true) : Ct p e = 2 := by
 unfold Ct; rw [if_pos ⟨hs, hw⟩, if_pos ((Pp hl hm hs).1 h)]
theorem Un {p : List Ev} {e : Exec} (hp : POk p) (hm : Lo p) (hl : p.length ≤ 16) (hs : Shape p e) (hw : Qx p e) (hr : ¬ Ia p e) (h : No (Zo p e) (Si p e) = true) : Ct p e = 3 := by
 unfold Ct; rw [if_pos ⟨hs, hw⟩, if_neg hr, if_pos ((Sk hl hm hs hp (Ia.rfOk hr)).1 h)]
open Classical in
theorem Xa {p : List Ev} {e : Exec} (hp : POk p) (hm : Lo p) (hl : p.length ≤ 16) (hs : Shape p e) (hw : Qx p e) (hr : ¬ Ia p e) (h : No (Zo p e) (Si p e) = false) :
  Ct p e = if Kx p e then 0 else 4 := by
 have hc : ¬ Qh p e := fun hc => by rw [(Sk hl hm hs hp (Ia.rfOk hr)).2 hc] at h; cases h
 unfold Ct; rw [if_pos ⟨hs, hw⟩, if_neg hr, if_neg hc]
def Uo (p : List Ev) (e : Exec) : Bool := !(List.range 3).any fun k => Ce p e (e.ord[k]?.getD [])
theorem Zr {p : List Ev} {e : Exec} (hol : e.ord.length = 3) : Uo p e = true ↔ Kx p e := by
 obtain ⟨a, b, c, he⟩ := Ss hol
 have h1 := Qi (p := p) (e := e)
 have h2 : (List.range 3).any (fun k => Ce p e (e.ord[k]?.getD [])) = e.ord.any (Ce p e) := by
  rw [he]; simp [List.range_succ]
 unfold Uo
 rw [h2]
 cases h : e.ord.any (Ce p e) with
 | true => simp [h1.1 h]
 | false =>
  simp only [Bool.not_false, true_iff]
  exact Classical.byContradiction fun hn => by rw [h1.2 hn] at h; cases h
end Go.EV

namespace Go.EV
open Go.Proofs
section
variable {M : Aa}
theorem Sy (p : List Ev) (s : Value) (hs : Sl M 6 H5 s p) (hp : p.length ≤ 16) (hord : Wp p) (e : Exec) (v : Value) (hv : IsX M v e) (hfl : e.frm.length = p.length) (hdl : e.dn.length = p.length) (hfx : ∀ i, i < p.length → Ae e i < p.length)
  (hl : e.fen.length ≤ 16) (hin : ∀ k, k < e.fen.length → 0 ≤ Ad e.fen k ∧ Ad e.fen k < 16) :
  Con Tryz.prog 53 #[s, v] M [] fun u _ _ => u = Fz (Zo p e) := by
 have hs0 := hs
 have hv0 := hv
 obtain ⟨pa, pc, rfl, hpr⟩ := hs
 obtain ⟨f, d, o, n, rfl, ⟨fa, fc, rfl, hrf⟩, ⟨da, dc, rfl, hrd⟩, ⟨oa, oc, ovs, rfl, hol, hro, hko⟩, ⟨na, nc, rfl, _⟩⟩ := hv
 refine Con.enter Q74_ok (args := [.slice pa p.length pc, .agg #[.slice fa e.frm.length fc, .slice da e.dn.length dc, .slice oa e.ord.length oc, .slice na e.fen.length nc]]) (by simp [Q74]) fun w0 => ?_
 simp only [Q74, A3]
 have hthr := fun G => (show Aq _ _ _ (M.add G) _ from Ju (M := M.add G) p _ (hs0.mono (Aa.le_add _ _)) hp)
 have hmee := fun G => (show Aq _ _ _ (M.add G) _ from Uj (M := M.add G) p _ (hs0.mono (Aa.le_add _ _)) hp hord e _ (IsX.mono (Aa.le_add _ _) hv0) hfl hdl hfx)
 have htur := fun G => (show Aq _ _ _ (M.add G) _ from Ns (M := M.add G) e _ (IsX.mono (Aa.le_add _ _) hv0) hl hin)
 have hot := thrR_ok (p := p) hp
 have hom := meetsR_ok (p := p) (e := e) hp
 have hou := turnsR_ok (fen := e.fen) hin
 have hun1 := fun G => (show Aq _ _ _ (M.add G) _ from Gp (M := M.add G) _ _ hom hou)
 have hun2 := fun G => (show Aq _ _ _ (M.add G) _ from Gp (M := M.add G) _ _ hot (unionR_ok hom hou))
 have hoa := unionR_ok hot (unionR_ok hom hou)
 have hclo := fun G => (show Aq _ _ _ (M.add G) _ from Hs (M := M.add G) _ hoa)
 repeat' first
   | refine EV.seq ?_
   | refine rg ?_
   | (with_reducible intro b; try refine nx ?_)
   | exact ⟨⟩
   | fail
 obtain ⟨b4, rfl⟩ : ∃ x, x = b := ⟨_, rfl⟩
 obtain ⟨xb, rfl⟩ : ∃ x, x = b := ⟨_, rfl⟩
 refine EV.any (t := Bh5) [(xb, Cl 37 [.slice fa e.frm.length fc, .slice da e.dn.length dc, .slice oa e.ord.length oc, .slice na e.fen.length nc])] (List.Sublist.cons _ (List.Sublist.refl _)) ?_
 simp only [Am, Au, Al, As, reduceIte, Nat.reduceEqDiff]
 repeat' first
   | ((first | refine zo (fun lq hlq => ?_) | refine zl ?_ | fail); try refine nz ?_)
   | refine zq (fun lq tq hlq htq => ?_)
   | ((first | with_reducible refine Aq.call (hthr _) ?_ | with_reducible refine Aq.call (hmee _) ?_ | with_reducible refine Aq.call (htur _) ?_ | with_reducible refine Aq.call (hun1 _) ?_ | with_reducible refine Aq.call (hun2 _) ?_ | with_reducible refine Aq.call (hclo _) ?_ | fail); try refine nz ?_)
   | (refine Vc (by first | with_reducible assumption | rfl) (fun tq htq => ?_) (fun tq htq => ?_) <;> try refine nz ?_)
   | (refine Ea (by first | with_reducible assumption | rfl) (fun tq htq => ?_) (fun tq htq => ?_) <;> try refine nz ?_)
   | exact zn
   | ((first | refine xrA rfl ?_ | refine xw ?_ | refine And.intro (Aa.le_refl _) (And.intro (Ba ?_) ?_); focus ((repeat' first | exact List.Sublist.refl _ | exact List.nil_sublist _ | exact List.sublist_append_left _ _ | refine List.Sublist.cons_cons _ ?_ | refine List.Sublist.append_left ?_ _ | refine List.sublist_append_of_sublist_right ?_ | refine List.Sublist.cons _ ?_); done) | fail); try refine nz ?_)
   | exact ⟨⟩
   | fail
 have hbl : (Zo p e).length = 16 := (hoa.close).len
 have hbe : Cc (Ed (W3 p) (Ed (Js p e) (Fy e.fen))) = Zo p e := rfl
 rw [hbe]
 refine ⟨by rw [List.length_map, hbl], Ah2 _, ?_⟩
 rw [Ad0 (by rw [List.length_map, hbl]) rfl]
 repeat' first
   | (refine zl ?_; try refine nz ?_)
   | refine zq (fun lq tq hlq htq => ?_)
   | refine zf ?_
   | exact ⟨⟩
   | fail
 (refine rt Q74_ok ?_; try with_reducible exact ⟨⟩)
 exact ⟨_, Bz (T := 95) (cs := (Zo p e).map vw) (by simp) (by rw [List.drop_zero, List.take_of_length_le (by rw [List.length_map, hbl]; exact Nat.le_refl _)]) (by rw [List.length_map, hbl]; exact Nat.le_refl _), rfl⟩
theorem Xb (p : List Ev) (s : Value) (hs : Sl M 6 H5 s p) (hp : p.length ≤ 16) (hkd : ∀ i, i < p.length → 0 ≤ (evAt p i).op.kind ∧ (evAt p i).op.kind ≤ 5) (e : Exec) (v : Value) (hv : IsX M v e) (hfl : e.frm.length = p.length)
  (hol3 : e.ord.length = 3) (hin : ∀ k, k < 3 → ∀ i, i < (e.ord[k]?.getD []).length → 0 ≤ Ad (e.ord[k]?.getD []) i ∧ Ad (e.ord[k]?.getD []) i < p.length) (hsz : ∀ k, k < 3 → (e.ord[k]?.getD []).length ≤ 16) :
  Aq Tryz.prog 55 #[s, v] M (vb (Uo p e)) := by
 obtain ⟨pa, pc, rfl, hpr⟩ := hs
 obtain ⟨f, d, o, n, rfl, ⟨fa, fc, rfl, hrf⟩, ⟨da, dc, rfl, hrd⟩, ⟨oa, oc, ovs, rfl, hol, hro, hko⟩, ⟨na, nc, rfl, _⟩⟩ := hv
 obtain ⟨ob, oo, rfl, hato⟩ := Di.at hro hol hko (by omega)
 refine Con.enter Q81_ok (args := [.slice pa p.length pc, .agg #[.slice fa e.frm.length fc, .slice da e.dn.length dc, .slice (some ⟨ob, oo, none⟩) e.ord.length oc, .slice na e.fen.length nc]]) (by simp [Q81]) fun w0 => ?_
 simp only [Q81, A3]
 repeat' first
   | refine EV.seq ?_
   | refine EV.block ?_
   | refine rg ?_
   | (with_reducible intro b; try refine nx ?_)
   | exact ⟨⟩
   | fail
 obtain ⟨xb, rfl⟩ : ∃ x, x = b := ⟨_, rfl⟩
 refine EV.frz [(xb, Cl 37 [.slice fa e.frm.length fc, .slice da e.dn.length dc, .slice (some ⟨ob, oo, none⟩) e.ord.length oc, .slice na e.fen.length nc])] ?_
 generalize hR : M.add _ = N
 have hMN : M.le N := hR ▸ Aa.le_add _ _
 have hxb : rd N xb 0 4 [.slice fa e.frm.length fc, .slice da e.dn.length dc, .slice (some ⟨ob, oo, none⟩) e.ord.length oc, .slice na e.fen.length nc] := hR ▸ An 0 rfl rfl (by simp)
 clear hR
 have hx0 := hxb.pt 0 1 (by omega) rfl
 have hx2 := hxb.pt 2 1 (by omega) rfl
 simp only [Nat.zero_add] at hx0 hx2
 have hpr' := hpr.mono hMN
 have hlocs : ∀ b, b < p.length → ∃ pb po, pa = some ⟨pb, po, none⟩ ∧ rd N pb (po + b * 6) 6 (H5 (evAt p b)) := fun b hb => by
  obtain ⟨pb, po, e1, hat⟩ := Sl.at (sz := 6) (enc := H5) (fun _ => rfl) (by decide) hpr' (by omega)
  have := hat b hb
  rw [← B5 hb] at this
  exact ⟨pb, po, e1, this⟩
 have hfrs : ∀ b, b < p.length → ∃ fb fo, fa = some ⟨fb, fo, none⟩ ∧ rd N fb (fo + b) 1 [vi (Ae e b)] := fun b hb => by
  obtain ⟨fb, fo, e1, hat⟩ := Sl.at (sz := 1) (enc := ei) (fun _ => rfl) (by decide) hrf (by omega)
  exact ⟨fb, fo, e1, (Cd hat b (by omega)).mono hMN⟩
 have hords : ∀ k, k < 3 → ∃ a' c', rd N ob (oo + k) 1 [.slice a' (e.ord[k]?.getD []).length c'] ∧ rdS N 1 a' (e.ord[k]?.getD []).length ((e.ord[k]?.getD []).flatMap ei) := fun k hk => by
  obtain ⟨a', c', h1, _, h2⟩ := hato k (by omega)
  rw [Nat.mul_one] at h1
  rw [List.getElem?_eq_getElem (show k < e.ord.length by omega), Option.getD_some]
  exact ⟨a', c', h1.mono hMN, h2.mono hMN⟩
 clear hato hro hko hrf hpr hpr'
 refine EV.loopTo (fun k : Nat => ([(0, .slice pa p.length pc), (3, pv xb 0), (4, vb false), (5, vi k)], N, [])) (fun k => k ≤ 3 ∧ ∀ x, x < k → Ce p e (e.ord[x]?.getD []) = false) (fun k => 3 - k) 0 rfl ⟨Nat.zero_le _, fun x hx => absurd hx (Nat.not_lt_zero _)⟩ ?env1 (List.nil_sublist _) ?_
 case env1 =>
  exact eE
 rintro k ⟨hk, hno⟩ ih
 dsimp only at hk hno ih ⊢
 repeat' first
   | refine EV.seq ?_
   | refine EV.skip ?_
   | refine EV.block ?_
   | refine rg ?_
   | (refine cX (fun h => ?_) (fun h => ?_) <;> try exact Ah h)
   | (refine EV.exit rfl ?_)
   | exact ⟨⟩
   | fail
 ·have hk' : k < 3 := by omega
  obtain ⟨la, lc, hrl, hrr⟩ := hords k hk'
  have hLin := hin k hk'
  have hL16 := hsz k hk'
  have ihk := fun h => ih (k + 1) ⟨by omega, h⟩ (by omega)
  have hnb : ∀ x, x < k + 1 → (x = k → Ce p e (e.ord[k]?.getD []) = false) → Ce p e (e.ord[x]?.getD []) = false := fun x hx h => by
   by_cases hxk : x = k
   ·rw [hxk]; exact h hxk
   ·exact hno x (by omega)
  have hyes : Ce p e (e.ord[k]?.getD []) = true → Uo p e = false := fun h => by
   unfold Uo
   rw [List.any_eq_true.2 ⟨k, List.mem_range.2 hk', h⟩]; rfl
  generalize (e.ord[k]?.getD []) = L at *
  refine EV.loopTo (fun i : Nat => ([(0, .slice pa p.length pc), (3, pv xb 0), (4, vb false), (5, vi k), (6, vi i)], N, [])) (fun i => i ≤ L.length ∧ ∀ x, x < i → P8 p e L x = false) (fun i => L.length - i) 0 rfl ⟨Nat.zero_le _, fun x hx => absurd hx (Nat.not_lt_zero _)⟩ ?env2 (List.nil_sublist _) ?_
  case env2 =>
   exact eE
  rintro i ⟨hi, hno2⟩ ih2
  dsimp only at hi hno2 ih2 ⊢
  refine EV.seq ?_
  refine EV.seq ?_
  repeat' first
    | refine EV.skip ?_
    | refine EV.inBlock ?_
    | refine rg ?_
    | (refine cX (fun h => ?_) (fun h => ?_) <;> try exact Ah h)
    | (refine EV.exit rfl ?_)
    | (refine And.intro (by omega) ?_)
    | (refine xn ?_; try refine nx ?_)
    | exact ⟨⟩
    | fail
  ·have hi' : i < L.length := by omega
   obtain ⟨wb, wo, rfl, hatl⟩ := Sl.at (sz := 1) (enc := ei) (fun _ => rfl) (by decide) hrr (by omega)
   have hnum := Cd hatl
   obtain ⟨a, ha⟩ : ∃ a : Nat, Ad L i = a := ⟨(Ad L i).toNat, by have := hLin i hi'; omega⟩
   have hli := hnum i hi'
   have ha16 : a < p.length := by have := hLin i hi'; omega
   rw [ha] at hli
   obtain ⟨pb, po, rfl, hpc⟩ := hlocs a ha16
   obtain ⟨fb, fo, rfl, hfc⟩ := hfrs a ha16
   have hlc : rd N pb (po + a * 6 + 1) 5 [vi (evAt p a).op.kind, vi (evAt p a).op.loc, vi (evAt p a).op.v, vi (evAt p a).op.w, vi (evAt p a).op.ord] := hpc.pt 1 5 (by omega) rfl
   have hrds := fun G => Nq (M := N.add G) (evAt p a).op
   rw [Jt (hkd a ha16)] at hrds
   have hbad : P8 p e L i = ((evAt p a).reads && decide (Ae e a ≠ Fi L i)) := by rw [P8, ha, Int.toNat_natCast]
   refine EV.seq ?_
   refine EV.block ?_
   refine EV.seq ?_
   repeat' first
     | refine rg ?_
     | (refine And.intro (by omega) ?_)
     | ((first | refine xm ?_ | refine xn ?_ | fail); try refine nx ?_)
     | exact ⟨⟩
     | fail
   refine EV.seq ?_
   repeat' first
     | refine rg ?_
     | exact ⟨⟩
     | fail
   refine EV.seq (EV.thru (fun ρ' M' G' => M' = N ∧ (∀ q ∈ [(0, .slice (some ⟨pb, po, none⟩) p.length pc), (3, pv xb 0), (4, vb false), (5, vi k), (6, vi i), (7, vi a), (8, vi (Fi L i))], get ρ' q.1 = some q.2) ∧ G' = []) ?_ ?_)
   ·intro k' key
    clear ih ihk ih2
    repeat' first
      | refine EV.seq ?_
      | refine EV.skip ?_
      | refine rg ?_
      | (refine cX (fun h => ?_) (fun h => ?_) <;> try exact Ah h)
      | (refine And.intro (by omega) ?_)
      | (refine xn ?_; try refine nx ?_)
      | exact ⟨⟩
      | fail
    ·obtain ⟨j, rfl⟩ : ∃ j, i = j + 1 := ⟨i - 1, by omega⟩
     have hlj := hnum j (by omega)
     have ej : IntKind.i64.wrap (((j + 1 : Nat) : Int) - 1) = (j : Int) := by rw [w64 (by omega) (by omega)]; omega
     repeat' first
       | (refine And.intro (by omega) ?_)
       | fail
     simp only [ej, Int.toNat_natCast]
     refine ⟨_, hlj.mono (Aa.le_add _ _), ?_⟩
     refine EV.reS (key _ _ _ ⟨rfl, ?_, rfl⟩)
     exact eE
    ·obtain rfl : i = 0 := by omega
     refine EV.reS (key _ _ _ ⟨rfl, ?_, rfl⟩)
     exact eE
   ·rintro ρ' M' G' ⟨e0, hρ, e2⟩
    rw [e0, e2]
    clear e0 e2
    refine EV.to (ρ' := [(0, .slice (some ⟨pb, po, none⟩) p.length pc), (3, pv xb 0), (4, vb false), (5, vi k), (6, vi i), (7, vi a), (8, vi (Fi L i))]) ?_ hρ (List.Sublist.refl _)
    repeat' first
      | refine EV.seq ?_
      | refine EV.skip ?_
      | refine EV.inBlock ?_
      | refine rg ?_
      | with_reducible assumption
      | (refine Aq.call (hrds _) ?_; try refine nx ?_)
      | (refine Az.merge ?_ (fun hc K' hK => ?_) ?_; rotate_left)
      | (refine cX (fun h => ?_) (fun h => ?_) <;> try exact Ah h)
      | (refine And.intro (by omega) ?_)
      | ((first | refine xm ?_ | refine xn ?_ | fail); try refine nx ?_)
      | exact ⟨⟩
      | fail
    ·have hb : P8 p e L i = true := by rw [hbad]; simpa using h
     have hny := hyes (List.any_eq_true.2 ⟨i, List.mem_range.2 hi', hb⟩)
     (refine rt Q81_ok ?_; try with_reducible exact ⟨⟩)
     rw [hny]
    ·have hb : P8 p e L i = false := by rw [hbad, Bool.and_eq_false_iff]; simpa using h
     refine EV.to (ih2 (i + 1) ⟨by omega, fun x hx => ?_⟩ (by omega)) ?_ (List.Sublist.refl _)
     ·by_cases e1 : x = i
      ·subst e1; exact hb
      ·exact hno2 x (by omega)
     ·exact eE
  ·have hie : i = L.length := by omega
   subst hie
   refine EV.to (ihk fun x hx => hnb x hx fun _ => ?_) ?_ (List.Sublist.refl _)
   ·cases hb : Ce p e L with
    | false => rfl
    | true =>
     obtain ⟨x, hx, h2⟩ := List.any_eq_true.1 hb
     rw [hno2 x (List.mem_range.1 hx)] at h2; cases h2
   ·exact eE
 ·have : Uo p e = true := by
   unfold Uo
   rw [Bool.not_eq_true', List.any_eq_false]
   intro x hx
   rw [hno x (by have := List.mem_range.1 hx; omega)]; decide
  (refine rt Q81_ok ?_; try with_reducible exact ⟨⟩)
  rw [this]
end
end Go.EV
