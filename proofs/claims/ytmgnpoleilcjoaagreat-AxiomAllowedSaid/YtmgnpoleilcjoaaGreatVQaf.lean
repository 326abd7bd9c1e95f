/- Part of the proof of a statement about executions of litmus programs: walks and laws. -/
import Derived.Test.YtmgnpoleilcjoaaGreatVQae
import Derived.Test.YtmgnpoleilcjoaaGreatVQad
import Derived.Shelf.SortG.Plain
import Derived.Shelf.SortG.SortNone
import Derived.Shelf.SlGeneric
import Derived.Ground.SlgnProg
import Derived.Test.YtmgnpoleilcjoaaGreatVQac
import Derived.Test.YtmgnpoleilcjoaaGreatProg
import Derived.Test.YtmgnpoleilcjoaaGreatVQab
import Derived.WalkKit
import Derived.ProofKit
import Derived.OpenShut
import Derived.ChangeStays
import Derived.ChangeBears
import Derived.HandedShaped
import Derived.Test.YtmgnpoleilcjoaaGreatRows
set_option maxHeartbeats 8000000
set_option maxRecDepth 8000
set_option linter.unusedSimpArgs false
set_option linter.unusedVariables false
set_option linter.unusedSectionVars false
namespace Go.EV
open Go.Proofs
def marks (L : List Int) : List Bool := (List.range 16).map fun (i : Nat) => decide ((i : Int) ∈ L)
theorem Ge (L : List Int) : (marks L).length = 16 := by simp [marks]
theorem Lq {L : List Int} {u : Nat} (h : u < (marks L).length) : (marks L)[u] = decide ((u : Int) ∈ L) := by simp [marks]
theorem P7 {L : List Int} {u : Nat} (hu : u < 16) : (marks L).set u true = marks (L ++ [(u : Int)]) := by
 apply lEc
 ·simp [marks]
 ·intro i h1 h2
  rw [List.getElem_set, Lq, Lq]
  by_cases hi : u = i
  ·subst hi; simp
  ·rw [if_neg hi]
   have : ¬ ((i : Int) = (u : Int)) := by omega
   simp [this]
theorem Vu : marks [] = List.replicate 16 false := by decide
theorem Ac4 {l : List Int} (h : l.Nodup) {i : Nat} (hi : i < l.length) : Ae l i ∉ l.take i := by
 have h1 : (l.take (i + 1)).Nodup := h.sublist (List.take_sublist _ _)
 rw [lA7 hi, lBo] at h1
 intro hm
 rw [Ae, lA2 hi, lAn] at hm
 exact h1.2.2 _ hm _ (lAi.2 rfl) rfl
theorem P8 {l : List Int} {i : Nat} (hi : i < l.length) (h : (l.take i).Nodup) (hn : Ae l i ∉ l.take i) : (l.take (i + 1)).Nodup := by
 rw [Ae, lA2 hi, lAn] at hn
 rw [lA7 hi, lBo]
 refine ⟨h, by simp, fun x hx y hy e => ?_⟩
 rw [lAi] at hy
 subst e hy
 exact hn hx
theorem B2 {l : List Int} {i : Nat} (hi : i < l.length) : l.take (i + 1) = l.take i ++ [Ae l i] := by
 rw [lA7 hi, Ae, lA2 hi]; rfl
theorem Vv {l : List Int} {i : Nat} (hi : i < l.length) : Ae l i ∈ l := by
 rw [Ae, lA2 hi]; exact lAm hi
theorem T0 {C : Cx Tryz.prog} {k : List RItem} {p : List Ev} {e : Exec} {N : Aa} {pa : Option Addr} {pc xb b9 : Nat} {na : Option Addr} {nc : Nat} (hp : p.length ≤ 16)
  (rY : rd N xb 3 1 [.slice na e.fen.length nc]) (dS : e.fen.length ≤ 16)
  (rZ : rdS N 1 na e.fen.length (e.fen.flatMap ei))
  (aL : ∀ b, b < p.length → ∃ pb po, pa = some ⟨pb, po, none⟩ ∧ rd N pb (po + b * 6) 6 (Fq (evAt p b)))
  (aI : ¬ Shape p e → ∀ k ρ G, get ρ 4 = some (vb false) → EV C [0, 1, 3, 4, 5, 6, 7, 8, 9, 10, 11, 12, 13, 14, 15, 16] (.code .ret :: k) ρ N G)
  (key : e.fen.Nodup → (∀ x ∈ e.fen, x ∈ A5 p) → EV C [0, 1, 3, 4, 5, 6, 7, 8, 9, 10, 11, 12, 13, 14, 15, 16] k [(0, .slice pa p.length pc), (3, pv xb 0), (4, vb false), (9, pv b9 0)] N [(b9, Cl 141 ((marks e.fen).map vb))]) :
  EV C [0, 1, 3, 4, 5, 6, 7, 8, 9, 10, 11, 12, 13, 14, 15, 16] (.code (.loop Af7) :: .inBlock 2 :: k) [(10, vi 0), (0, .slice pa p.length pc), (3, pv xb 0), (4, vb false), (9, pv b9 0)] N [(b9, Cl 141 (List.replicate 16 (vb false)))] := by
 refine JC (fun i : Nat => ([(0, .slice pa p.length pc), (3, pv xb 0), (4, vb false), (9, pv b9 0), (10, vi i)], N, [(b9, Cl 141 ((marks (e.fen.take i)).map vb))])) (fun i => i ≤ e.fen.length ∧ (e.fen.take i).Nodup ∧ ∀ x ∈ e.fen.take i, x ∈ A5 p) (fun i => e.fen.length - i) 0 rfl ⟨lA8 _, by simp, by simp⟩ ?env1 ?sub1 ?_
 case env1 =>
  exact eE
 case sub1 =>
  simp only [lCr, Vu, lDz]
  exact lA0 _
 rintro i ⟨hi, hnd, hall⟩ ih
 dsimp only at hi hnd hall ih ⊢
 refine EV.seq ?_
 refine EV.seq ?_
 repeat' first | refine su ?_ | refine rg ?_ | (refine cX ?_ ?_ <;> intro h <;> try exact Ah h) | (refine xn ?_; try refine nx ?_) | exact ⟨⟩ | fail
 ·have aC : i < e.fen.length := by omega
  have ih2 := fun h1 h2 => ih (i + 1) ⟨by omega, h1, h2⟩ (by omega)
  obtain ⟨nb, no, rfl, hat⟩ := Sl.at (sz := 1) (enc := ei) (fun _ => rfl) (by decide) rZ (by omega)
  have dH := Cj hat i aC
  have bt : ¬ (0 ≤ Ae e.fen i ∧ Ae e.fen i < p.length ∧ Ae e.fen i ∉ e.fen.take i ∧ Nn (evAt p (Ae e.fen i).toNat).op = true) → ∀ k ρ G, get ρ 4 = some (vb false) → EV C [0, 1, 3, 4, 5, 6, 7, 8, 9, 10, 11, 12, 13, 14, 15, 16] (.code .ret :: k) ρ N G := fun h => aI fun hs => h (by
   obtain ⟨w, e1, e2, e3⟩ := Gc.1 (hs.fen.mem_iff.1 (Vv aC))
   refine ⟨by omega, by omega, Ac4 (hs.fen.nodup_iff.2 (Ej p)) aC, ?_⟩
   rw [e1, lAy]; exact e3)
  have du : 0 ≤ Ae e.fen i → Ae e.fen i < p.length → Ae e.fen i ∉ e.fen.take i → Nn (evAt p (Ae e.fen i).toNat).op = true → (e.fen.take (i + 1)).Nodup ∧ ∀ x ∈ e.fen.take (i + 1), x ∈ A5 p := fun h1 h2 h3 h4 => by
   refine ⟨P8 aC hnd h3, fun x hx => ?_⟩
   rw [B2 aC] at hx
   rcases lB7.1 hx with hx | hx
   ·exact hall x hx
   ·rw [lAi] at hx
    rw [hx]
    exact Gc.2 ⟨(Ae e.fen i).toNat, by omega, by omega, h4⟩
  rw [B2 aC] at ih2 du
  generalize hfe : Ae e.fen i = f at *
  generalize e.fen.take i = L at *
  have eX := Ge L
  refine EV.seq ?_
  refine EV.block ?_
  refine EV.seq ?_
  repeat' first | refine rg ?_ | refine ZF ?_ | ((first | refine xm ?_ | refine xn ?_ | fail); try refine nx ?_) | exact ⟨⟩ | fail
  refine EV.seq ?_
  refine EV.seq ?_
  by_cases h0 : f < 0
  ·have eM : decide (f < 0) = true := decide_eq_true h0
   repeat' first | refine st ?_ | (refine EV.reg ?_; (conv => (arg 2; whnf)); (repeat first | refine nx ?_ | simp only [eM])) | (refine A4.intro (fun hc => ?_) (fun hc => ?_) <;> try simp only [ne_eq, lBd, lB9, not_true_eq_false, not_false_eq_true, reduceCtorEq] at hc <;> try (exfalso; first | exact hc | omega | (simp at hc; done))) | (refine cX ?_ ?_ <;> intro h <;> try exact Ah h) | fail
   exact bt (fun h => by omega) _ _ _ rfl
  ·by_cases h1 : f < p.length
   ·obtain ⟨u, rfl⟩ : ∃ u : Nat, f = u := ⟨f.toNat, by omega⟩
    have bw : decide ((u : Int) < 0) = false := decide_eq_false h0
    have j6 : decide ((p.length : Int) ≤ (u : Int)) = false := decide_eq_false (by omega)
    obtain ⟨pb, po, rfl, mD⟩ := aL u (by omega)
    have vB : rd N pb (po + u * 6 + 1) 5 [vi (evAt p u).op.kind, vi (evAt p u).op.loc, vi (evAt p u).op.v, vi (evAt p u).op.w, vi (evAt p u).op.ord] := mD.pt 1 5 (by omega) rfl
    have l5 := fun G => Ie (M := N.add G) (evAt p u).op
    rw [lAy] at bt du
    generalize (evAt p u).op = o at *
    have l6 : u < (marks L).length := by rw [eX]; omega
    have nj := Lq l6
    have r6 := P7 (L := L) (show u < 16 by omega)
    repeat' first | refine su ?_ | (refine EV.reg ?_; (conv => (arg 2; whnf)); (repeat first | refine nx ?_ | simp only [bw, j6])) | with_reducible assumption | (refine JD ?_ (fun hc K' hK => ?_) ?_; rotate_left) | ((first | refine lAb _ (lAd (Cg (f := vb) l6) ?_) | refine Aq.call (l5 _) ?_ | fail); (repeat first | refine nx ?_ | simp only [bw, j6])) | (refine cX ?_ ?_ <;> intro h <;> try exact Ah h) | refine ZF ?_ | (refine xm ?_; (repeat first | refine nx ?_ | simp only [bw, j6])) | (refine xw ?_; (repeat first | refine nx ?_ | simp only [bw, j6])) | fail
    ·refine EV.seq ?_
     repeat' first | refine rg ?_ | exact ⟨⟩ | fail
     refine bt (fun hh => ?_) _ _ _ rfl
     obtain ⟨_, _, q1, q2⟩ := hh
     simp [nj, q1, q2] at h
    ·have hq : (u : Int) ∉ L ∧ Nn o = true := by simpa [nj] using h
     refine ⟨by rw [lA1, eX]; omega, ?_⟩
     rw [Ap vb _ l6, r6]
     obtain ⟨n1, n2⟩ := du (by omega) h1 hq.1 hq.2
     repeat' first | refine su ?_ | refine rg ?_ | exact ⟨⟩ | fail
     refine JA (ih2 n1 n2) ?_ (lA0 _)
     exact eE
   ·have bw : decide (f < 0) = false := decide_eq_false h0
    have r7 : decide ((p.length : Int) ≤ f) = true := decide_eq_true (by omega)
    repeat' first | refine st ?_ | (refine EV.reg ?_; (conv => (arg 2; whnf)); (repeat first | refine nx ?_ | simp only [bw, r7])) | (refine A4.intro (fun hc => ?_) (fun hc => ?_) <;> try simp only [ne_eq, lBd, lB9, not_true_eq_false, not_false_eq_true, reduceCtorEq] at hc <;> try (exfalso; first | exact hc | omega | (simp at hc; done))) | (refine cX ?_ ?_ <;> intro h <;> try exact Ah h) | fail
    exact bt (fun h => by omega) _ _ _ rfl
 ·have bO : i = e.fen.length := by omega
  subst bO
  rw [lB2] at hnd hall ⊢
  repeat' first | fail
  refine JA (key hnd hall) ?_ (lA0 _)
  exact eE
theorem Al6 {o : List (List Int)} {k : Nat} (hk : k < o.length) : o.flatten = (o.take k).flatten ++ (o[k]?.getD [] ++ (o.drop (k + 1)).flatten) := by
 conv => lhs; rw [← lDx k o, lE7, lBh hk, lD0]
 rw [lA2 hk, lAn]
theorem Ac5 {F : List Int} {o : List (List Int)} {k i : Nat} (hk : k < o.length) : ((F ++ (o.take k).flatten) ++ (o[k]?.getD []).take i).Sublist (F ++ o.flatten) := by
 rw [Al6 hk, lAc]
 exact (lA0 _).append ((lA0 _).append ((List.take_sublist _ _).trans (lAh _ _)))
theorem Aq9 {F : List Int} {o : List (List Int)} {k : Nat} (hk : k < o.length) : (F ++ (o.take k).flatten) ++ o[k]?.getD [] = F ++ (o.take (k + 1)).flatten := by
 rw [lA7 hk, lE7, lAc, lA2 hk]; simp
theorem T1 {C : Cx Tryz.prog} {k : List RItem} {p : List Ev} {e : Exec} {N : Aa} {pa da : Option Addr} {pc dc xb b9 ob oo oc : Nat} (hp : p.length ≤ 16) (ax : e.dn.length = p.length) (ar : e.ord.length = 3) (aO : ∀ l ∈ e.ord, l.length * 8 ≤ 140737488355328) (dF : ∀ a, a < p.length → EvR p e a)
  (vD : e.fen.Nodup)
  (bK : rd N xb 1 1 [.slice da e.dn.length dc]) (bk : rd N xb 2 1 [.slice (some ⟨ob, oo, none⟩) e.ord.length oc])
  (dJ : ∀ b, b < p.length → ∃ db dof, da = some ⟨db, dof, none⟩ ∧ rd N db (dof + b) 1 [vb (B7 e.dn b)])
  (aL : ∀ b, b < p.length → ∃ pb po, pa = some ⟨pb, po, none⟩ ∧ rd N pb (po + b * 6) 6 (Fq (evAt p b)))
  (bs : ∀ k, k < 3 → ∃ a' c', rd N ob (oo + k) 1 [.slice a' (e.ord[k]?.getD []).length c'] ∧ rdS N 1 a' (e.ord[k]?.getD []).length ((e.ord[k]?.getD []).flatMap ei))
  (aI : ¬ Shape p e → ∀ k ρ G, get ρ 4 = some (vb false) → EV C [0, 1, 3, 4, 5, 6, 7, 8, 9, 10, 11, 12, 13, 14, 15, 16] (.code .ret :: k) ρ N G)
  (key : (e.fen ++ e.ord.flatten).Nodup → (∀ k : Nat, k < 3 → (e.ord[k]?.getD []).length = (Ir p e.dn k p.length).length) → (∀ k : Nat, k < 3 → ∀ x ∈ e.ord[k]?.getD [], x ∈ Az p e.dn k) → EV C [0, 1, 3, 4, 5, 6, 7, 8, 9, 10, 11, 12, 13, 14, 15, 16] k [(0, .slice pa p.length pc), (3, pv xb 0)] N []) :
  EV C [0, 1, 3, 4, 5, 6, 7, 8, 9, 10, 11, 12, 13, 14, 15, 16] (.code (.loop Wy) :: .inBlock 4 :: k) [(12, vi 0), (0, .slice pa p.length pc), (3, pv xb 0), (4, vb false), (9, pv b9 0)] N [(b9, Cl 141 ((marks e.fen).map vb))] := by
 refine JC (fun c : Nat => ([(0, .slice pa p.length pc), (3, pv xb 0), (4, vb false), (9, pv b9 0), (12, vi c)], N, [(b9, Cl 141 ((marks (e.fen ++ (e.ord.take c).flatten)).map vb))])) (fun c => c ≤ 3 ∧ (e.fen ++ (e.ord.take c).flatten).Nodup ∧ ∀ x : Nat, x < c → (e.ord[x]?.getD []).length = (Ir p e.dn x p.length).length ∧ ∀ y ∈ e.ord[x]?.getD [], y ∈ Az p e.dn x) (fun c => 3 - c) 0 rfl ⟨lA8 _, by simpa using vD, fun x hx => absurd hx (lBn _)⟩ ?env1 ?sub1 ?_
 case env1 =>
  exact eE
 case sub1 =>
  simp only [lCr, lEp, lAa]
  exact lA0 _
 rintro c ⟨hc, hnd, hall⟩ ih
 dsimp only at hc hnd hall ih ⊢
 refine EV.seq ?_
 refine EV.seq ?_
 repeat' first | refine su ?_ | refine rg ?_ | (refine cX ?_ ?_ <;> intro h <;> try exact Ah h) | exact ⟨⟩ | fail
 ·have cJ : c < 3 := by omega
  have ih2 := fun h1 h2 => ih (c + 1) ⟨by omega, h1, h2⟩ (by omega)
  obtain ⟨la, lc, ed, cn⟩ := bs c cJ
  refine EV.seq ?_
  refine EV.block ?_
  refine EV.seq ?_
  repeat' first | refine rg ?_ | exact ⟨⟩ | fail
  refine EV.seq ?_
  refine EV.seq ?_
  repeat' first | refine su ?_ | refine rg ?_ | exact ⟨⟩ | fail
  refine JC (fun a : Nat => ([(0, .slice pa p.length pc), (3, pv xb 0), (4, vb false), (9, pv b9 0), (12, vi c), (13, vi (Ir p e.dn c a).length), (14, vi a)], N, [(b9, Cl 141 ((marks (e.fen ++ (e.ord.take c).flatten)).map vb))])) (fun a => a ≤ p.length) (fun a => p.length - a) 0 rfl (lA8 _) ?env2 (lA0 _) ?_
  case env2 =>
   exact eE
  intro a ha ih3
  dsimp only at ha ih3 ⊢
  refine EV.seq ?_
  refine EV.seq ?_
  repeat' first | refine su ?_ | refine rg ?_ | (refine cX ?_ ?_ <;> intro h <;> try exact Ah h) | exact ⟨⟩ | fail
  ·have aW : a < p.length := by omega
   have ih4 := ih3 (a + 1) (by omega) (by omega)
   have bL : (Ir p e.dn c a).length ≤ a := A8 _ _
   rw [show Ir p e.dn c (a + 1) = Ir p e.dn c a ++ (if B7 e.dn a && decide ((evAt p a).op.loc = (c : Int)) then [(a : Int)] else []) from Ft _ _] at ih4
   obtain ⟨pb, po, rfl, eL⟩ := aL a aW
   obtain ⟨db, dof, rfl, sq⟩ := dJ a aW
   have cW : rd N pb (po + a * 6 + 1 + 1) 1 [vi (evAt p a).op.loc] := eL.pt 2 1 (by omega) rfl
   generalize Ir p e.dn c a = L at *
   refine EV.seq ?_
   refine EV.block ?_
   repeat' first | refine st ?_ | refine rg ?_ | with_reducible assumption | (refine JD ?_ (fun hc K' hK => ?_) ?_; rotate_left) | (refine cX ?_ ?_ <;> intro h <;> try exact Ah h) | refine ZF ?_ | ((first | refine xm ?_ | refine xn ?_ | fail); try refine nx ?_) | exact ⟨⟩ | fail
   ·rw [if_pos (by simpa using h)] at ih4
    simp only [lA4, lB3, lC1] at ih4
    refine JA ih4 ?_ (lA0 _)
    exact eE
   ·rw [if_neg (by rw [lEr, lBj]; simpa using h), lAa] at ih4
    refine JA ih4 ?_ (lA0 _)
    exact eE
  ·have dd : a = p.length := by omega
   subst dd
   repeat' first | fail
   have cY := Tq dF (c : Int)
   have aK : c < e.ord.length := by omega
   have vE : (e.ord[c]?.getD []).length * 8 ≤ 140737488355328 := by
    rw [lA2 aK, lAn]; exact aO _ (lAm aK)
   have tR : (Ir p e.dn c p.length).length ≤ p.length := A8 _ _
   have j7 : (e.ord[c]?.getD []).length ≠ (Ir p e.dn c p.length).length → ∀ k ρ G, get ρ 4 = some (vb false) → EV C [0, 1, 3, 4, 5, 6, 7, 8, 9, 10, 11, 12, 13, 14, 15, 16] (.code .ret :: k) ρ N G := fun h => aI fun hs => h (by rw [(hs.ord c cJ).length_eq, cY])
   have bt : ∀ i, i < (e.ord[c]?.getD []).length → ¬ (Ae (e.ord[c]?.getD []) i ∈ Az p e.dn c ∧ Ae (e.ord[c]?.getD []) i ∉ (e.fen ++ (e.ord.take c).flatten) ++ (e.ord[c]?.getD []).take i) → ∀ k ρ G, get ρ 4 = some (vb false) → EV C [0, 1, 3, 4, 5, 6, 7, 8, 9, 10, 11, 12, 13, 14, 15, 16] (.code .ret :: k) ρ N G := fun i hi h => aI fun hs => h (by
    refine ⟨(hs.ord c cJ).mem_iff.1 (Vv hi), ?_⟩
    have h1 := hs.nodup.sublist (Ac5 (F := e.fen) (i := i + 1) aK)
    rw [B2 hi, ← lAc, lBo] at h1
    exact fun hm => h1.2.2 _ hm _ (lAi.2 rfl) rfl)
   have js := Aq9 (F := e.fen) aK
   have l7 : (e.ord[c]?.getD []).length = (Ir p e.dn c p.length).length → ((e.fen ++ (e.ord.take c).flatten) ++ e.ord[c]?.getD []).Nodup → (∀ y ∈ e.ord[c]?.getD [], y ∈ Az p e.dn c) → EV C [0, 1, 3, 4, 5, 6, 7, 8, 9, 10, 11, 12, 13, 14, 15, 16] (.inLoop Wy :: .inBlock 4 :: k) [(0, .slice pa p.length pc), (3, pv xb 0), (4, vb false), (9, pv b9 0), (12, vi (c + 1 : Nat))] N [(b9, Cl 141 ((marks ((e.fen ++ (e.ord.take c).flatten) ++ e.ord[c]?.getD [])).map vb))] := fun h1 h2 h3 => by
    rw [js] at h2 ⊢
    refine ih2 h2 (fun x hx => ?_)
    by_cases e1 : x = c
    ·subst e1; exact ⟨h1, h3⟩
    ·exact hall x (by omega)
   generalize hO : e.ord[c]?.getD [] = O at *
   generalize hF : e.fen ++ (e.ord.take c).flatten = F at *
   generalize hL : Ir p e.dn c p.length = L at *
   clear ih ih2 js key aO ih3
   refine EV.seq ?_
   refine EV.seq ?_
   repeat' first | refine su ?_ | refine rg ?_ | (refine cX ?_ ?_ <;> intro h <;> try exact Ah h) | refine ZF ?_ | (refine xn ?_; try refine nx ?_) | exact ⟨⟩ | fail
   ·refine EV.seq ?_
    repeat' first | refine rg ?_ | exact ⟨⟩ | fail
    refine j7 (fun h2 => ?_) _ _ _ rfl
    rw [h2] at h; simp at h
   ·have hlo : O.length = L.length := by
     have : ¬ ((O.length : Int) ≠ (L.length : Int)) := by simpa using h
     omega
    refine EV.seq ?_
    repeat' first | refine su ?_ | refine rg ?_ | exact ⟨⟩ | fail
    rw [← hlo]
    refine JC (fun i : Nat => ([(0, .slice pa p.length pc), (3, pv xb 0), (4, vb false), (9, pv b9 0), (12, vi c), (13, vi O.length), (15, vi i)], N, [(b9, Cl 141 ((marks (F ++ O.take i)).map vb))])) (fun i => i ≤ O.length ∧ (F ++ O.take i).Nodup ∧ ∀ y ∈ O.take i, y ∈ Az p e.dn c) (fun i => O.length - i) 0 rfl ⟨lA8 _, by simpa using hnd, by simp⟩ ?env3 ?sub3 ?_
    case env3 =>
     exact eE
    case sub3 =>
     simp only [lCr, lAa]
     exact lA0 _
    rintro i ⟨hi, j8, gF⟩ ih4
    dsimp only at hi j8 gF ih4 ⊢
    refine EV.seq ?_
    refine EV.seq ?_
    repeat' first | refine su ?_ | refine rg ?_ | (refine cX ?_ ?_ <;> intro h <;> try exact Ah h) | exact ⟨⟩ | fail
    ·have aC : i < O.length := by omega
     have ih5 := fun h1 h2 => ih4 (i + 1) ⟨by omega, h1, h2⟩ (by omega)
     have bt := bt i aC
     obtain ⟨wb, wo, rfl, bA⟩ := Sl.at (sz := 1) (enc := ei) (fun _ => rfl) (by decide) cn (by omega)
     have dH := Cj bA i aC
     have du : Ae O i ∈ Az p e.dn c → Ae O i ∉ F ++ O.take i → (F ++ O.take (i + 1)).Nodup ∧ ∀ y ∈ O.take (i + 1), y ∈ Az p e.dn c := fun h1 h2 => by
      rw [B2 aC]
      refine ⟨?_, fun y hy => ?_⟩
      ·rw [← lAc, lBo]
       refine ⟨j8, by simp, fun x hx y hy e1 => ?_⟩
       rw [lAi] at hy
       subst e1 hy
       exact h2 hx
      ·rcases lB7.1 hy with hy | hy
       ·exact gF y hy
       ·rw [lAi] at hy; rw [hy]; exact h1
     rw [B2 aC, ← lAc] at ih5
     rw [B2 aC, ← lAc] at du
     generalize hfe : Ae O i = f at *
     generalize F ++ O.take i = K at *
     have eX := Ge K
     have l8 := @Bb p e.dn c f
     refine EV.seq ?_
     refine EV.block ?_
     refine EV.seq ?_
     repeat' first | refine rg ?_ | refine ZF ?_ | ((first | refine xm ?_ | refine xn ?_ | fail); try refine nx ?_) | exact ⟨⟩ | fail
     refine EV.seq ?_
     refine EV.seq ?_
     by_cases h0 : f < 0
     ·have eM : decide (f < 0) = true := decide_eq_true h0
      repeat' first | refine st ?_ | (refine EV.reg ?_; (conv => (arg 2; whnf)); (repeat first | refine nx ?_ | simp only [eM])) | (refine A4.intro (fun hc => ?_) (fun hc => ?_) <;> try simp only [ne_eq, lBd, lB9, not_true_eq_false, not_false_eq_true, reduceCtorEq] at hc <;> try (exfalso; first | exact hc | omega | (simp at hc; done))) | (refine cX ?_ ?_ <;> intro h <;> try exact Ah h) | fail
      exact bt (fun h => by obtain ⟨w, hw, _⟩ := l8.1 h.1; omega) _ _ _ rfl
     ·by_cases h1 : f < p.length
      ·obtain ⟨u, rfl⟩ : ∃ u : Nat, f = u := ⟨f.toNat, by omega⟩
       have bw : decide ((u : Int) < 0) = false := decide_eq_false h0
       have j6 : decide ((p.length : Int) ≤ (u : Int)) = false := decide_eq_false (by omega)
       obtain ⟨pb, po, rfl, mD⟩ := aL u (by omega)
       obtain ⟨db, dof, rfl, pB⟩ := dJ u (by omega)
       have bL : rd N pb (po + u * 6 + 1 + 1) 1 [vi (evAt p u).op.loc] := mD.pt 2 1 (by omega) rfl
       have l6 : u < (marks K).length := by rw [eX]; omega
       have nj := Lq l6
       have r6 := P7 (L := K) (show u < 16 by omega)
       have nk : (u : Int) ∈ Az p e.dn c ↔ B7 e.dn u = true ∧ (evAt p u).op.loc = (c : Int) := by
        rw [l8]
        constructor
        ·rintro ⟨w, hw, _, _, q1, q2⟩
         have : u = w := by omega
         subst this; exact ⟨q1, q2⟩
        ·rintro ⟨q1, q2⟩
         refine ⟨u, rfl, by omega, ?_, q1, q2⟩
         intro h5
         have := (dF u (by omega)).do0 (by simp [Ay, h5])
         rw [this] at q1; cases q1
       repeat' first | refine su ?_ | (refine EV.reg ?_; (conv => (arg 2; whnf)); (repeat first | refine nx ?_ | simp only [bw, j6])) | with_reducible assumption | (refine JD ?_ (fun hc K' hK => ?_) ?_; rotate_left) | (refine lAb _ (lAd (Cg (f := vb) l6) ?_); (repeat first | refine nx ?_ | simp only [bw, j6])) | (refine cX ?_ ?_ <;> intro h <;> try exact Ah h) | refine ZF ?_ | ((first | refine xm ?_ | refine xn ?_ | fail); (repeat first | refine nx ?_ | simp only [bw, j6])) | (refine xw ?_; (repeat first | refine nx ?_ | simp only [bw, j6])) | fail
       ·refine EV.seq ?_
        repeat' first | refine rg ?_ | exact ⟨⟩ | fail
        refine bt (fun hh => ?_) _ _ _ rfl
        obtain ⟨q1, q2⟩ := hh
        obtain ⟨q3, q4⟩ := nk.1 q1
        simp [nj, q2, q3, q4] at h
       ·have hq : ((u : Int) ∉ K ∧ B7 e.dn u = true) ∧ (evAt p u).op.loc = (c : Int) := by simpa [nj] using h
        refine ⟨by rw [lA1, eX]; omega, ?_⟩
        rw [Ap vb _ l6, r6]
        obtain ⟨n1, n2⟩ := du (nk.2 ⟨hq.1.2, hq.2⟩) hq.1.1
        repeat' first | refine su ?_ | refine rg ?_ | exact ⟨⟩ | fail
        refine JA (ih5 n1 n2) ?_ (lA0 _)
        exact eE
      ·have bw : decide (f < 0) = false := decide_eq_false h0
       have r7 : decide ((p.length : Int) ≤ f) = true := decide_eq_true (by omega)
       repeat' first | refine st ?_ | (refine EV.reg ?_; (conv => (arg 2; whnf)); (repeat first | refine nx ?_ | simp only [bw, r7])) | (refine A4.intro (fun hc => ?_) (fun hc => ?_) <;> try simp only [ne_eq, lBd, lB9, not_true_eq_false, not_false_eq_true, reduceCtorEq] at hc <;> try (exfalso; first | exact hc | omega | (simp at hc; done))) | (refine cX ?_ ?_ <;> intro h <;> try exact Ah h) | fail
       exact bt (fun h => by obtain ⟨w, hw, dO, _⟩ := l8.1 h.1; omega) _ _ _ rfl
    ·have bO : i = O.length := by omega
     subst bO
     rw [lB2] at j8 gF ⊢
     repeat' first | fail
     refine JA (l7 hlo j8 gF) ?_ (lA0 _)
     exact eE
 ·have kA : c = 3 := by omega
  subst kA
  rw [lAw (by omega)] at hnd
  repeat' first | fail
  refine JA (key hnd (fun k hk => (hall k hk).1) (fun k hk => (hall k hk).2)) ?_ (lAe _)
  exact eE
section
variable {P : Program}
def Bh7 {α : Type} (P : Program) (g : FuncId) (first caps : Array Value) (M : Aa) (L : List α) (El : α → Value → Aa → Prop) : Prop :=
 ∀ (l : Nat) (I : Nat → Aa → Own → Prop) (S : Aa → Own → Prop) (M1 : Aa) (G : Own), M.le M1 →
  (∀ i (h : i < L.length), ∀ M2 G2 v, M1.le M2 → I i M2 G2 → El L[i] v M2 → Oo P l #[v] M2 G2 fun b M3 G3 => (b = .bool true ∧ I (i + 1) M3 G3) ∨ (b = .bool false ∧ S M3 G3)) →
  I 0 M1 G → Con P g (first ++ #[yv l] ++ caps) M1 G fun _ M' G' => I L.length M' G' ∨ S M' G'
theorem Bh7.mono {α : Type} {g : FuncId} {first caps : Array Value} {M M' : Aa} {L : List α} {El : α → Value → Aa → Prop} (h : Bh7 P g first caps M L El) (hM : M.le M') : Bh7 P g first caps M' L El :=
 fun l I S M1 G aY => h l I S M1 G (Aa.le_trans hM aY)
variable {α : Type} {C : Cx P} {V : List Nat} {k : List RItem} {ρ : Env} {M : Aa} {G : Own} {f : A} {ps : List Nat} {asg bd : RCode} {fv : Value} {g : FuncId} {first caps : Array Value}
end
section
variable {M : Aa}
end
variable {P : Program}
end Go.EV

namespace Go.Proofs
open Go.Shelf Go.RowKit Go.Lib Go.Sort
def Tryz.sortInts_ren : Go.Shelf.Ren := ⟨fun | 53 => 167 | 64 => 126 | 63 => 173 | 78 => 150 | 79 => 151 | 70 => 176 | 71 => 177 | 72 => 178 | 73 => 179 | 74 => 180 | 75 => 181 | 59 => 182 | 76 => 183 | 77 => 184 | 88 => 186 | 89 => 161 | 90 => 162 | 91 => 187 | 92 => 188 | 68 => 152 | 96 => 189 | n => n, fun | 22 => 34 | 23 => 3 | 3 => 3 | 51 => 67 | 0 => 0 | 67 => 144 | 69 => 175 | 4 => 4 | 61 => 167 | 60 => 166 | 44 => 171 | 5 => 5 | 9 => 9 | 75 => 181 | 79 => 185 | 83 => 188 | 84 => 189 | n => n, fun | n => n⟩
theorem Tryz.sortInts : Go.Proofs.SlLaysN.n53 Tryz.prog Tryz.sortInts_ren := {
 mixed := by kernel_rfl
 f53 := ⟨Tryz.f167.name, by decide, Tryz.func167.trans (congrArg some (by kernel_rfl))⟩
 f59 := ⟨Tryz.f182.name, by decide, Tryz.func182.trans (congrArg some (by kernel_rfl))⟩
 f63 := ⟨Tryz.f173.name, by decide, Tryz.func173.trans (congrArg some (by kernel_rfl))⟩
 f64 := Tryz.func126.trans (congrArg some (by kernel_rfl))
 f68 := ⟨Tryz.f152.name, by decide, Tryz.func152.trans (congrArg some (by kernel_rfl))⟩
 f70 := ⟨Tryz.f176.name, by decide, Tryz.func176.trans (congrArg some (by kernel_rfl))⟩
 f71 := ⟨Tryz.f177.name, by decide, Tryz.func177.trans (congrArg some (by kernel_rfl))⟩
 f72 := ⟨Tryz.f178.name, by decide, Tryz.func178.trans (congrArg some (by kernel_rfl))⟩
 f73 := ⟨Tryz.f179.name, by decide, Tryz.func179.trans (congrArg some (by kernel_rfl))⟩
 f74 := ⟨Tryz.f180.name, by decide, Tryz.func180.trans (congrArg some (by kernel_rfl))⟩
 f75 := ⟨Tryz.f181.name, by decide, Tryz.func181.trans (congrArg some (by kernel_rfl))⟩
 f76 := ⟨Tryz.f183.name, by decide, Tryz.func183.trans (congrArg some (by kernel_rfl))⟩
 f77 := ⟨Tryz.f184.name, by decide, Tryz.func184.trans (congrArg some (by kernel_rfl))⟩
 f78 := Tryz.func150.trans (congrArg some (by kernel_rfl))
 f79 := Tryz.func151.trans (congrArg some (by kernel_rfl))
 f88 := ⟨Tryz.f186.name, by decide, Tryz.func186.trans (congrArg some (by kernel_rfl))⟩
 f89 := Tryz.func161.trans (congrArg some (by kernel_rfl))
 f90 := Tryz.func162.trans (congrArg some (by kernel_rfl))
 f91 := ⟨Tryz.f187.name, by decide, Tryz.func187.trans (congrArg some (by kernel_rfl))⟩
 f92 := ⟨Tryz.f188.name, by decide, Tryz.func188.trans (congrArg some (by kernel_rfl))⟩
 f96 := ⟨Tryz.f189.name, by decide, Tryz.func189.trans (congrArg some (by kernel_rfl))⟩
 t0 := Tryz.underlying0
 a0 := Tryz.isAgg0
 z0 := Tryz.sizeOf0
 v0 := Tryz.zeroValue0
 t3 := Tryz.underlying3
 a3 := Tryz.isAgg3
 z3 := Tryz.sizeOf3
 v3 := Tryz.zeroValue3
 t4 := Tryz.underlying4
 a4 := Tryz.isAgg4
 z4 := Tryz.sizeOf4
 v4 := Tryz.zeroValue4
 t5 := Tryz.underlying5
 a5 := Tryz.isAgg5
 z5 := Tryz.sizeOf5
 v5 := Tryz.zeroValue5
 t9 := Tryz.underlying9
 a9 := Tryz.isAgg9
 z9 := Tryz.sizeOf9
 v9 := Tryz.zeroValue9
 t22 := Tryz.underlying34
 a22 := Tryz.isAgg34
 z22 := Tryz.sizeOf34
 v22 := Tryz.zeroValue34
 t23 := Tryz.underlying3
 a23 := Tryz.isAgg3
 z23 := Tryz.sizeOf3
 v23 := Tryz.zeroValue3
 t44 := Tryz.underlying171
 a44 := Tryz.isAgg171
 z44 := Tryz.sizeOf171
 v44 := Tryz.zeroValue171
 t51 := Tryz.underlying67
 a51 := Tryz.isAgg67
 z51 := Tryz.sizeOf67
 v51 := Tryz.zeroValue67
 t60 := Tryz.underlying166
 a60 := Tryz.isAgg166
 z60 := Tryz.sizeOf166
 v60 := Tryz.zeroValue166
 t61 := Tryz.underlying167
 a61 := Tryz.isAgg167
 z61 := Tryz.sizeOf167
 v61 := Tryz.zeroValue167
 t67 := Tryz.underlying144
 a67 := Tryz.isAgg144
 z67 := Tryz.sizeOf144
 v67 := Tryz.zeroValue144
 t69 := Tryz.underlying175
 a69 := Tryz.isAgg175
 z69 := Tryz.sizeOf175
 v69 := Tryz.zeroValue175
 t75 := Tryz.underlying181
 a75 := Tryz.isAgg181
 z75 := Tryz.sizeOf181
 v75 := Tryz.zeroValue181
 t79 := Tryz.underlying185
 a79 := Tryz.isAgg185
 z79 := Tryz.sizeOf185
 v79 := Tryz.zeroValue185
 t83 := Tryz.underlying188
 a83 := Tryz.isAgg188
 z83 := Tryz.sizeOf188
 v83 := Tryz.zeroValue188
 t84 := Tryz.underlying189
 a84 := Tryz.isAgg189
 z84 := Tryz.sizeOf189
 v84 := Tryz.zeroValue189 }
end Go.Proofs
namespace Go.EV
open Go.Proofs
section
variable {M : Aa}
end
end Go.EV

namespace Go.EV
open Go.Proofs
section
variable {M : Aa}
open Classical in
open Classical in
open Classical in
end
abbrev ZQ2 : List Nat := [15, 20, 31, 71, 88, 76, 86, 65, 83, 81, 114, 117, 119, 122, 68, 100, 103, 104, 105, 137, 138, 64, 72, 96, 99, 158, 159, 132, 56, 93, 94, 130, 131, 155, 62, 23, 170]

def Fx0 : Sts := Zq 2 24 0<|Zq 3 34 1<|zA 4 (.alloc 45 [Zn, Zn, Zn, Zn])<|zA 5 (.alloc 27 [Zi])<|.nil
def Fx1 : Sts := zA 10 (Zo 1 2)<|zA 11 (Z1 33 10)<|zB 9 11<|zA 12 (Zx 0 9)<|zA 13 (Zx 1 9)<|zA 6 (.alloc 74 [Zn])<|ZW 6 12<|zB 7 13<|.nil
def Fx2 : Sts := zB 14 7<|zA 15 (Zc .neq 14 0)<|.nil
def Fx3 : Sts := zA 16 (.build [Zn, Zn, Zn, Zn] [])<|zB 17 7<|Zw 4 4 16<|ZW 5 17<|.nil
def Fx4 : Sts := zA 18 (zK 6)<|zA 19 (Z1 34 18)<|.nil
def Fx5 : Sts := zA 8 (.alloc 45 [Zn, Zn, Zn, Zn])<|Zw 4 8 20<|.nil
def Fs2 : AT := .q (zC 0 21 (zK 6)<|zC 1 22 (Zo 4 8)<|zC 3 24 (zK 3)<|.nil)<|zE 2 23 (Z2 35 21 22) false (zF<|zE 4 25 (Z2 41 23 24) true (zF<|.fin)<|.no)<|.no
def Fx6 : Sts := zA 26 (Zo 4 8)<|Zw 4 4 26<|.op none (.store 1 (.t 5) (zN 0))<|.nil
def Kh : RCode := (.reg Fx5)
def Ki : RCode := (.block 1 (.seq (.any Fs2) (.cond (.t 25) (Zr Fx6 .ret) .skip)))
def Fx7 : Sts := zA 27 (.build [Zn, Zn, Zn, Zn] [])<|Zw 4 4 27<|.op none (.store 1 (.t 5) (zN 3))<|.nil
def Q0 : RFun := ⟨28, [0, 1, 2, 3, 4, 5, 6, 7, 8, 19, 20], (Zr Fx0 (Zr Fx1 (.seq (Zr Fx2 (.cond (.t 15) (Zr Fx3 .ret) .skip)) (.seq (Zr Fx4 (.block 0 (.rangeF (.t 19) [20] Kh Ki))) (Zr Fx7 .ret))))), [.cellA 4 4, .cell1 5]⟩
theorem Q0_ok : Al Tryz.prog Q0.V ZQ2 17 = some Q0 := by kernel_rfl

def x0V : Value := .agg #[.slice none 0 0, .slice none 0 0, .slice none 0 0, .slice none 0 0]
section
variable {M : Aa}
theorem Xu (xs ys : List Int) (s t : Value) (hs : Sl M 1 ei s xs) (ht : Sl M 1 ei t ys) (hb : xs.length < 1000000) (fB : ys.length ≤ 281474976710656) : Aq Tryz.prog 41 #[s, t] M (vb (decide (xs = ys))) := by
 by_cases hy : ys.length < 1000000
 ·exact Rt xs ys s t hs ht hb hy
 obtain ⟨a, c, rfl, aH⟩ := hs
 obtain ⟨a2, c2, rfl, d4⟩ := ht
 refine Con.enter Q116_ok (args := [.slice a xs.length c, .slice a2 ys.length c2]) (by simp [Bi9]) fun w0 => ?_
 simp only [Bi9, A9]
 repeat' first | refine st ?_ | refine rg ?_ | (refine cX ?_ ?_ <;> intro h <;> try exact Ah h) | exact ⟨⟩ | fail
 (refine rt Q116_ok ?_; try with_reducible exact ⟨⟩)
 rw [decide_eq_false (by rintro rfl; exact hy hb)]
theorem Gv (ts : List (List OpV)) (s : Value) (hs : Dv M 5 Bd s ts) (hb : Sized ts) (x : List Int) (v : Value) (hv : Sl M 1 ei v x) (dj : x.length ≤ 281474976710656) :
  Con Tryz.prog 17 #[.agg #[s], v] M [] fun u M' _ => (A1 ts ≠ 0 ∧ u = .tuple #[x0V, vi (A1 ts)]) ∨
   (A1 ts = 0 ∧ ((∃ e ve, e ∈ Cf (Ac ts) ∧ Ar (Ac ts) e = x ∧ u = .tuple #[ve, vi 0] ∧ IsX M' ve e) ∨ (¬ Pq (Ac ts) x ∧ u = .tuple #[x0V, vi 3]))) := by
 have aM := hs
 have bY := hv
 obtain ⟨a, c, vs, rfl, hl, aH, hk⟩ := hs
 obtain ⟨xa, xc, rfl, qA⟩ := hv
 refine Con.enter Q0_ok (args := [.agg #[.slice a ts.length c], .slice xa x.length xc]) (by simp [Q0]) fun w0 => ?_
 simp only [Q0, A9]
 repeat' first | refine st ?_ | refine rg ?_ | ((first | with_reducible intro b | refine xrA rfl ?_ | fail); try refine nx ?_) | exact ⟨⟩ | fail
 refine Con.callS (G1 := []) (Ah4 ts _ aM hb) ?_
 rintro v M1 G1 bv ⟨rfl, (⟨hne, rfl⟩ | ⟨aK, s', rfl, bz⟩)⟩
 ·simp only [wpS, wpA, Js, push_cast, lB8, reduceIte, Nat.reduceEqDiff, reduceCtorEq, Nat.reduceAdd, Nat.reduceSub, Nat.reduceMul, Int.reduceToNat, Nat.reduceLeDiff]
  repeat' first | refine st ?_ | (refine EV.reg ?_; (conv => (arg 2; whnf)); (repeat first | refine nx ?_ | simp only [hne])) | (refine cX ?_ ?_ <;> intro h <;> try exact Ah h) | (with_reducible intro b; (repeat first | refine nx ?_ | simp only [hne])) | (refine xw ?_; (repeat first | refine nx ?_ | simp only [hne])) | fail
  (refine rt Q0_ok ?_; try with_reducible exact ⟨⟩)
  refine ⟨_, Bm (T := 45) (cs := [.slice none 0 0, .slice none 0 0, .slice none 0 0, .slice none 0 0]) (by simp) rfl (by simp), _, Bm (T := 27) (cs := [vi (A1 ts)]) (by simp) rfl (by simp), ?_⟩
  exact .inl rfl
 ·have hp := He aK
  have fu := bz
  obtain ⟨pa, pc, rfl, an⟩ := fu
  (refine nx ?_; try with_reducible exact ⟨⟩)
  repeat' first | refine st ?_ | refine rg ?_ | (refine cX ?_ ?_ <;> intro h <;> try exact Ah h) | ((first | with_reducible intro b | refine xsA rfl ?_ | fail); try refine nx ?_) | (refine xw ?_; refine nx ?_) | exact ⟨⟩ | fail
  refine Con.callS (G1 := []) (R1 _ hp bz) ?_
  rintro v M2 G2 bS ⟨g2, caps2, rfl, iP⟩
  repeat' first | refine su ?_ | fail
  rename_i lb xb rb eb
  obtain ⟨pb, rfl⟩ : ∃ x, x = b := ⟨_, rfl⟩
  refine JG [(rb, Cl 45 [.slice none 0 0, .slice none 0 0, .slice none 0 0, .slice none 0 0]), (eb, Cl 27 [vi 0])] ?_
  generalize hR : M2.add _ = N
  have aA : M2.le N := hR ▸ JB _ _
  have iS : rd N pb 0 1 [.slice pa (Ac ts).length pc] := hR ▸ Bm (T := 74) (cs := [.slice pa (Ac ts).length pc]) (by simp) rfl (by simp)
  have bX : rd N xb 0 1 [.slice xa x.length xc] := hR ▸ Bm (T := 34) (cs := [.slice xa x.length xc]) (by simp) rfl (by simp)
  clear hR
  have r8 := Aa.le_trans bv (Aa.le_trans bS aA)
  have lL := bz.mono (Aa.le_trans bS aA)
  have lM := iP.mono aA
  have vF := bY.mono r8
  refine JE (ρ' := [(3, pv xb 0), (4, pv rb 0), (5, pv eb 0), (6, pv pb 0), (19, .func (.func g2) #[] caps2)]) (G' := [(rb, Cl 45 [.slice none 0 0, .slice none 0 0, .slice none 0 0, .slice none 0 0]), (eb, Cl 27 [vi 0])]) ?_ ?env1
  case env1 =>
   exact eE
  refine EV.overM rfl rfl rfl lM (fun d es M G' => G'.Perm ((d, Obj.deferred (some [])) :: [(rb, Cl 45 [.slice none 0 0, .slice none 0 0, .slice none 0 0, .slice none 0 0]), (eb, Cl 27 [vi 0])]) ∧ ∀ e ∈ es, Ar (Ac ts) e ≠ x)
   (fun d c M G' => c = .ret ∧ ∃ e f1 f2 f3 f4, e ∈ Cf (Ac ts) ∧ Ar (Ac ts) e = x ∧ IsX M (.agg #[f1, f2, f3, f4]) e ∧ G'.Perm ((d, Obj.deferred (some [])) :: [(rb, Cl 45 [f1, f2, f3, f4]), (eb, Cl 27 [vi 0])])) ?_ ?_ ?_ ?_ ?_ ?_
  ·rintro d es M4 M5 G4 aY h
   exact h
  ·rintro d c M4 M5 G4 aY ⟨h0, e, f1, f2, f3, f4, h1, h2, h3, h4⟩
   exact ⟨h0, e, f1, f2, f3, f4, h1, h2, IsX.mono aY h3, h4⟩
  ·intro d
   exact ⟨lAf _, fun e h => nomatch h⟩
  ·intro l d r aT aX es e v M4 G4 w1 F he bq ⟨d8, fK⟩ d7
   refine JF ?_ (lCi _ d8)
   have hx := execsP_ok hp he
   have fE : IsX M4 v e := d7
   obtain ⟨xf, xd, xo, xn, rfl, ⟨fa, fc, rfl, _⟩, ⟨da, dc, rfl, _⟩, ⟨oa, oc, ovs, rfl, _, _, _⟩, ⟨na, nc, rfl, _⟩⟩ := d7
   repeat' first | refine rg ?_ | (with_reducible intro b; try refine nx ?_) | (refine xw ?_; refine nx ?_) | exact ⟨⟩ | fail
   refine EV.frz [(b, Cl 45 [.slice fa e.frm.length fc, .slice da e.dn.length dc, .slice oa e.ord.length oc, .slice na e.fen.length nc])] ?_
   generalize hR : M4.add _ = N4
   have cC : M4.le N4 := hR ▸ JB _ _
   have vG : rd N4 b 0 4 [.slice fa e.frm.length fc, .slice da e.dn.length dc, .slice oa e.ord.length oc, .slice na e.fen.length nc] := hR ▸ An 0 rfl rfl (by simp)
   clear hR
   refine JQ aT ?_
   refine EV.block (EV.seq ?_)
   have j9 := Aa.le_trans bq cC
   have lN := iS.mono j9
   have r9 := bX.mono j9
   have mA := lL.mono j9
   have vH := vF.mono j9
   have aZ := fun G => Nb (M := N4.add G) (Ac ts) _ (mA.mono (JB _ _)) hp e _ (fE.mono (Aa.le_trans cC (JB _ _))) hx
   refine EV.any (t := Fs2) [] (lAe _) ?_
   simp only [Aj, As, Ak, Au, reduceIte, Nat.reduceEqDiff]
   repeat' first | ((first | refine zo (fun lq aD => ?_) | refine zl ?_ | fail); try refine nz ?_) | refine zq (fun lq tq aD aB => ?_) | ((with_reducible refine JK (aZ _) ?_) ;  rintro v1 M1 G1 ⟨o1, rfl, bU, rfl⟩; try refine nz ?_) | (refine ZA (fun tq aB => ?_) (fun tq aB => ?_) <;> try refine nz ?_) | (refine ZB (fun tq aB => ?_) (fun tq aB => ?_) <;> try refine nz ?_) | exact zn | ((first | refine xm ?_ | refine xn ?_ | refine lAd (Aa.le_refl _) (lAd (Ax ?_) ?_); focus ((repeat' first | exact lA0 _ | exact lAe _ | exact lAh _ _ | refine lAg _ ?_ | refine lAo ?_ _ | refine lA9 ?_ | refine lAq _ ?_); done) | fail); try refine nz ?_) | exact ⟨⟩ | fail
   have ar : (Ar (Ac ts) e).length < 1000000 := by
    have h1 := Cb (Ac ts) (Aw (Ac ts) e.frm) (Ac ts).length
    have h2 := hp.len
    have h3 := hx.ol
    unfold Ar
    rw [lA4, lA1]; omega
   refine Aq.call (Xu (Ar (Ac ts) e) x _ _ (I4 (T := 3) bU (fun q hq => by simp [hq])) (vH.mono (JB _ _)) ar dj) ?_
   repeat' first | (refine zl ?_; try refine nz ?_) | refine zq (fun lq tq aD aB => ?_) | refine zf ?_ | exact ⟨⟩ | fail
   refine JH (G' := (l, Obj.loop { r with state := .busy }) :: (d, Obj.deferred (some [])) :: [(rb, Cl 45 [.slice none 0 0, .slice none 0 0, .slice none 0 0, .slice none 0 0]), (eb, Cl 27 [vi 0])]) ?_
   repeat' first | refine st ?_ | refine rg ?_ | (refine cX ?_ ?_ <;> intro h <;> try exact Ah h) | (refine xm ?_; try refine nx ?_) | (refine xw ?_; refine nx ?_) | exact ⟨⟩ | fail
   ·exact JS (lAf _) ⟨rfl, e, he, by simpa using h, _, _, _, _, IsX.mono cC fE, lAf _⟩
   ·refine JM aT aX (lAf _) ⟨lAf _, fun e1 h1 => ?_⟩
    rcases lB7.1 h1 with h1 | h1
    ·exact fK e1 h1
    ·simp only [lAi] at h1
     subst h1; simpa using h
  ·rintro d M4 G4 bq ⟨d8, fK⟩
   refine JF ?_ d8
   repeat' first | refine st ?_ | refine rg ?_ | (refine xw ?_; refine nx ?_) | exact ⟨⟩ | fail
   refine JU Q0_ok (ms := [d]) (G1 := [(rb, Cl 45 [.slice none 0 0, .slice none 0 0, .slice none 0 0, .slice none 0 0]), (eb, Cl 27 [vi 3])]) (lAf _) ?_
   (repeat first | refine nx ?_ | simp only [Q0])
   refine ⟨_, Bm (T := 45) (cs := [.slice none 0 0, .slice none 0 0, .slice none 0 0, .slice none 0 0]) (by simp) rfl (by simp), _, Bm (T := 27) (cs := [vi 3]) (by simp) rfl (by simp), ?_⟩
   exact .inr ⟨aK, .inr ⟨fun ⟨e, h1, h2⟩ => fK e h1 h2, rfl⟩⟩
  ·rintro d c M4 G4 bq ⟨rfl, e, f1, f2, f3, f4, he, hx, hX, d8⟩
   refine JF ?_ d8
   refine JU Q0_ok (ms := [d]) (G1 := [(rb, Cl 45 [f1, f2, f3, f4]), (eb, Cl 27 [vi 0])]) (lAf _) ?_
   (repeat first | refine nx ?_ | simp only [Q0])
   refine ⟨_, Bm (T := 45) (cs := [f1, f2, f3, f4]) (by simp) rfl (by simp), _, Bm (T := 27) (cs := [vi 0]) (by simp) rfl (by simp), ?_⟩
   exact .inr ⟨aK, .inl ⟨e, he, hx, _, rfl, hX⟩⟩
end
structure XSz (e : Exec) : Prop where
 fen : e.fen.length * 8 ≤ 140737488355328
 frm : e.frm.length ≤ 140737488355328
 dn : e.dn.length ≤ 140737488355328
 ord : e.ord.length ≤ 140737488355328
 row : ∀ l ∈ e.ord, l.length * 8 ≤ 140737488355328
theorem Bh8 {p : List Ev} (hp : POk p) {e : Exec} (hx : XOk p e) : XSz e := by
 have hl := hp.len
 have h1 := hx.fin.2
 refine ⟨?_, ?_, ?_, ?_, fun l bf => ?_⟩
 ·omega
 ·have := hx.fl; omega
 ·have := hx.dl; omega
 ·have := hx.ol; omega
 ·have := (hx.oin l bf).2; omega
section
variable {M : Aa}
theorem Vw (ts : List (List OpV)) (s : Value) (hs : Dv M 5 Bd s ts) (hb : Sized ts) (x : List Int) (v : Value) (hv : Sl M 1 ei v x) (dj : x.length ≤ 281474976710656) :
  Con Tryz.prog 16 #[.agg #[s], v] M [] fun u _ _ => (A1 ts ≠ 0 ∧ u = .tuple #[vb false, vi (A1 ts)]) ∨
   (A1 ts = 0 ∧ ((Pq (Ac ts) x ∧ u = .tuple #[vb true, vi 0]) ∨ (¬ Pq (Ac ts) x ∧ u = .tuple #[vb false, vi 0]))) := by
 have aM := hs
 have bY := hv
 obtain ⟨a, c, vs, rfl, hl, aH, hk⟩ := hs
 obtain ⟨xa, xc, rfl, qA⟩ := hv
 refine Con.enter Q1_ok (args := [.agg #[.slice a ts.length c], .slice xa x.length xc]) (by simp [Q1]) fun w0 => ?_
 simp only [Q1, A9]
 repeat' first | refine st ?_ | refine rg ?_ | ((first | with_reducible intro b | refine xrA rfl ?_ | fail); try refine nx ?_) | exact ⟨⟩ | fail
 refine Con.callS (G1 := []) (Gv ts _ aM hb x _ bY dj) ?_
 rintro v M1 G1 bv (⟨hne, rfl⟩ | ⟨aK, ⟨e, ve, he, iu, rfl, vI⟩ | ⟨aI, rfl⟩⟩)
 ·have h3 : A1 ts ≠ 3 := by unfold A1; split <;> (try split) <;> (try split) <;> decide
  simp only [x0V]
  (refine nx ?_; try with_reducible exact ⟨⟩)
  repeat' first | refine st ?_ | (refine EV.reg ?_; (conv => (arg 2; whnf)); (repeat first | refine nx ?_ | simp only [hne, h3])) | (refine cX ?_ ?_ <;> intro h <;> try exact Ah h) | (with_reducible intro b; (repeat first | refine nx ?_ | simp only [hne, h3])) | (refine xw ?_; (repeat first | refine nx ?_ | simp only [hne, h3])) | fail
  (refine rt Q1_ok ?_; try with_reducible exact ⟨⟩)
  exact .inl (by simp)
 ·obtain ⟨f, d, o, n, rfl, ⟨fa, fc, rfl, _⟩, ⟨da, dc, rfl, _⟩, ⟨oa, oc, ovs, rfl, _, _, _⟩, ⟨na, nc, rfl, _⟩⟩ := vI
  (refine nx ?_; try with_reducible exact ⟨⟩)
  repeat' first | refine st ?_ | refine rg ?_ | (refine cX ?_ ?_ <;> intro h <;> try exact Ah h) | (with_reducible intro b; try refine nx ?_) | (refine xw ?_; refine nx ?_) | exact ⟨⟩ | fail
  (refine rt Q1_ok ?_; try with_reducible exact ⟨⟩)
  first | exact .inr ⟨aK, .inl ⟨⟨e, he, iu⟩, rfl⟩⟩ | exact .inr ⟨aK, .inl ⟨e, he, iu⟩⟩
 ·simp only [x0V]
  (refine nx ?_; try with_reducible exact ⟨⟩)
  repeat' first | refine st ?_ | refine rg ?_ | (refine cX ?_ ?_ <;> intro h <;> try exact Ah h) | (with_reducible intro b; try refine nx ?_) | (refine xw ?_; refine nx ?_) | exact ⟨⟩ | fail
  (refine rt Q1_ok ?_; try with_reducible exact ⟨⟩)
  exact .inr ⟨aK, .inr aI⟩
end
section
variable {M : Aa}
open Classical in
theorem Vx (p : List Ev) (s : Value) (hs : Sl M 6 Fq s p) (hp : p.length ≤ 16) (dt : ∀ i, i < p.length → 0 ≤ (evAt p i).op.kind ∧ (evAt p i).op.kind ≤ 5) (e : Exec) (v : Value) (hv : IsX M v e) (hz : XSz e) :
  Aq Tryz.prog 42 #[s, v] M (vb (decide (Shape p e))) := by
 obtain ⟨pa, pc, rfl, an⟩ := hs
 obtain ⟨f, d, o, n, rfl, ⟨fa, fc, rfl, bc⟩, ⟨da, dc, rfl, aH⟩, ⟨oa, oc, ovs, rfl, ar, bQ, bi⟩, ⟨na, nc, rfl, kf⟩⟩ := hv
 have wL := hz.frm
 have gt := hz.dn
 have wM := hz.ord
 have wN := hz.fen
 refine Con.enter Q96_ok (args := [.slice pa p.length pc, .agg #[.slice fa e.frm.length fc, .slice da e.dn.length dc, .slice oa e.ord.length oc, .slice na e.fen.length nc]]) (by simp [Q96]) fun w0 => ?_
 simp only [Q96, A9]
 refine EV.seq ?_
 repeat' first | refine rg ?_ | (with_reducible intro b; try refine nx ?_) | exact ⟨⟩ | fail
 obtain ⟨xb, rfl⟩ : ∃ x, x = b := ⟨_, rfl⟩
 refine EV.frz [(xb, Cl 37 [.slice fa e.frm.length fc, .slice da e.dn.length dc, .slice oa e.ord.length oc, .slice na e.fen.length nc])] ?_
 generalize hR : M.add _ = N
 have aA : M.le N := hR ▸ JB _ _
 have bX : rd N xb 0 4 [.slice fa e.frm.length fc, .slice da e.dn.length dc, .slice oa e.ord.length oc, .slice na e.fen.length nc] := hR ▸ An 0 rfl rfl (by simp)
 clear hR
 have cF := bX.pt 0 1 (by omega) rfl
 have bK := bX.pt 1 1 (by omega) rfl
 have bk := bX.pt 2 1 (by omega) rfl
 have rY := bX.pt 3 1 (by omega) rfl
 simp only [lBi] at cF bK bk rY
 have aI : ¬ Shape p e → ∀ k ρ G, get ρ 4 = some (vb false) → EV (Cx.fn Tryz.prog 42 264 w0 (List.map (fun x : Nat × Obj => x.fst) []) M fun u x x_1 => u = vb (decide (Shape p e))) [0, 1, 3, 4, 5, 6, 7, 8, 9, 10, 11, 12, 13, 14, 15, 16] (.code .ret :: k) ρ N G := by
  intro hn k ρ G h4
  refine JA (ρ' := [(4, vb false)]) (G' := []) ?_ (by simpa using h4) (lAe _)
  (refine rt Q96_ok ?_; try with_reducible exact ⟨⟩)
  rw [decide_eq_false hn]
 refine EV.seq ?_
 refine EV.seq ?_
 repeat' first | refine su ?_ | refine rg ?_ | with_reducible assumption | (refine JD ?_ (fun hc K' hK => ?_) ?_; rotate_left) | (refine cX ?_ ?_ <;> intro h <;> try exact Ah h) | (refine xn ?_; try refine nx ?_) | exact ⟨⟩ | fail
 ·refine EV.seq ?_
  repeat' first | refine rg ?_ | exact ⟨⟩ | fail
  refine aI (fun hs => ?_) _ _ _ rfl
  have h1 := hs.fl
  have h2 := hs.dl
  have h3 := hs.ol
  simp [h1, h2, h3] at h
 have nl : e.frm.length = p.length ∧ e.dn.length = p.length ∧ e.ord.length = 3 := by
  skip
  omega
 clear h
 obtain ⟨aj, ax, eG⟩ := nl
 obtain ⟨ob, oo, rfl, bC⟩ := Dj.at bQ ar bi (by omega)
 have cS := an.mono aA
 have aL : ∀ b, b < p.length → ∃ pb po, pa = some ⟨pb, po, none⟩ ∧ rd N pb (po + b * 6) 6 (Fq (evAt p b)) := fun b hb => by
  obtain ⟨pb, po, e1, hat⟩ := Sl.at (sz := 6) (enc := Fq) (fun _ => rfl) (by decide) cS (by omega)
  have := hat b hb
  rw [← Dc hb] at this
  exact ⟨pb, po, e1, this⟩
 have cT : ∀ b, b < p.length → ∃ fb fo, fa = some ⟨fb, fo, none⟩ ∧ rd N fb (fo + b) 1 [vi (Af e b)] := fun b hb => by
  obtain ⟨fb, fo, e1, hat⟩ := Sl.at (sz := 1) (enc := ei) (fun _ => rfl) (by decide) bc (by omega)
  exact ⟨fb, fo, e1, (Cj hat b (by omega)).mono aA⟩
 have dJ : ∀ b, b < p.length → ∃ db dof, da = some ⟨db, dof, none⟩ ∧ rd N db (dof + b) 1 [vb (B7 e.dn b)] := fun b hb => by
  obtain ⟨db, dof, e1, hat⟩ := Sl.at (sz := 1) (enc := eb) (fun _ => rfl) (by decide) (aH.mono aA) (by omega)
  have := hat b (by omega)
  rw [lAu] at this
  refine ⟨db, dof, e1, ?_⟩
  rw [B7, lA2 (by omega)]; exact this
 have bs : ∀ k, k < 3 → ∃ a' c', rd N ob (oo + k) 1 [.slice a' (e.ord[k]?.getD []).length c'] ∧ rdS N 1 a' (e.ord[k]?.getD []).length ((e.ord[k]?.getD []).flatMap ei) := fun k hk => by
  obtain ⟨a', c', h1, _, h2⟩ := bC k (by omega)
  rw [lAu] at h1
  rw [lA2 (show k < e.ord.length by omega), lAn]
  exact ⟨a', c', h1.mono aA, h2.mono aA⟩
 clear bC bQ bi bc an cS aH
 refine EV.seq ?_
 repeat' first | refine rg ?_ | exact ⟨⟩ | fail
 refine EV.seq ?_
 refine EV.seq ?_
 repeat' first | refine su ?_ | refine rg ?_ | exact ⟨⟩ | fail
 refine JA (Tz (pc := pc) hp dt aj ax cF bK cT dJ aL aI fun dF => ?_) ?env1 (lAe _)
 case env1 =>
  exact eE
 have aP : (A5 p).length ≤ p.length := A8 _ _
 refine EV.seq ?_
 refine EV.seq ?_
 repeat' first | refine su ?_ | refine rg ?_ | (refine cX ?_ ?_ <;> intro h <;> try exact Ah h) | (refine xn ?_; try refine nx ?_) | exact ⟨⟩ | fail
 ·refine EV.seq ?_
  repeat' first | refine rg ?_ | exact ⟨⟩ | fail
  refine aI (fun hs => ?_) _ _ _ rfl
  have h1 := hs.fen.length_eq
  rw [h1] at h
  simp at h
 have bu : e.fen.length = (A5 p).length := by
  have : ¬ ((e.fen.length : Int) ≠ ((A5 p).length : Int)) := by simpa using h
  omega
 clear h
 refine EV.seq ?_
 repeat' first | refine rg ?_ | (with_reducible intro b; try refine nx ?_) | exact ⟨⟩ | fail
 refine EV.seq ?_
 refine EV.seq ?_
 repeat' first | refine su ?_ | refine rg ?_ | exact ⟨⟩ | fail
 refine JA (T0 (pc := pc) (b9 := b) (na := na) (nc := nc) hp rY (by omega) (kf.mono aA) aL aI fun rf jh => ?_) ?env2 ?sub2
 case env2 =>
  exact eE
 case sub2 =>
  exact lA0 _
 refine EV.seq ?_
 refine EV.seq ?_
 repeat' first | refine su ?_ | refine rg ?_ | exact ⟨⟩ | fail
 refine JA (T1 (pc := pc) (b9 := b) hp ax eG hz.row dF rf bK bk dJ aL bs aI fun hnd qu fN => ?_) ?env3 (lA0 _)
 case env3 =>
  exact eE
 have pC : Shape p e := Ap9 dt aj ax eG dF hnd bu jh qu fN
 refine EV.seq ?_
 repeat' first | refine rg ?_ | exact ⟨⟩ | fail
 (refine rt Q96_ok ?_; try with_reducible exact ⟨⟩)
 rw [decide_eq_true pC]
end
theorem Vy {α : Type} (f : α → Value) : ∀ (xs : List α), xs.flatMap (fun x => [f x]) = xs.map f
 | [] => rfl
 | x :: xs => by rw [lC2, Vy f xs]; rfl
theorem Vz {α : Type} {N : Aa} {b n : Nat} {T : TypeId} {f : α → Value} {xs : List α} (h : N b (Cl T (xs.map f))) (hn : xs.length = n) : Sl N 1 (fun x => [f x]) (Av b n n) xs := by
 refine ⟨some ⟨b, 0, none⟩, n, by rw [hn], .inr ⟨b, 0, rfl, _, T, (0, 0), h, ?_, ?_⟩⟩
 ·simp
 ·rw [Vy, lAu, lBr]
  show _ = (xs.map f).take xs.length
  rw [lAw (by simp)]
section
variable {M : Aa}
theorem P9 (ts : List (List OpV)) (s : Value) (hs : Dv M 5 Bd s ts) (aK : A1 ts = 0) (e : Exec) (v : Value) (hv : IsX M v e) (hz : XSz e) :
  Aq Tryz.prog 19 #[.agg #[s], v] M (vi (Ei (Ac ts) e)) := by
 have aM := hs
 have bY := hv
 have cg := Cm aK
 have hp := He aK
 have hm := Jl ts
 have dt := Jk aK
 obtain ⟨a, c, vs, rfl, hl, aH, hk⟩ := hs
 obtain ⟨f, d, o, n, rfl, ⟨fa, fc, rfl, _⟩, ⟨da, dc, rfl, _⟩, ⟨oa, oc, ovs, rfl, _, _, _⟩, ⟨na, nc, rfl, _⟩⟩ := hv
 refine Con.enter Q75_ok (args := [.agg #[.slice a ts.length c], .agg #[.slice fa e.frm.length fc, .slice da e.dn.length dc, .slice oa e.ord.length oc, .slice na e.fen.length nc]]) (by simp [Q75]) fun w0 => ?_
 simp only [Q75, A9]
 repeat' first | refine st ?_ | refine rg ?_ | ((first | with_reducible intro b | refine xrA rfl ?_ | fail); try refine nx ?_) | exact ⟨⟩ | fail
 obtain ⟨xb, rfl⟩ : ∃ x, x = b := ⟨_, rfl⟩
 refine Con.callS (G1 := []) (Jb ts _ aM aK) ?_
 rintro v M1 G1 bv fL
 have ba := fL
 obtain ⟨pa, pc, rfl, an⟩ := fL
 generalize Ac ts = p at *
 refine JG [] ?_
 generalize hR : M1.add _ = N
 have aA : M1.le N := hR ▸ JB _ _
 have bX : rd N xb 0 4 [.slice fa e.frm.length fc, .slice da e.dn.length dc, .slice oa e.ord.length oc, .slice na e.fen.length nc] := hR ▸ Bm (T := 37) (cs := [.slice fa e.frm.length fc, .slice da e.dn.length dc, .slice oa e.ord.length oc, .slice na e.fen.length nc]) (by simp) rfl (by simp)
 clear hR
 replace ba := ba.mono aA
 replace bY := IsX.mono (Aa.le_trans bv aA) bY
 clear aM aH hk an
 have pC := fun G => Vx (M := N.add G) p _ (ba.mono (JB _ _)) (by omega) dt e _ (IsX.mono (JB _ _) bY) hz
 refine EV.seq ?_
 refine EV.seq ?_
 repeat' first | refine su ?_ | refine rg ?_ | (refine Aq.call (pC _) ?_; try refine nx ?_) | (refine cX ?_ ?_ <;> intro h <;> try exact Ah h) | (refine xm ?_; try refine nx ?_) | exact ⟨⟩ | fail
 ·refine EV.seq ?_
  repeat' first | refine rg ?_ | exact ⟨⟩ | fail
  have rh : ¬ Shape p e := by simpa using h
  (refine rt Q75_ok ?_; try with_reducible exact ⟨⟩)
  rw [Tr rh]
 have bG : Shape p e := by simpa using h
 clear h pC
 have hx := bG.xok (.inr trivial)
 have aj := bG.fl
 have be : ∀ i, i < p.length → Af e i < p.length := fun i hi => (hx.fr i hi).1
 refine EV.seq ?_
 repeat' first | refine rg ?_ | (refine xm ?_; try refine nx ?_) | exact ⟨⟩ | fail
 refine Con.callS (G1 := []) (Hh p _ ba (by omega) e _ bY aj be) ?_
 rintro v M2 G2 bS ⟨rb, lb, kb, rfl, aG, rfl⟩
 refine JG [] ?_
 generalize hR : M2.add _ = N2
 have fD : N.le N2 := hR ▸ Aa.le_trans bS (JB _ _)
 have gE : Sl N2 1 eb (Av kb p.length p.length) (Bh p e.frm).k := by rw [← hR]; exact Vz (T := 4) (.inr (by simp)) aG.k
 have fH : Sl N2 1 ei (Av rb p.length p.length) (Bh p e.frm).r := by rw [← hR]; exact Vz (T := 3) (.inr (by simp)) aG.r
 clear hR bS
 replace ba := ba.mono fD
 replace bY := IsX.mono fD bY
 replace bX := bX.mono fD
 have ir := fun G => Nr (M := N2.add G) p _ (ba.mono (JB _ _)) (by omega) e _ (IsX.mono (JB _ _) bY) bG.dl _ _ (fH.mono (JB _ _)) (gE.mono (JB _ _)) aG
 refine EV.seq ?_
 refine EV.seq ?_
 repeat' first | refine su ?_ | refine rg ?_ | (refine Aq.call (ir _) ?_; try refine nx ?_) | (refine cX ?_ ?_ <;> intro h <;> try exact Ah h) | (refine xm ?_; try refine nx ?_) | exact ⟨⟩ | fail
 ·refine EV.seq ?_
  repeat' first | refine rg ?_ | exact ⟨⟩ | fail
  have rh : ∃ a, a < p.length ∧ Hv p e a = false := by
   have h' : (List.range p.length).all (Hv p e) = false := by simpa using h
   obtain ⟨a, ha, hb⟩ := lDo.1 h'
   exact ⟨a, lAl.1 ha, by simpa using hb⟩
  obtain ⟨a, ha, hb⟩ := rh
  (refine rt Q75_ok ?_; try with_reducible exact ⟨⟩)
  rw [Vl bG ha hb]
 have pD : Tn p e := by
  have h' : (List.range p.length).all (Hv p e) = true := by simpa using h
  exact (Ln bG).1 fun a ha => lAz.1 h' a (lAl.2 ha)
 clear h ir gE fH
 refine EV.seq ?_
 repeat' first | refine rg ?_ | (refine xm ?_; try refine nx ?_) | exact ⟨⟩ | fail
 refine Con.callS (G1 := []) (Kg p _ ba (by omega) e _ bY aj be) ?_
 rintro v M3 G3 dB (⟨dK, rfl⟩ | ⟨dK, rv, lv, rfl, fH, bF⟩)
 ·simp only [wpS, wpA, Js, push_cast, lB8, reduceIte, Nat.reduceEqDiff, reduceCtorEq, Nat.reduceAdd, Nat.reduceSub, Nat.reduceMul, Int.reduceToNat, Nat.reduceLeDiff]
  refine EV.seq ?_
  refine EV.seq ?_
  repeat' first | refine rg ?_ | (refine cX ?_ ?_ <;> intro h <;> try exact Ah h) | exact ⟨⟩ | fail
  refine EV.seq ?_
  repeat' first | refine rg ?_ | exact ⟨⟩ | fail
  obtain ⟨a, ha, hb⟩ := lDo.1 dK
  (refine rt Q75_ok ?_; try with_reducible exact ⟨⟩)
  rw [Vm bG pD (lAl.1 ha) (by simpa using hb)]
 refine JG [] ?_
 generalize hR : M3.add _ = N3
 have l9 : N2.le N3 := hR ▸ Aa.le_trans dB (JB _ _)
 clear hR dB fH bF
 replace ba := ba.mono l9
 replace bY := IsX.mono l9 bY
 replace bX := bX.mono l9
 have aP : p.length ≤ 16 := by omega
 have b7 := Vb aP hm bG
 have dL : e.fen.length ≤ 16 := by have := hx.fin.2; omega
 have eN := fun G => (show Aq _ _ _ (N3.add G) _ from Fr (M := N3.add G) p _ (ba.mono (JB _ _)) aP)
 have fg := fun G => (show Aq _ _ _ (N3.add G) _ from Jp (M := N3.add G) p _ (ba.mono (JB _ _)) aP e _ (IsX.mono (JB _ _) bY) aj be)
 have fd := fun G => (show Aq _ _ _ (N3.add G) _ from Kf (M := N3.add G) e _ (IsX.mono (JB _ _) bY) dL b7)
 have gg := thrR_ok (p := p) aP
 have eQ := fromR_ok (p := p) (e := e) aP
 have gu := turnsR_ok (fen := e.fen) b7
 have fe := fun G => (show Aq _ _ _ (N3.add G) _ from Dn (M := N3.add G) _ _ eQ gu)
 have ff := fun G => (show Aq _ _ _ (N3.add G) _ from Dn (M := N3.add G) _ _ gg (unionR_ok eQ gu))
 have f9 := unionR_ok gg (unionR_ok eQ gu)
 have dI := fun G => (show Aq _ _ _ (N3.add G) _ from Fa (M := N3.add G) _ f9)
 have fh := fun G => Gs (M := N3.add G) _ f9.close
 refine EV.seq ?_
 refine EV.seq ?_
 repeat' first | refine su ?_ | refine rg ?_ | (refine cX ?_ ?_ <;> intro h <;> try exact Ah h) | exact ⟨⟩ | fail
 refine EV.seq ?_
 refine EV.seq ?_
 refine EV.any (t := Ar8) [] (lA0 _) ?_
 simp only [Aj, As, Ak, Au, reduceIte, Nat.reduceEqDiff]
 repeat' first | ((first | refine zo (fun lq aD => ?_) | refine zl ?_ | fail); try refine nz ?_) | refine zq (fun lq tq aD aB => ?_) | ((first | with_reducible refine Aq.call (eN _) ?_ | with_reducible refine Aq.call (fg _) ?_ | with_reducible refine Aq.call (fd _) ?_ | with_reducible refine Aq.call (fe _) ?_ | with_reducible refine Aq.call (ff _) ?_ | with_reducible refine Aq.call (dI _) ?_ | with_reducible refine Aq.call (fh _) ?_ | fail); try refine nz ?_) | (refine ZA (fun tq aB => ?_) (fun tq aB => ?_) <;> try refine nz ?_) | (refine ZB (fun tq aB => ?_) (fun tq aB => ?_) <;> try refine nz ?_) | exact zn | refine zf ?_ | ((first | refine xm ?_ | refine lAd (Aa.le_refl _) (lAd (Ax ?_) ?_); focus ((repeat' first | exact lA0 _ | exact lAe _ | exact lAh _ _ | refine lAg _ ?_ | refine lAo ?_ _ | refine lA9 ?_ | refine lAq _ ?_); done) | fail); try refine nz ?_) | exact ⟨⟩ | fail
 clear eN fg fd fe ff dI fh
 have aH : Be (Ca (Cu (T9 p) (Cu (Hr p e) (F9 e.fen)))) = Be (Ad2 p e) := rfl
 rw [aH]
 refine JA (ρ' := [(3, pv xb 0), (5, .slice pa p.length pc), (50, vb (Be (Ad2 p e)))]) ?_ ?env1 (lA0 _)
 case env1 =>
  exact eE
 repeat' first | refine su ?_ | (refine cX ?_ ?_ <;> intro h <;> try exact Ah h) | fail
 ·refine EV.seq ?_
  repeat' first | refine rg ?_ | exact ⟨⟩ | fail
  (refine rt Q75_ok ?_; try with_reducible exact ⟨⟩)
  rw [Xl hm aP bG pD h]
 have ju : ¬ F6 p e := fun hr => by rw [(Ht aP hm bG).2 hr] at h; cases h
 clear h
 have hin := Y1 aP hm bG
 have aO : ∀ k, k < 3 → (e.ord[k]?.getD []).length ≤ 16 := fun k hk => by
  have af : k < e.ord.length := by rw [bG.ol]; exact hk
  rw [lA2 af, lAn]
  have := (hx.oin _ (lAm af)).2
  omega
 have bJ := hp.ord
 have de := fun G => (show Aq _ _ _ (N3.add G) _ from Jd (M := N3.add G) p _ (ba.mono (JB _ _)) aP bJ e _ (IsX.mono (JB _ _) bY) aj bG.dl be dL b7)
 have fi := fun G => (show Aq _ _ _ (N3.add G) _ from Mf (M := N3.add G) p _ (ba.mono (JB _ _)) aP e _ (IsX.mono (JB _ _) bY) aj be bG.ol hin aO)
 have ip : RelOk 16 (Mb p e) := (unionR_ok (thrR_ok aP) (unionR_ok (meetsR_ok aP) (turnsR_ok b7))).close
 have fN : RelOk 16 (Fp p e) := (seenR0_ok aP hin).close
 have fj := fun G => Jc (M := N3.add G) _ _ ip fN
 refine EV.seq ?_
 refine EV.seq ?_
 refine EV.any (t := Ar9) [] (lA0 _) ?_
 simp only [Aj, As, Ak, Au, reduceIte, Nat.reduceEqDiff]
 repeat' first | ((first | refine zo (fun lq aD => ?_) | refine zl ?_ | fail); try refine nz ?_) | refine zq (fun lq tq aD aB => ?_) | ((first | with_reducible refine Aq.call (de _) ?_ | with_reducible refine Aq.call (fi _) ?_ | with_reducible refine Aq.call (fj _) ?_ | fail); try refine nz ?_) | (refine ZA (fun tq aB => ?_) (fun tq aB => ?_) <;> try refine nz ?_) | (refine ZB (fun tq aB => ?_) (fun tq aB => ?_) <;> try refine nz ?_) | exact zn | refine zf ?_ | ((first | refine xm ?_ | refine lAd (Aa.le_refl _) (lAd (Ax ?_) ?_); focus ((repeat' first | exact lA0 _ | exact lAe _ | exact lAh _ _ | refine lAg _ ?_ | refine lAo ?_ _ | refine lA9 ?_ | refine lAq _ ?_); done) | fail); try refine nz ?_) | exact ⟨⟩ | fail
 repeat' first | refine su ?_ | (refine cX ?_ ?_ <;> intro h <;> try exact Ah h) | fail
 ·refine EV.seq ?_
  repeat' first | refine rg ?_ | exact ⟨⟩ | fail
  (refine rt Q75_ok ?_; try with_reducible exact ⟨⟩)
  rw [Xm hp hm aP bG pD ju h]
 have bu := Ac0 hp hm aP bG pD ju (by simpa using h)
 have js := Ak6 (p := p) (e := e) bG.ol
 clear h de fi fj
 have ri := fun G => Ac3 (M := N3.add G) p _ (ba.mono (JB _ _)) aP dt e _ (IsX.mono (JB _ _) bY) aj bG.ol hin aO
 refine EV.seq ?_
 refine EV.seq ?_
 repeat' first | refine su ?_ | refine rg ?_ | (refine Aq.call (ri _) ?_; try refine nx ?_) | (refine cX ?_ ?_ <;> intro h <;> try exact Ah h) | (refine xm ?_; try refine nx ?_) | exact ⟨⟩ | fail
 ·refine EV.seq ?_
  repeat' first | refine rg ?_ | exact ⟨⟩ | fail
  (refine rt Q75_ok ?_; try with_reducible exact ⟨⟩)
  rw [bu, if_neg (fun hn => by rw [js.2 hn] at h; cases h)]
 ·refine EV.seq ?_
  repeat' first | refine rg ?_ | exact ⟨⟩ | fail
  (refine rt Q75_ok ?_; try with_reducible exact ⟨⟩)
  rw [bu, if_pos (js.1 (by simpa using h))]
end
theorem Con.frzOut {P : Program} {f : FuncId} {args : Array Value} {M : Aa} {G : Own} {Φ : Value → Aa → Own → Prop} (h : Con P f args M G Φ) : Con P f args M G fun v M' _ => ∃ M0 G0, M' = M0.add G0 ∧ Φ v M0 G0 :=
 ⟨h.1, fun w hs cs => by
  obtain ⟨e, w', fr, ⟨v, he, M', G', h1, h2⟩, r⟩ := h.2 w hs cs
  rw [← lAa G'] at h1
  exact ⟨e, w', fr, ⟨v, he, _, [], h1.freeze, M', G', rfl, h2⟩, r⟩⟩
def Fs3 (xs : List Int) : Value → Aa → Own → Prop := fun u _ G' => ∃ ov : Vec, Ey 1 ov xs.length (xs.map vi) ∧ u = osv ov xs.length ∧ G' = osg 3 ov (xs.map vi)
def rkW (p : List Ev) (e : Exec) : Wd := { r := (Bh p e.frm).r, w := (Bh p e.frm).l, k := [], t := [] }
theorem J6 {p : List Ev} {V W : Wd} (h : ∀ i, i < p.length → V.r[i]?.getD 0 = W.r[i]?.getD 0) : ∀ n, n ≤ p.length → Bc p V n = Bc p W n
 | 0, _ => rfl
 | n + 1, hn => by rw [Bc, Bc, J6 h n (by omega), h n (by omega)]
theorem Ac6 {p : List Ev} {e : Exec} (hs : Shape p e) (ap : T8 p e) : Bc p (rkW p e) p.length ++ e.ord.map (Bn (rkW p e)) = Ar p e := by
 have hw := Ap8 hs ap
 rw [Ar]
 congr 1
 ·exact J6 (V := rkW p e) (W := Aw p e.frm) (fun i hi => (hw i hi).1) _ (lA5 _)
 ·refine lEt fun l hl => ?_
  obtain ⟨k, hk, rfl⟩ := lBf hl
  have hp := hs.ord k (by rw [← hs.ol]; exact hk)
  rw [lA2 hk, lAn] at hp
  unfold Bn
  split
  ·rfl
  ·rename_i h0
   have hm : Ae e.ord[k] (e.ord[k].length - 1) ∈ e.ord[k] := by
    rw [Ae, lA2 (by omega)]; exact lAm _
   obtain ⟨i, e1, e2, _, e4, _⟩ := Bb.1 (hp.mem_iff.1 hm)
   have h1 := hs.dn0 i e2 e4
   rw [e1, lAy]
   exact (hw i e2).2 h1.1 h1.2
section
variable {M : Aa}
theorem Lr (ts : List (List OpV)) (s : Value) (hs : Dv M 5 Bd s ts) (aK : A1 ts = 0) (e : Exec) (v : Value) (hv : IsX M v e) (bG : Shape (Ac ts) e) (ap : T8 (Ac ts) e) :
  Con Tryz.prog 21 #[.agg #[s], v] M [] (Fs3 (Ar (Ac ts) e)) := by
 have aM := hs
 have bY := hv
 have cg := Cm aK
 have hp := He aK
 have hm := Jl ts
 have dt := Jk aK
 obtain ⟨a, c, vs, rfl, hl, aH, hk⟩ := hs
 obtain ⟨f, d, o, n, rfl, ⟨fa, fc, rfl, _⟩, ⟨da, dc, rfl, _⟩, ⟨oa, oc, ovs, rfl, ar, bQ, bi⟩, ⟨na, nc, rfl, _⟩⟩ := hv
 have eG := bG.ol
 obtain ⟨ob, oo, rfl, bC⟩ := Dj.at bQ ar bi (by omega)
 refine Con.enter Q76_ok (args := [.agg #[.slice a ts.length c], .agg #[.slice fa e.frm.length fc, .slice da e.dn.length dc, .slice (some ⟨ob, oo, none⟩) e.ord.length oc, .slice na e.fen.length nc]]) (by simp [Q76]) fun w0 => ?_
 simp only [Q76, A9]
 repeat' first | refine st ?_ | refine rg ?_ | ((first | with_reducible intro b | refine xrA rfl ?_ | fail); try refine nx ?_) | exact ⟨⟩ | fail
 obtain ⟨xb, rfl⟩ : ∃ x, x = b := ⟨_, rfl⟩
 refine Con.callS (G1 := []) (Jb ts _ aM aK) ?_
 rintro v M1 G1 bv fL
 have ba := fL
 obtain ⟨pa, pc, rfl, an⟩ := fL
 have hx := bG.xok (.inr trivial)
 have aZ := Ac6 bG ap
 have dK : Ty (Ac ts) e = true := by
  unfold Ty
  rw [lAz]
  intro a ha
  have ha := lAl.1 ha
  cases hr : (evAt (Ac ts) a).reads with
  | false => exact Ak5 bG.fromOk bG.srcOk bG.outLt ha hr
  | true => exact (Bj1 bG.fromOk bG.srcOk bG.outLt ha hr).1.2 ⟨_, Pz bG ap ha hr⟩
 have aG : (Bh (Ac ts) e.frm).Len (Ac ts).length := (rkAll_ok bG.fromOk bG.srcOk bG.outLt _).len
 generalize Ac ts = p at *
 refine JG [] ?_
 generalize hR : M1.add _ = N
 have aA : M1.le N := hR ▸ JB _ _
 have bX : rd N xb 0 4 [.slice fa e.frm.length fc, .slice da e.dn.length dc, .slice (some ⟨ob, oo, none⟩) e.ord.length oc, .slice na e.fen.length nc] := hR ▸ Bm (T := 37) (cs := [.slice fa e.frm.length fc, .slice da e.dn.length dc, .slice (some ⟨ob, oo, none⟩) e.ord.length oc, .slice na e.fen.length nc]) (by simp) rfl (by simp)
 clear hR
 replace ba := ba.mono aA
 replace bY := IsX.mono (Aa.le_trans bv aA) bY
 replace an := an.mono aA
 have bs : ∀ k (hk : k < e.ord.length), ∃ a' c', rd N ob (oo + k) 1 [.slice a' e.ord[k].length c'] ∧ rdS N 1 a' e.ord[k].length (e.ord[k].flatMap ei) := fun k hk => by
  obtain ⟨a', c', h1, _, h2⟩ := bC k hk
  rw [lAu] at h1
  exact ⟨a', c', h1.mono (Aa.le_trans bv aA), h2.mono (Aa.le_trans bv aA)⟩
 clear aM aH hk bC bQ bi
 repeat' first | refine st ?_ | refine rg ?_ | (refine xm ?_; try refine nx ?_) | exact ⟨⟩ | fail
 refine Con.callS (G1 := []) (Kg p _ ba (by omega) e _ bY bG.fl fun i hi => (hx.fr i hi).1) ?_
 rintro v M2 G2 bS (⟨aI, rfl⟩ | ⟨_, rv, lv, rfl, fH, bF⟩)
 ·rw [dK] at aI; cases aI
 refine JG [] ?_
 generalize hR : M2.add _ = N2
 have fk : N.le N2 := hR ▸ Aa.le_trans bS (JB _ _)
 have rj : Sl N2 1 ei rv (rkW p e).r := fH.mono (hR ▸ JB _ _)
 have rk : Sl N2 1 ei lv (rkW p e).w := bF.mono (hR ▸ JB _ _)
 clear hR
 replace bX := bX.mono fk
 have bk := bX.pt 2 1 (by omega) rfl
 simp only [lBi] at bk
 replace an := an.mono fk
 have bs : ∀ k (hk : k < e.ord.length), ∃ a' c', rd N2 ob (oo + k) 1 [.slice a' e.ord[k].length c'] ∧ rdS N2 1 a' e.ord[k].length (e.ord[k].flatMap ei) := fun k hk => by
  obtain ⟨a', c', h1, h2⟩ := bs k hk
  exact ⟨a', c', h1.mono fk, h2.mono fk⟩
 rw [← aZ]
 have ed : (rkW p e).r.length = p.length := aG.r
 have cY : (rkW p e).w.length = p.length := aG.l
 generalize rkW p e = W at *
 obtain ⟨ra, rc, rfl, cn⟩ := rj
 obtain ⟨wa, wc, rfl, fy⟩ := rk
 clear fH bF bS aA bv
 repeat' first | refine st ?_ | refine rg ?_ | exact ⟨⟩ | fail
 refine JC (fun x : Nat × Vec => ([(3, pv xb 0), (5, .slice pa p.length pc), (6, .slice ra W.r.length rc), (7, .slice wa W.w.length wc), (9, osv x.2 (Bc p W x.1).length), (10, vi x.1)], N2, osg 3 x.2 ((Bc p W x.1).map vi)))
  (fun x => x.1 ≤ p.length ∧ Ey 1 x.2 (Bc p W x.1).length ((Bc p W x.1).map vi)) (fun x => p.length - x.1) (0, none) rfl ⟨lA8 _, rfl, rfl⟩ ?env1 (by simp [osg]) ?_
 case env1 =>
  exact eE
 rintro ⟨i, ov⟩ ⟨hi, aQ⟩ ih
 dsimp only at hi aQ ih ⊢
 refine EV.seq ?_
 refine EV.seq ?_
 repeat' first | refine su ?_ | refine rg ?_ | (refine cX ?_ ?_ <;> intro h <;> try exact Ah h) | exact ⟨⟩ | fail
 ·have aC : i < p.length := by omega
  obtain ⟨pb, po, rfl, hat⟩ := Sl.at (enc := Fq) (fun _ => rfl) (by decide) an (by omega)
  obtain ⟨rb, ro, rfl, gY⟩ := Sl.at (sz := 1) (enc := ei) (fun _ => rfl) (by decide) cn (by omega)
  have jH := hat i aC
  rw [← Dc aC] at jH
  have cW : rd N2 pb (po + i * 6 + 1) 5 [vi (evAt p i).op.kind, vi (evAt p i).op.loc, vi (evAt p i).op.v, vi (evAt p i).op.w, vi (evAt p i).op.ord] := jH.pt 1 5 (by omega) rfl
  have iD : rd N2 rb (ro + i) 1 [vi (W.r[i]?.getD 0)] := Cj gY i (by omega)
  have s7 : (i : Int) < W.r.length := by omega
  have kZ := Cb p W i
  have bI : Bc p W (i + 1) = Bc p W i ++ if (evAt p i).reads then [W.r[i]?.getD 0] else [] := rfl
  have cD := fun G => Gd (M := N2.add G) (evAt p i).op
  rw [Dg (dt i aC)] at cD
  repeat' first | refine st ?_ | refine rg ?_ | (refine Aq.call (cD _) ?_; try refine nx ?_) | (refine cX ?_ ?_ <;> intro h <;> try exact Ah h) | (with_reducible intro b; try refine nx ?_) | refine ZF ?_ | (refine xm ?_; try refine nx ?_) | exact ⟨⟩ | fail
  ·rw [if_pos (by assumption)] at bI
   refine ⟨[vi (W.r[i]?.getD 0)], Or.inr ⟨b, 0, rfl, An 0 rfl rfl (by simp)⟩, by simp [Bq, Ch, Value.oneCell'], Or.inl ⟨ov, _, rfl, _, aQ, _, PullL.p, ?_, ?_, ?_⟩⟩
   ·simp only [maxLen]; omega
   ·omega
   intro o2 au _
   (refine nx ?_; try with_reducible exact ⟨⟩)
   repeat' first | refine su ?_ | refine rg ?_ | exact ⟨⟩ | fail
   have ih3 := ih (i + 1, o2) ⟨by dsimp only; omega, by rw [bI, lA4, lAv]; exact au⟩ (by dsimp only; omega)
   dsimp only at ih3
   rw [bI, lA4, lAv, show List.map vi [W.r[i]?.getD 0] = [vi (W.r[i]?.getD 0)] from rfl] at ih3
   refine JE ih3 ?_
   exact eE
  ·rw [if_neg (by simp_all), lAa] at bI
   have ih3 := ih (i + 1, ov) ⟨by dsimp only; omega, by rw [bI]; exact aQ⟩ (by dsimp only; omega)
   dsimp only at ih3
   rw [bI] at ih3
   refine JE ih3 ?_
   exact eE
 ·have bO : i = p.length := by omega
  subst bO
  clear ih
  repeat' first | refine st ?_ | refine rg ?_ | exact ⟨⟩ | fail
  have qK := Cb p W p.length
  generalize hR : Bc p W p.length = R at *
  refine JC (fun x : Nat × Vec => ([(3, pv xb 0), (7, .slice wa W.w.length wc), (9, osv x.2 (R ++ (e.ord.take x.1).map (Bn W)).length), (11, vi x.1)], N2, osg 3 x.2 ((R ++ (e.ord.take x.1).map (Bn W)).map vi)))
   (fun x => x.1 ≤ e.ord.length ∧ Ey 1 x.2 (R ++ (e.ord.take x.1).map (Bn W)).length ((R ++ (e.ord.take x.1).map (Bn W)).map vi)) (fun x => e.ord.length - x.1) (0, ov) rfl ⟨lA8 _, by simpa using aQ⟩ ?env2 (by simp) ?_
  case env2 =>
   simp only [lCr, lFk, lAa]
   exact eE
  rintro ⟨k, o1⟩ ⟨hk, bU⟩ ih
  dsimp only at hk bU ih ⊢
  refine EV.seq ?_
  refine EV.seq ?_
  repeat' first | refine su ?_ | refine rg ?_ | (refine cX ?_ ?_ <;> intro h <;> try exact Ah h) | exact ⟨⟩ | fail
  ·have af : k < e.ord.length := by omega
   obtain ⟨la, lc, aT, aX⟩ := bs k af
   obtain ⟨hin, kZ⟩ := hx.oin _ (lAm af)
   have lp : R ++ (e.ord.take (k + 1)).map (Bn W) = (R ++ (e.ord.take k).map (Bn W)) ++ [Bn W e.ord[k]] := by
    rw [lA7 af, lAv, lAc]; rfl
   have ak : (R ++ (e.ord.take k).map (Bn W)).length ≤ 35 := by simp; omega
   have ih3 := fun o2 h => ih (k + 1, o2) ⟨by dsimp only; omega, h⟩ (by dsimp only; omega)
   dsimp only at ih3
   rw [lp, lA4, lAv] at ih3
   have hlo : Bn W e.ord[k] = if e.ord[k].length = 0 then 0 else W.w[(Ae e.ord[k] (e.ord[k].length - 1)).toNat]?.getD 0 := rfl
   generalize R ++ (e.ord.take k).map (Bn W) = Q at *
   generalize e.ord[k] = l at *
   clear ih
   refine EV.seq ?_
   refine EV.block ?_
   refine EV.seq ?_
   repeat' first | refine rg ?_ | exact ⟨⟩ | fail
   refine EV.seq (JI (fun ρ' M' G' => M' = N2 ∧ (∀ q ∈ [(3, pv xb 0), (7, .slice wa W.w.length wc), (9, osv o1 Q.length), (11, vi k), (12, vi (Bn W l))], get ρ' q.1 = some q.2) ∧
    G' = osg 3 o1 (Q.map vi)) ?_ ?_)
   ·intro k' key
    clear ih3
    rw [hlo] at key
    by_cases fV : l.length = 0
    ·rw [if_pos fV] at key
     repeat' first | refine st ?_ | refine rg ?_ | (refine cX ?_ ?_ <;> intro h <;> try exact Ah h) | refine ZF ?_ | (refine xn ?_; try refine nx ?_) | exact ⟨⟩ | fail
     refine JH (key _ _ _ ⟨rfl, ?_, rfl⟩)
     exact eE
    ·rw [if_neg fV] at key
     obtain ⟨lb, lo, rfl, bA⟩ := Sl.at (sz := 1) (enc := ei) (fun _ => rfl) (by decide) aX (by omega)
     have bL := Cj bA (l.length - 1) (by omega)
     have qL := E0 hin (k := l.length - 1) (by omega)
     have iC : 0 < p.length := by omega
     obtain ⟨wb, wo, rfl, iO⟩ := Sl.at (sz := 1) (enc := ei) (fun _ => rfl) (by decide) fy (by omega)
     have ii := Cj iO (Ae l (l.length - 1)).toNat (by omega)
     simp only [Ae] at ii
     change rd N2 wb _ 1 [vi (W.w[(Ae l (l.length - 1)).toNat]?.getD 0)] at ii
     have sZ : Ae l (l.length - 1) < (W.w.length : Int) := by omega
     have aV : IntKind.i64.wrap ((l.length : Int) - 1) = ((l.length - 1 : Nat) : Int) := (w64 (by omega) (by omega)).trans (by omega)
     have dO : (((l.length - 1 : Nat) : Int)) < (l.length : Int) := by omega
     clear bA iO
     repeat' first | refine st ?_ | (refine EV.reg ?_; (conv => (arg 2; whnf)); (repeat first | refine nx ?_ | simp only [aV])) | (refine cX ?_ ?_ <;> intro h <;> try exact Ah h) | refine ZF ?_ | ((first | refine xm ?_ | refine xn ?_ | fail); (repeat first | refine nx ?_ | simp only [aV])) | fail
     refine JH (key _ _ _ ⟨rfl, ?_, rfl⟩)
     exact eE
   rintro ρ2 M2 G2 ⟨e0, hq, e2⟩
   rw [e0, e2]
   clear e0 e2
   refine JA ?_ hq (lA0 _)
   clear hq hlo
   generalize Bn W l = lw at *
   repeat' first | refine rg ?_ | (with_reducible intro b; try refine nx ?_) | exact ⟨⟩ | fail
   refine ⟨[vi lw], Or.inr ⟨b, 0, rfl, An 0 rfl rfl (by simp)⟩, by simp [Bq, Ch, Value.oneCell'], Or.inl ⟨o1, _, rfl, _, bU, _, PullL.p, ?_, ?_, ?_⟩⟩
   ·simp only [maxLen]; omega
   ·omega
   intro o2 au _
   (refine nx ?_; try with_reducible exact ⟨⟩)
   repeat' first | refine su ?_ | refine rg ?_ | exact ⟨⟩ | fail
   have ih4 := ih3 o2 au
   rw [show List.map vi [lw] = [vi lw] from rfl] at ih4
   refine JE ih4 ?_
   exact eE
  ·have eH : k = e.ord.length := by omega
   subst eH
   rw [lB2] at bU ⊢
   repeat' first | refine st ?_ | refine rg ?_ | exact ⟨⟩ | fail
   (refine rt Q76_ok ?_; try with_reducible exact ⟨⟩)
   exact ⟨o1, bU, rfl, rfl⟩
theorem T2 (ts : List (List OpV)) (s : Value) (hs : Dv M 5 Bd s ts) (aK : A1 ts = 0) (e : Exec) (v : Value) (hv : IsX M v e) (bG : Shape (Ac ts) e) (ap : T8 (Ac ts) e) :
  Con Tryz.prog 21 #[.agg #[s], v] M [] fun u M' _ => Sl M' 1 ei u (Ar (Ac ts) e) :=
 (Lr ts s hs aK e v hv bG ap).frzOut.mono fun u M' G' ⟨M0, G0, h1, ov, h2, h3, h4⟩ => by
  subst h1 h3 h4
  exact I4 (T := 3) h2 (fun q hq => hq)
end
structure SX where
 frm : List Int
 dn : List Bool
 ord : List (List Int)
 fen : List Int
 outs : List (List Int)
 cnt : Nat
 fb : Nat
 db : Nat
 ob : Nat
 ords : List Value
 fenV : Value
 oo : Vec
 vs : List Value
 sm : List Value
def SX.exec (x : SX) : Exec := ⟨x.frm, x.dn, x.ord, x.fen⟩
def SX.xV (x : SX) : List Value := [Av x.fb x.frm.length x.frm.length, Av x.db x.dn.length x.dn.length, Av x.ob x.ord.length x.ord.length, x.fenV]
def SX.box (x : SX) (pv lv : Value) : List Value := pv :: lv :: (x.xV ++ osv x.oo x.outs.length :: vi x.cnt :: vi 0 :: x.sm)
def SX.G (x : SX) (mb : Nat) (pv lv : Value) : Own :=
 (mb, Cl 39 (x.box pv lv)) :: (x.fb, Cl 3 (x.frm.map vi)) :: (x.db, Cl 4 (x.dn.map vb)) :: (x.ob, Cl 34 x.ords) :: osg 34 x.oo x.vs
theorem JR (x : SX) (mb : Nat) (ps lv : Value) : x.G mb ps lv = (mb, Cl 39 (ps :: lv :: Av x.fb x.frm.length x.frm.length :: Av x.db x.dn.length x.dn.length :: Av x.ob x.ord.length x.ord.length :: x.fenV :: osv x.oo x.outs.length :: vi x.cnt :: vi 0 :: x.sm)) :: (x.fb, Cl 3 (x.frm.map vi)) :: (x.db, Cl 4 (x.dn.map vb)) :: (x.ob, Cl 34 x.ords) :: osg 34 x.oo x.vs := rfl
structure SX.Ok (x : SX) (p : List Ev) (M : Aa) : Prop where
 fl : x.frm.length = p.length
 dl : x.dn.length = p.length
 ol : x.ord.length = 3
 ords : x.ords.length = 3
 ord : ∀ k, (h : k < x.ords.length) → (h' : k < x.ord.length) → SlC M 1 ei x.ords[k] x.ord[k]
 fen : Sl M 1 ei x.fenV x.fen
 oo : Ey 1 x.oo x.outs.length x.vs
 vs : RowsOk M x.vs x.outs
 asc : x.outs.Pairwise fun x y => C7 x y < 0
 out : ∀ y ∈ x.outs, Pq p y
 sl : ∃ a b c d e f g h i j k l, x.sm = [.slice a b c, .slice d e f, .slice g h i, .slice j k l]
theorem SX.Ok.mono {x : SX} {p : List Ev} {M M' : Aa} (h : x.Ok p M) (k : M.le M') : x.Ok p M' :=
 ⟨h.fl, h.dl, h.ol, h.ords, fun i a b => (h.ord i a b).mono k, h.fen.mono k, h.oo, h.vs.mono k, h.asc, h.out, h.sl⟩
theorem SX.Ok.isX {x : SX} {p : List Ev} {M : Aa} (h : x.Ok p M) {mb : Nat} {pv lv : Value} : IsX (M.add (x.G mb pv lv)) (.agg x.xV.toArray) x.exec := by
 refine ⟨_, _, _, _, rfl, ⟨_, _, rfl, ?_⟩, ⟨_, _, rfl, ?_⟩, ⟨_, _, x.ords, rfl, h.ords.trans h.ol.symm, ?_, fun i a b => (h.ord i a b).mono (JB _ _)⟩, h.fen.mono (JB _ _)⟩
 ·rw [A0]
  exact .inr ⟨_, 0, rfl, Bm (T := 3) (cs := x.frm.map vi) (by simp [SX.G]) (by simp [SX.exec, lAw]) (by simp [SX.exec])⟩
 ·rw [Er]
  exact .inr ⟨_, 0, rfl, Bm (T := 4) (cs := x.dn.map vb) (by simp [SX.G]) (by simp [SX.exec, lAw]) (by simp [SX.exec])⟩
 ·exact .inr ⟨_, 0, rfl, Bm (T := 34) (cs := x.ords) (by simp [SX.G]) (by simp [SX.exec, h.ords, h.ol, lAw]) (by simp [SX.exec, h.ords, h.ol])⟩
structure SF where
 outs : List (List Int)
 cnt : Nat
 oo : Vec
 vs : List Value
 sm : List Value
def SX.now (x : SX) (r : SF) : SX := { x with outs := r.outs, cnt := r.cnt, oo := r.oo, vs := r.vs, sm := r.sm }
def SX.sf (x : SX) : SF := ⟨x.outs, x.cnt, x.oo, x.vs, x.sm⟩
structure SX.Found (x : SX) (p : List Ev) (l : List Exec) (r : SF) : Prop where
 outs : r.outs = Im p l x.outs
 cnt : r.cnt = x.cnt + l.length
theorem SX.Found.refl (x : SX) (p : List Ev) : x.Found p [] x.sf := ⟨rfl, rfl⟩
theorem SX.Found.trans {x : SX} {p : List Ev} {l m : List Exec} {r s : SF} (h : x.Found p l r) (k : (x.now r).Found p m s) : x.Found p (l ++ m) s :=
 ⟨by rw [k.outs, Aq2]; show Im p m r.outs = _; rw [h.outs], by rw [k.cnt, lA4]; show r.cnt + _ = _; rw [h.cnt]; omega⟩
def SX.Post (x : SX) (p : List Ev) (l : List Exec) (mb : Nat) (pv lv : Value) (M : Aa) : Value → Aa → Own → Prop :=
 fun _ M' G' => M.le M' ∧ ∃ r : SF, G' = (x.now r).G mb pv lv ∧ (x.now r).Ok p M' ∧ x.Found p l r
theorem JP {x : SX} (r : SF) (mb : Nat) (ps lv : Value) {na : Option Addr} {n nc : Nat} (h : x.fenV = .slice na n nc) : (x.now r).G mb ps lv = (mb, Cl 39 (ps :: lv :: Av x.fb x.frm.length x.frm.length :: Av x.db x.dn.length x.dn.length :: Av x.ob x.ord.length x.ord.length :: .slice na n nc :: osv r.oo r.outs.length :: vi r.cnt :: vi 0 :: r.sm)) :: (x.fb, Cl 3 (x.frm.map vi)) :: (x.db, Cl 4 (x.dn.map vb)) :: (x.ob, Cl 34 x.ords) :: osg 34 r.oo r.vs := by
 rw [JR]
 show _ :: _ = _
 simp only [SX.now, h]
theorem XOk.ordIn {p : List Ev} {e : Exec} (hx : XOk p e) : ∀ k, k < 3 → ∀ i, i < (e.ord[k]?.getD []).length → 0 ≤ Ae (e.ord[k]?.getD []) i ∧ Ae (e.ord[k]?.getD []) i < p.length := by
 intro k hk i hi
 have hm : e.ord[k]?.getD [] ∈ e.ord := by
  have : k < e.ord.length := by rw [hx.ol]; exact hk
  rw [lA2 this, lAn]; exact lAm _
 exact (hx.oin _ hm).1.num hi
theorem XOk.ordSz {p : List Ev} {e : Exec} (hx : XOk p e) (hl : p.length ≤ 16) : ∀ k, k < 3 → (e.ord[k]?.getD []).length ≤ 16 := fun k hk => by
 have af : k < e.ord.length := by rw [hx.ol]; exact hk
 rw [lA2 af, lAn]
 have := (hx.oin _ (lAm af)).2
 omega
theorem XOk.fenIn {p : List Ev} {e : Exec} (hx : XOk p e) (hl : p.length ≤ 16) : ∀ k, k < e.fen.length → 0 ≤ Ae e.fen k ∧ Ae e.fen k < 16 := fun k hk => by
 have := (hx.fin.1).num hk; omega
section
variable {M : Aa}
theorem Xv (ts : List (List OpV)) (ps lv : Value) (hs : Dv M 5 Bd ps ts) (aK : A1 ts = 0) (bF : Sl M 6 Fq lv (Ac ts)) (mb : Nat) (x : SX) (ok : x.Ok (Ac ts) M) (hx : XOk (Ac ts) x.exec) (hin : ∀ e ∈ Gt (Ac ts) x.exec, e ∈ Cf (Ac ts)) (hcnt : x.cnt < 2 ^ 62) :
  Con Tryz.prog 171 #[pv mb 0] M (x.G mb ps lv) (x.Post (Ac ts) (Gt (Ac ts) x.exec) mb ps lv M) := by
 have aM := hs
 have bT := bF
 have ok0 := ok
 have cg := Cm aK
 have hp := He aK
 have hm := Jl ts
 have be : ∀ i, i < (Ac ts).length → Af x.exec i < (Ac ts).length := fun i hi => (hx.fr i hi).1
 obtain ⟨a, c, c6, rfl, vJ, aH, hk⟩ := hs
 obtain ⟨la, lc, rfl, ay⟩ := bF
 obtain ⟨na, nc, hfv, ju⟩ := ok.fen
 obtain ⟨a1, a2, a3, b1, b2, b3, c1, c2, c3, d1, d2, d3, jF⟩ := ok.sl
 have rl : x.G mb (.slice a ts.length c) (.slice la (Ac ts).length lc) = (mb, Cl 39 [.slice a ts.length c, .slice la (Ac ts).length lc, Av x.fb x.frm.length x.frm.length, Av x.db x.dn.length x.dn.length, Av x.ob x.ord.length x.ord.length, .slice na x.fen.length nc, osv x.oo x.outs.length, vi x.cnt, vi 0, .slice a1 a2 a3, .slice b1 b2 b3, .slice c1 c2 c3, .slice d1 d2 d3]) :: (x.fb, Cl 3 (x.frm.map vi)) :: (x.db, Cl 4 (x.dn.map vb)) :: (x.ob, Cl 34 x.ords) :: osg 34 x.oo x.vs := by
  simp only [SX.G, SX.box, SX.xV, jF, hfv, lAp, lAj]
 have hX := ok.isX (mb := mb) (pv := .slice a ts.length c) (lv := .slice la (Ac ts).length lc)
 have mE : (.agg x.xV.toArray : Value) = .agg #[Av x.fb x.frm.length x.frm.length, Av x.db x.dn.length x.dn.length, Av x.ob x.ord.length x.ord.length, .slice na x.fen.length nc] := by
  simp only [SX.xV, hfv]
 rw [mE] at hX
 have ak := fun N => bT.mono (JB M N)
 refine Con.enter Q80_ok (args := [pv mb 0]) (by simp [Q80]) fun w0 => ?_
 simp only [Q80, A9]
 generalize iC : Ac ts = p at *
 have aj := ok.fl
 have ax := ok.dl
 refine EV.seq ?_
 refine EV.seq ?_
 have aP : p.length ≤ 16 := by omega
 have b7 := hx.fenIn aP
 have dL : x.exec.fen.length ≤ 16 := by have := hx.fin.2; omega
 have iX := hx.ordIn
 have aO := hx.ordSz aP
 rw [rl] at hX ⊢
 have eN := fun G => (show Aq _ _ _ (M.add G) _ from Fr p _ (ak G) aP)
 have fg := (show Aq _ _ _ _ _ from Jp p _ (ak _) aP x.exec _ hX ok.fl be)
 have fd := (show Aq _ _ _ _ _ from Kf x.exec _ hX dL b7)
 have gg := thrR_ok (p := p) aP
 have eQ := fromR_ok (p := p) (e := x.exec) aP
 have gu := turnsR_ok (fen := x.exec.fen) b7
 have fe := fun G => (show Aq _ _ _ (M.add G) _ from Dn _ _ eQ gu)
 have ff := fun G => (show Aq _ _ _ (M.add G) _ from Dn _ _ gg (unionR_ok eQ gu))
 have f9 := unionR_ok gg (unionR_ok eQ gu)
 have dI := fun G => (show Aq _ _ _ (M.add G) _ from Fa _ f9)
 obtain ⟨cb, iy⟩ : ∃ cb, cb = Be (Ad2 p x.exec) := ⟨_, rfl⟩
 have fh : ∀ G, Aq Tryz.prog 46 #[E9 (Ca (Cu (T9 p) (Cu (Hr p x.exec) (F9 x.exec.fen))))] (M.add G) (vb cb) := fun G => by
  rw [iy]; exact Gs _ f9.close
 have de := (show Aq _ _ _ _ _ from Jd p _ (ak _) aP hp.ord x.exec _ hX ok.fl ok.dl be dL b7)
 have fi := (show Aq _ _ _ _ _ from Mf p _ (ak _) aP x.exec _ hX ok.fl be ok.ol iX aO)
 have ip : RelOk 16 (Mb p x.exec) := (unionR_ok (thrR_ok aP) (unionR_ok (meetsR_ok aP) (turnsR_ok b7))).close
 have fN : RelOk 16 (Fp p x.exec) := (seenR0_ok aP iX).close
 obtain ⟨bb, gp⟩ : ∃ bb, bb = Gg (Mb p x.exec) (Fp p x.exec) := ⟨_, rfl⟩
 have fj : ∀ G, Aq Tryz.prog 52 #[E9 (Mb p x.exec), E9 (Fp p x.exec)] (M.add G) (vb bb) := fun G => by
  rw [gp]; exact Jc _ _ ip fN
 refine EV.any (t := Dg3) _ (lA0 _) ?_
 simp only [Aj, As, Ak, Au, reduceIte, Nat.reduceEqDiff]
 repeat' first | ((first | refine zo (fun lq aD => ?_) | refine zl ?_ | fail); try refine nz ?_) | refine zq (fun lq tq aD aB => ?_) | ((first | with_reducible refine Aq.call (eN _) ?_ | with_reducible refine Aq.call fg ?_ | with_reducible refine Aq.call fd ?_ | with_reducible refine Aq.call (fe _) ?_ | with_reducible refine Aq.call (ff _) ?_ | with_reducible refine Aq.call (dI _) ?_ | with_reducible refine Aq.call (fh _) ?_ | with_reducible refine Aq.call de ?_ | with_reducible refine Aq.call fi ?_ | with_reducible refine Aq.call (fj _) ?_ | fail); try refine nz ?_) | (refine ZA (fun tq aB => ?_) (fun tq aB => ?_) <;> try refine nz ?_) | (refine ZB (fun tq aB => ?_) (fun tq aB => ?_) <;> try refine nz ?_) | exact zn | refine ZC (fun tq aB => ?_) | ((refine ZD (fun tq aB h => ?_) (fun tq aB h => ?_)) <;> try (exfalso; simp at h; done)) | ((first | refine xrA rfl ?_ | refine xsA rfl ?_ | refine lAd (Aa.le_refl _) (lAd (Ax ?_) ?_); focus ((repeat' first | exact lA0 _ | exact lAe _ | exact lAh _ _ | refine lAg _ ?_ | refine lAo ?_ _ | refine lA9 ?_ | refine lAq _ ?_); done) | fail); try refine nz ?_) | exact ⟨⟩ | fail
 all_goals simp only [h, reduceIte, lC8, onv]
 all_goals
  repeat' first | (refine zl ?_; try refine nz ?_) | refine zf ?_ | exact ⟨⟩ | fail
 ·repeat' first | (refine cX ?_ ?_ <;> intro h <;> try exact Ah h) | fail
  (refine rt Q80_ok ?_; try with_reducible exact ⟨⟩)
  refine ⟨Aa.le_refl _, x.sf, rl.symm, ok, ?_⟩
  rw [Gt, if_pos (.inl (by rw [← iy]; first | exact h | simpa using h | assumption))]; exact SX.Found.refl x p
 have mr : Be (Ad2 p x.exec) = false := by rw [← iy]; simpa using h
 clear h
 repeat' first | refine su ?_ | (refine cX ?_ ?_ <;> intro h <;> try exact Ah h) | fail
 ·(refine rt Q80_ok ?_; try with_reducible exact ⟨⟩)
  refine ⟨Aa.le_refl _, x.sf, rl.symm, ok, ?_⟩
  rw [Gt, if_pos (.inr (by rw [← gp]; first | exact h | simpa using h | assumption))]; exact SX.Found.refl x p
 have vK : Gg (Mb p x.exec) (Fp p x.exec) = false := by rw [← gp]; simpa using h
 clear h
 have jV : Gt p x.exec = [x.exec] := by rw [Gt, if_neg (by rw [mr, vK]; simp)]
 have cV : x.exec ∈ Cf p := hin _ (by rw [jV]; exact lCl _)
 clear eN fg fd fe ff dI fh de fi fj gg eQ gu f9 ip fN iy gp
 obtain ⟨bG, _, iY⟩ := (Lb hp hm).1 cV
 have ap : T8 p x.exec := JL iY.round
 subst iC
 have aZ := Lr ts _ (aM.mono (JB _ _)) aK x.exec _ hX bG ap
 have aG : ∀ y, Pq (Ac ts) y → y.length < 1000000 := fun y hy => by
  obtain ⟨e, he, rfl⟩ := hy
  have h1 := ((Lb hp hm).1 he).1.ol
  have h2 := Cb (Ac ts) (Aw (Ac ts) e.frm) (Ac ts).length
  rw [Ar, lA4, lA1]
  omega
 have nm : Pq (Ac ts) (Ar (Ac ts) x.exec) := ⟨_, cV, rfl⟩
 have nn := Tc hp hm (Tb aK) (ok.asc.imp fun {a b} h e => by subst e; rw [Ck] at h; omega) ok.out
 refine EV.seq ?_
 refine EV.any (t := Dg4) [(mb, Cl 39 [.slice a ts.length c, .slice la (Ac ts).length lc, Av x.fb x.frm.length x.frm.length, Av x.db x.dn.length x.dn.length, Av x.ob x.ord.length x.ord.length, .slice na x.fen.length nc, osv x.oo x.outs.length, vi x.cnt, vi 0, .slice a1 a2 a3, .slice b1 b2 b3, .slice c1 c2 c3, .slice d1 d2 d3])] (by simp) ?_
 simp only [Aj, As, Ak, Au, reduceIte, Nat.reduceEqDiff]
 repeat' first | ((first | refine zo (fun lq aD => ?_) | refine zl ?_ | fail); try refine nz ?_) | refine zq (fun lq tq aD aB => ?_) | ((with_reducible refine JK aZ ?_) ;  rintro v1 M1 G1 ⟨ov, aQ, rfl, rfl⟩; try refine nz ?_) | (refine ZA (fun tq aB => ?_) (fun tq aB => ?_) <;> try refine nz ?_) | exact zn | ((first | refine xrA rfl ?_ | refine xsA rfl ?_ | refine lAd (Aa.le_refl _) (lAd (Ax ?_) ?_); focus ((repeat' first | exact lA0 _ | exact lAe _ | exact lAh _ _ | refine lAg _ ?_ | refine lAo ?_ _ | refine lA9 ?_ | refine lAq _ ?_); done) | fail); try refine nz ?_) | exact ⟨⟩ | fail
 refine De.frzS (osg 3 ov ((Ar (Ac ts) x.exec).map vi)) ?_
 generalize hN : M.add (osg 3 ov _) = N
 have aA : M.le N := hN ▸ JB _ _
 have cQ : Sl N 1 ei (osv ov (Ar (Ac ts) x.exec).length) (Ar (Ac ts) x.exec) := hN ▸ I4 (T := 3) aQ (fun q hq => hq)
 refine Con.callS (G1 := osg 34 x.oo x.vs) (Aq3 x.outs _ x.oo x.vs _ ok.oo (ok.vs.mono aA) cQ ok.asc (by omega) (aG _ nm) (fun y hy => aG y (ok.out y hy))) ?_
 rintro v2 M2 G2 bS ⟨_, o2, vs2, au, aX, rfl, rfl⟩
 have ja := Aa.le_trans aA bS
 refine ⟨ja, fun q hq => by (rw [lAi] at hq; rw [hq]; simp), ?_⟩
 repeat' first | ((first | refine zo (fun lq aD => ?_) | refine zl ?_ | fail); try refine nz ?_) | refine zq (fun lq tq aD aB => ?_) | (refine ZB (fun tq aB => ?_) (fun tq aB => ?_) <;> try refine nz ?_) | exact zn | refine zf ?_ | (refine xw ?_; try refine nz ?_) | exact ⟨⟩ | fail
 obtain ⟨x1, bK⟩ : ∃ x1 : SX, x1 = { x with outs := L9 (Ar (Ac ts) x.exec) x.outs, oo := o2, vs := vs2 } := ⟨_, rfl⟩
 have ok1 : x1.Ok (Ac ts) M2 := by
  subst bK
  have gI : Im (Ac ts) [x.exec] x.outs = L9 (Ar (Ac ts) x.exec) x.outs := rfl
  refine ⟨ok.fl, ok.dl, ok.ol, ok.ords, fun i a b => (ok.ord i a b).mono ja, ok.fen.mono ja, au, aX, ?_, fun y hy => ?_, ok.sl⟩
  ·dsimp only; rw [← gI]; exact Tt _ ok.asc
  ·dsimp only at hy
   rw [← gI] at hy
   rcases (Tu _).1 hy with h | h
   ·exact ok.out y h
   ·rw [lDv, lFk, lAi] at h
    rw [h]; exact nm
 refine JH (G' := (mb, Cl 39 [.slice a ts.length c, .slice la (Ac ts).length lc, Av x.fb x.frm.length x.frm.length, Av x.db x.dn.length x.dn.length, Av x.ob x.ord.length x.ord.length, .slice na x.fen.length nc, osv o2 (L9 (Ar (Ac ts) x.exec) x.outs).length, vi x.cnt, vi 0, .slice a1 a2 a3, .slice b1 b2 b3, .slice c1 c2 c3, .slice d1 d2 d3]) :: (x.fb, Cl 3 (x.frm.map vi)) :: (x.db, Cl 4 (x.dn.map vb)) :: (x.ob, Cl 34 x.ords) :: osg 34 o2 vs2) ?_
 refine EV.seq ?_
 refine JI (fun ρ' M' G' => M' = M2 ∧ get ρ' 0 = some (pv mb 0) ∧ ∃ e1 e2 e3 f1 f2 f3 g1 g2 g3 h1 h2 h3, G' = (mb, Cl 39 [.slice a ts.length c, .slice la (Ac ts).length lc, Av x.fb x.frm.length x.frm.length, Av x.db x.dn.length x.dn.length, Av x.ob x.ord.length x.ord.length, .slice na x.fen.length nc, osv o2 (L9 (Ar (Ac ts) x.exec) x.outs).length, vi x.cnt, vi 0, .slice e1 e2 e3, .slice f1 f2 f3, .slice g1 g2 g3, .slice h1 h2 h3]) :: (x.fb, Cl 3 (x.frm.map vi)) :: (x.db, Cl 4 (x.dn.map vb)) :: (x.ob, Cl 34 x.ords) :: osg 34 o2 vs2) ?_ ?_
 ·intro k' key
  have tS := ok1.isX (mb := mb) (pv := .slice a ts.length c) (lv := .slice la (Ac ts).length lc)
  have rm : x1.G mb (.slice a ts.length c) (.slice la (Ac ts).length lc) = (mb, Cl 39 [.slice a ts.length c, .slice la (Ac ts).length lc, Av x.fb x.frm.length x.frm.length, Av x.db x.dn.length x.dn.length, Av x.ob x.ord.length x.ord.length, .slice na x.fen.length nc, osv o2 (L9 (Ar (Ac ts) x.exec) x.outs).length, vi x.cnt, vi 0, .slice a1 a2 a3, .slice b1 b2 b3, .slice c1 c2 c3, .slice d1 d2 d3]) :: (x.fb, Cl 3 (x.frm.map vi)) :: (x.db, Cl 4 (x.dn.map vb)) :: (x.ob, Cl 34 x.ords) :: osg 34 o2 vs2 := by
   rw [bK]
   simp only [SX.G, SX.box, SX.xV, jF, hfv, lAp, lAj]
  have rn : (.agg x1.xV.toArray : Value) = .agg #[Av x.fb x.frm.length x.frm.length, Av x.db x.dn.length x.dn.length, Av x.ob x.ord.length x.ord.length, .slice na x.fen.length nc] := by
   rw [bK]; simp only [SX.xV, hfv]
  rw [rm, rn, show x1.exec = x.exec by rw [bK]; rfl] at tS
  have rp := (Vp x.exec _ tS (by show x.frm.length < _; omega) (by show x.dn.length < _; omega) (by show x.ord.length < _; rw [ok.ol]; omega) (by omega) (fun l hl => by have := (hx.oin l hl).2; omega)).mono fun v M' G' hv => (show ∃ e1 e2 e3 f1 f2 f3 g1 g2 g3 h1 h2 h3, v = .agg #[.slice e1 e2 e3, .slice f1 f2 f3, .slice g1 g2 g3, .slice h1 h2 h3] from by
   obtain ⟨f, d, o, n, rfl, ⟨_, _, rfl, _⟩, ⟨_, _, rfl, _⟩, ⟨_, _, _, rfl, _⟩, ⟨_, _, rfl, _⟩⟩ := hv
   exact ⟨_, _, _, _, _, _, _, _, _, _, _, _, rfl⟩)
  repeat' first | refine st ?_ | ((first | refine EV.reg ?_ | refine EV.any _ (lA0 _) ?_ | fail); (conv => (arg 2; whnf)); refine nx ?_) | (refine cX ?_ ?_ <;> intro h <;> try exact Ah h) | ((first | refine xrA rfl ?_ | refine xiA rfl ?_ | fail); try refine nx ?_) | exact ⟨⟩ | fail
  ·refine JK rp ?_
   rintro v3 M3 G3 ⟨e1, e2, e3, f1, f2, f3, g1, g2, g3, h1, h2, h3, rfl⟩
   simp only [lAp]
   repeat' first | (refine xw ?_; refine nx ?_) | exact ⟨⟩ | fail
   refine JA (ρ' := [(0, pv mb 0)]) (key _ _ _ ⟨rfl, rfl, e1, e2, e3, f1, f2, f3, g1, g2, g3, h1, h2, h3, rfl⟩) ?_ ?_
   ·exact eE
   ·(repeat' first | exact lA0 _ | exact lAe _ | exact lAh _ _ | refine lAg _ ?_ | refine lAo ?_ _ | refine lA9 ?_ | refine lAq _ ?_)
  ·exact key _ _ _ ⟨rfl, rfl, a1, a2, a3, b1, b2, b3, c1, c2, c3, d1, d2, d3, rfl⟩
 rintro ρ2 M3 G3 ⟨rfl, hρ, e1, e2, e3, f1, f2, f3, g1, g2, g3, h1, h2, h3, rfl⟩
 refine JA (ρ' := [(0, pv mb 0)]) ?_ (by simpa using hρ) (lA0 _)
 repeat' first | refine rg ?_ | (refine xiA rfl ?_; try refine nx ?_) | (refine xw ?_; refine nx ?_) | exact ⟨⟩ | fail
 refine EV.done Q80_ok ?_
 (repeat first | refine nx ?_ | simp only [Q80])
 have hw : IntKind.i64.wrap ((x.cnt : Int) + 1) = ((x.cnt + 1 : Nat) : Int) := (w64 (by omega) (by omega)).trans (by omega)
 rw [hw, jV]
 subst bK
 refine ⟨ja, ⟨L9 (Ar (Ac ts) x.exec) x.outs, x.cnt + 1, o2, vs2, [.slice e1 e2 e3, .slice f1 f2 f3, .slice g1 g2 g3, .slice h1 h2 h3]⟩, ?_, ⟨ok1.fl, ok1.dl, ok1.ol, ok1.ords, ok1.ord, ok1.fen, ok1.oo, ok1.vs, ok1.asc, ok1.out, _, _, _, _, _, _, _, _, _, _, _, _, rfl⟩, ⟨rfl, rfl⟩⟩
 simp only [SX.G, SX.box, SX.xV, SX.now, hfv, lAp, lAj]
end
section
variable {β : Type}
def T3 (f : Nat → Bool) (ok : List Int → Int → Bool) (g : Int → List β) (row : List Int) (n : Nat) : List β := (((Cq n f).filter fun a => decide (a ∉ row)).filter (ok row)).flatMap g
def Jz (f : Nat → Bool) (row : List Int) (n : Nat) : Nat := ((Cq n f).filter fun a => decide (a ∉ row)).length
theorem Jq (f : Nat → Bool) (ok : List Int → Int → Bool) (g : Int → List β) (row : List Int) (n : Nat) :
  T3 f ok g row (n + 1) = T3 f ok g row n ++ if f n = true ∧ (n : Int) ∉ row ∧ ok row n = true then g n else [] := by
 unfold T3
 rw [Ft, lCp, lCp, lB0]
 congr 1
 by_cases h1 : f n = true
 ·rw [if_pos h1]
  by_cases h2 : (n : Int) ∉ row
  ·by_cases h3 : ok row n = true
   ·rw [if_pos ⟨h1, h2, h3⟩]; simp [h2, h3]
   ·rw [if_neg fun h => h3 h.2.2]; simp [h2, h3]
  ·rw [if_neg fun h => h2 h.2.1]; simp at h2; simp [h2]
 ·rw [if_neg h1, if_neg fun h => h1 h.1]; rfl
theorem Mg (f : Nat → Bool) (row : List Int) (n : Nat) : Jz f row (n + 1) = Jz f row n + if f n = true ∧ (n : Int) ∉ row then 1 else 0 := by
 unfold Jz
 rw [Ft, lCp, lA4]
 congr 1
 by_cases h1 : f n = true
 ·rw [if_pos h1]
  by_cases h2 : (n : Int) ∉ row
  ·rw [if_pos ⟨h1, h2⟩]; simp [h2]
  ·rw [if_neg fun h => h2 h.2]; simp at h2; simp [h2]
 ·rw [if_neg h1, if_neg fun h => h1 h.1]; rfl
theorem Ze (f : Nat → Bool) (row : List Int) (n : Nat) : Jz f row n ≤ n := lBm (lDy _ _) (A8 _ _)
theorem Qa (f : Nat → Bool) (ok : List Int → Int → Bool) (g : Int → List β) (row : List Int) (n : Nat) : ∀ d, ∃ t, T3 f ok g row (n + d) = T3 f ok g row n ++ t
 | 0 => ⟨[], (lAa _).symm⟩
 | d + 1 => by
  obtain ⟨t, h⟩ := Qa f ok g row n d
  exact ⟨_, by rw [← lDa, Jq, h, lAc]⟩
theorem Sk (f : Nat → Bool) (ok : List Int → Int → Bool) (fin : List Int → List β) (N F : Nat) (row : List Int) :
  Jy (Cq N f) ok fin (F + 1) row = T3 f ok (fun a => Jy (Cq N f) ok fin F (row ++ [a])) row N ++ if Jz f row N = 0 then fin row else [] := by
 rw [Jy, T3, Jz]
 congr 1
 by_cases h : ((Cq N f).filter fun a => decide (a ∉ row)) = []
 ·rw [if_pos h, h]; rfl
 ·rw [if_neg h, if_neg fun h2 => h (lC6.1 h2)]
end
def Qb (p : List Ev) (row : List Int) (a b : Nat) : Bool := (List.range b).all fun i => !((evAt p i).strong && decide ((evAt p i).th = (evAt p a).th) && !decide ((i : Int) ∈ row))
theorem Xw (p : List Ev) (row : List Int) (a b : Nat) : Qb p row a (b + 1) = (Qb p row a b && !((evAt p b).strong && decide ((evAt p b).th = (evAt p a).th) && !decide ((b : Int) ∈ row))) := by
 simp only [Qb, lDi, lDh, lFo, List.all_nil, lEm]
theorem Al7 {p : List Ev} {row : List Int} {a : Nat} (ha : a ≤ p.length) : I9 p row a = Qb p row a a := by
 rw [lEz, Se, Qb, lAz]
 constructor
 ·intro h i hi
  have hi := lAl.1 hi
  by_cases h1 : (evAt p i).strong = true
  ·by_cases h2 : (evAt p i).th = (evAt p a).th
   ·have := h i (by omega) (by omega) h1 (by rw [lAy]; exact h2)
    simp [this]
   ·simp [h2]
  ·simp [h1]
 ·intro h b hb oe h1 h2
  have h3 := h b (lAl.2 (by omega))
  rw [lAy] at h2
  rw [h1, h2] at h3
  simpa using h3
theorem T4 {M : Aa} {p : List Ev} {la : Option Addr} (h : rdS M 6 la p.length (p.flatMap Fq)) : ∀ b, b < p.length → ∃ pb po, la = some ⟨pb, po, none⟩ ∧ rd M pb (po + b * 6) 6 (Fq (evAt p b)) := fun b hb => by
 obtain ⟨pb, po, e, hat⟩ := Sl.at (enc := Fq) (fun _ => rfl) (by decide) h (by omega)
 refine ⟨pb, po, e, ?_⟩
 rw [Dc hb]
 exact hat b hb
theorem XOk.grow {p : List Ev} {e : Exec} (hx : XOk p e) (hn : e.fen.Nodup) (hs : ∀ y ∈ e.fen, y ∈ A5 p) {a : Int} (ha : a ∈ A5 p) (gX : a ∉ e.fen) : (e.fen ++ [a]).Nodup ∧ (∀ y ∈ e.fen ++ [a], y ∈ A5 p) ∧ XOk p { e with fen := e.fen ++ [a] } := by
 have h1 : (e.fen ++ [a]).Nodup := by
  rw [lBo]
  refine ⟨hn, by simp, fun x hx y hy h => ?_⟩
  rw [lAi] at hy
  subst h hy
  exact gX hx
 have h2 : ∀ y ∈ e.fen ++ [a], y ∈ A5 p := fun y hy => by
  rcases lB7.1 hy with h | h
  ·exact hs y h
  ·rw [lAi] at h; rw [h]; exact ha
 refine ⟨h1, h2, ⟨hx.fl, hx.dl, hx.ol, hx.fr, hx.oin, fun y hy => ?_, lBm (Bw h1 h2) (A8 _ _)⟩⟩
 obtain ⟨i, hi, _, rfl⟩ := B9.1 (h2 y hy)
 omega
section
variable {M : Aa}
theorem V0 (xs : List Int) (v : Value) (hv : Sl M 1 ei v xs) (hx : xs.length < 1000000) : Con Tryz.prog 154 #[v] M [] (Fs3 xs) :=
 (I6 xs v hv hx).mono fun u M' G' ⟨_, b, cap, sp, h1, h2, h3⟩ => ⟨some (b, cap, sp), h2, h1, h3⟩
theorem V1 {C : Cx Tryz.prog} {k : List RItem} {p : List Ev} {mb n a : Nat} {la : Option Addr} {lc : Nat} {pv0 : Value} {cs : List Value} {R : Own} {row : List Int} {na : Option Addr} {nc : Nat} (hp : p.length ≤ 16) (ha : a < p.length)
  (aL : ∀ b, b < p.length → ∃ pb po, la = some ⟨pb, po, none⟩ ∧ rd M pb (po + b * 6) 6 (Fq (evAt p b))) (cQ : rdS M 1 na row.length (row.flatMap ei)) (ed : row.length ≤ 1000)
  (key : EV C [0, 2, 3, 4, 5, 6] k [(0, pv mb 0), (2, vi n), (3, .slice na row.length nc), (4, vi a), (5, vb (Qb p row a a))] M ((mb, Cl 39 (pv0 :: .slice la p.length lc :: cs)) :: R)) :
  EV C [0, 2, 3, 4, 5, 6] (.code (.seq (.reg Df1) (.block 2 (.loop Ag6))) :: k) [(0, pv mb 0), (2, vi n), (3, .slice na row.length nc), (4, vi a), (5, vb true)] M ((mb, Cl 39 (pv0 :: .slice la p.length lc :: cs)) :: R) := by
 repeat' first | refine st ?_ | refine rg ?_ | exact ⟨⟩ | fail
 refine JC (fun b : Nat => ([(0, pv mb 0), (2, vi n), (3, .slice na row.length nc), (4, vi a), (5, vb (Qb p row a b)), (6, vi b)], M, (mb, Cl 39 (pv0 :: .slice la p.length lc :: cs)) :: R)) (fun b => b ≤ a) (fun b => a - b) 0 rfl (lA8 _) ?env1 (lA0 _) ?_
 case env1 =>
  exact eE
 rintro b hb ih
 dsimp only at hb ih ⊢
 repeat' first | refine st ?_ | refine rg ?_ | (refine cX ?_ ?_ <;> intro h <;> try exact Ah h) | exact ⟨⟩ | fail
 ·have mS : b < a := by omega
  obtain ⟨pb, po, rfl, iS⟩ := aL b (by omega)
  obtain ⟨pb', po', e, ez⟩ := aL a ha
  cases e
  have ip : rd M pb (po + b * 6 + 1) 5 [vi (evAt p b).op.kind, vi (evAt p b).op.loc, vi (evAt p b).op.v, vi (evAt p b).op.w, vi (evAt p b).op.ord] := iS.pt 1 5 (by omega) rfl
  have vL : rd M pb (po + b * 6 + 0) 1 [vi (evAt p b).th] := iS.pt 0 1 (by omega) rfl
  have vM : rd M pb (po + a * 6 + 0) 1 [vi (evAt p a).th] := ez.pt 0 1 (by omega) rfl
  simp only [lDc] at vL vM
  have bu := fun G => (show Aq _ _ _ (M.add G) _ from Ie (evAt p b).op)
  simp only [Vj] at bu
  have iZ := fun G => Yy (M := M.add G) row b _ ⟨na, nc, rfl, cQ.mono (JB _ _)⟩ (by omega)
  obtain ⟨sb, np⟩ : ∃ sb, sb = (evAt p b).strong := ⟨_, rfl⟩
  obtain ⟨tb, nq⟩ : ∃ tb, tb = decide ((evAt p b).th = (evAt p a).th) := ⟨_, rfl⟩
  obtain ⟨rb, ld⟩ : ∃ rb, rb = decide ((b : Int) ∈ row) := ⟨_, rfl⟩
  rw [← np] at bu
  rw [← ld] at iZ
  have iv := Xw p row a b
  rw [← np, ← nq, ← ld] at iv
  have ih2 := ih (b + 1) (by omega) (by omega)
  rw [iv] at ih2
  refine EV.any (t := Df2) _ (lA0 _) ?_
  simp only [Aj, As, Ak, Au, reduceIte, Nat.reduceEqDiff]
  repeat' first | ((refine ZE ?_ (fun lq aD hc => ?_) (fun lq aD => ?_); rotate_left) <;> (try (exfalso; simp at hc; done)) <;> try refine nz ?_) | ((first | refine zo (fun lq aD => ?_) | refine zl ?_ | refine lAb _ (lAd (bu _) ?_) | refine lAb _ (lAd (iZ _) ?_) | fail); try refine nz ?_) | refine zf ?_ | with_reducible rfl | refine ZF ?_ | ((first | refine xm ?_ | refine xsA rfl ?_ | fail); try refine nz ?_) | exact ⟨⟩ | fail
  rw [← nq]
  cases hc : (sb && tb && !rb) with
  | true =>
   rw [hc, lBd, lF7] at ih2
   repeat' first | refine su ?_ | refine rg ?_ | (refine cX ?_ ?_ <;> intro h <;> try exact Ah h) | exact ⟨⟩ | fail
   refine JA ih2 ?_ (lA0 _)
   exact eE
  | false =>
   rw [hc, lB9, lEm] at ih2
   repeat' first | refine su ?_ | refine rg ?_ | (refine cX ?_ ?_ <;> intro h <;> try exact Ah h) | exact ⟨⟩ | fail
   refine JA ih2 ?_ (lA0 _)
   exact eE
 ·have oe : b = a := by omega
  subst oe
  refine JA key ?_ (lA0 _)
  exact eE
end
def Kj (p : List Ev) (x : SX) (F : Nat) : List Exec := Ts p x.exec F x.fen
def Zh (p : List Ev) (i : Nat) : Bool := (evAt p i).strong
def Di5 (p : List Ev) (x : SX) (F : Nat) (a : Int) : List Exec := Jy (A5 p) (I9 p) (fun r => Gt p { x.exec with fen := r }) F (x.fen ++ [a])
abbrev Bh9 (p : List Ev) (x : SX) (F n : Nat) : List Exec := T3 (Zh p) (I9 p) (Di5 p x F) x.fen n
structure FenPre (p : List Ev) (x : SX) (F : Nat) : Prop where
 hx : XOk p x.exec
 hnd : x.fen.Nodup
 hsub : ∀ y ∈ x.fen, y ∈ A5 p
 hF : (A5 p).length < x.fen.length + F
 hin : ∀ e ∈ Kj p x F, e ∈ Cf p
 hcnt : x.cnt + (Kj p x F).length < 2 ^ 62
def T5 (ts : List (List OpV)) (ps lv : Value) (mb F : Nat) : Prop :=
 ∀ (M : Aa) (x : SX), Dv M 5 Bd ps ts → Sl M 6 Fq lv (Ac ts) → x.Ok (Ac ts) M → FenPre (Ac ts) x F →
  Con Tryz.prog 165 #[pv mb 0] M (x.G mb ps lv) (x.Post (Ac ts) (Kj (Ac ts) x F) mb ps lv M)
section
theorem Xx (ts : List (List OpV)) (ps lv : Value) (aK : A1 ts = 0) (mb F : Nat) (cB : T5 ts ps lv mb F) : T5 ts ps lv mb (F + 1) := by
 intro M x hs bF ok ⟨hx, hnd, hsub, hF, hin, hcnt⟩
 have aM := hs
 have bT := bF
 have cg := Cm aK
 have lf := fun M x h1 h2 h3 h4 h5 h6 => Xv (M := M) ts ps lv h1 aK h2 mb x h3 h4 h5 h6
 unfold T5 at cB
 obtain ⟨vs, ac, c6, rfl, eU, aH, hk⟩ := hs
 obtain ⟨la, lc, rfl, ay⟩ := bF
 obtain ⟨na, nc, hfv, ju⟩ := ok.fen
 refine Con.enter Q79_ok (args := [pv mb 0]) (by simp [Q79]) fun w0 => ?_
 simp only [Q79, A9]
 generalize iC : Ac ts = p at *
 have aP : p.length ≤ 16 := by omega
 have hG := fun r : SF => JP r mb (.slice vs ts.length ac) (.slice la p.length lc) hfv
 have dq : x.G mb (.slice vs ts.length ac) (.slice la p.length lc) = _ := hG x.sf
 have fx : Kj p x (F + 1) = Bh9 p x F p.length ++ if Jz (Zh p) x.fen p.length = 0 then Gt p x.exec else [] := Sk _ _ _ _ _ _
 rw [fx] at hin hcnt ⊢
 rw [dq]
 repeat' first | refine st ?_ | refine rg ?_ | (refine xsA rfl ?_; try refine nx ?_) | exact ⟨⟩ | fail
 refine JC (fun z : Nat × Aa × SF => ([(0, pv mb 0), (2, vi (Jz (Zh p) x.fen z.1)), (3, .slice na x.fen.length nc), (4, vi z.1)], z.2.1, (x.now z.2.2).G mb (.slice vs ts.length ac) (.slice la p.length lc)))
  (fun z => z.1 ≤ p.length ∧ M.le z.2.1 ∧ (x.now z.2.2).Ok p z.2.1 ∧ x.Found p (Bh9 p x F z.1) z.2.2) (fun z => p.length - z.1) (0, M, x.sf) rfl ⟨lA8 _, Aa.le_refl _, ok, SX.Found.refl x p⟩ ?env1 (by dsimp only; rw [hG]; exact lA0 _) ?_
 case env1 =>
  exact eE
 rintro ⟨a, N, r⟩ ⟨ha, aA, okr, bW⟩ ih
 dsimp only at ha aA okr bW ih ⊢
 simp only [hG] at ih ⊢
 have aL := T4 (ay.mono aA)
 repeat' first | refine st ?_ | refine rg ?_ | (refine cX ?_ ?_ <;> intro h <;> try exact Ah h) | (refine xsA rfl ?_; try refine nx ?_) | exact ⟨⟩ | fail
 ·have aW : a < p.length := by omega
  obtain ⟨pb, po, nr, ez⟩ := aL a aW
  have f9 : rd N pb (po + a * 6 + 1) 5 [vi (evAt p a).op.kind, vi (evAt p a).op.loc, vi (evAt p a).op.v, vi (evAt p a).op.w, vi (evAt p a).op.ord] := ez.pt 1 5 (by omega) rfl
  have bu := fun G => (show Aq _ _ _ (N.add G) _ from Ie (evAt p a).op)
  simp only [Vj] at bu
  have tT : x.fen.length ≤ 16 := by have := hx.fin.2; show x.exec.fen.length ≤ 16; omega
  have iZ := fun G => Yy (M := N.add G) x.fen a _ ⟨na, nc, rfl, (ju.mono aA).mono (JB _ _)⟩ (by omega)
  have hps : Bh9 p x F (a + 1) = Bh9 p x F a ++ if Zh p a = true ∧ (a : Int) ∉ x.fen ∧ I9 p x.fen a = true then Di5 p x F a else [] := Jq (Zh p) (I9 p) (Di5 p x F) x.fen a
  have bh := Mg (Zh p) x.fen a
  have bL := Ze (Zh p) x.fen a
  obtain ⟨pre, b0⟩ : ∃ t, Bh9 p x F p.length = Bh9 p x F (a + 1) ++ t := by
   have := Qa (Zh p) (I9 p) (Di5 p x F) x.fen (a + 1) (p.length - (a + 1))
   rwa [show a + 1 + (p.length - (a + 1)) = p.length by omega] at this
  obtain ⟨sb, np⟩ : ∃ sb, sb = (evAt p a).strong := ⟨_, rfl⟩
  have j5 : Zh p a = sb := np.symm
  obtain ⟨rb, ld⟩ : ∃ rb, rb = decide ((a : Int) ∈ x.fen) := ⟨_, rfl⟩
  rw [← np] at bu
  rw [← ld] at iZ
  subst nr
  repeat' first | refine su ?_ | refine rg ?_ | with_reducible assumption | (refine JD ?_ (fun hc K' hK => ?_) ?_; rotate_left) | ((first | refine Aq.call (iZ _) ?_ | refine Aq.call (bu _) ?_ | fail); try refine nx ?_) | (refine cX ?_ ?_ <;> intro h <;> try exact Ah h) | refine ZF ?_ | (refine xm ?_; try refine nx ?_) | exact ⟨⟩ | fail
  ·have aI : ¬ (Zh p a = true ∧ (a : Int) ∉ x.fen) := by
    rw [j5]; rintro ⟨h1, h2⟩
    rcases h with h | h
    ·rw [h1] at h; cases h
    ·rw [ld] at h; exact h2 (by simpa using h)
   rw [if_neg fun hh => aI ⟨hh.1, hh.2.1⟩, lAa] at hps
   rw [if_neg aI] at bh
   have ih2 := ih (a + 1, N, r) ⟨by dsimp only; omega, aA, okr, by dsimp only; rw [hps]; exact bW⟩ (by dsimp only; omega)
   dsimp only at ih2
   rw [bh] at ih2
   refine JA ih2 ?_ (lA0 _)
   exact eE
  ·obtain ⟨bz, aT⟩ := h
   have nu : (a : Int) ∉ x.fen := by rw [ld] at aT; simpa using aT
   have bV : Zh p a = true ∧ (a : Int) ∉ x.fen := ⟨j5.trans bz, nu⟩
   rw [if_pos bV] at bh
   refine EV.seq ?_
   repeat' first | refine rg ?_ | exact ⟨⟩ | fail
   refine EV.seq ?_
   repeat' first | refine rg ?_ | exact ⟨⟩ | fail
   refine EV.seq ?_
   refine JA (V1 (n := Jz (Zh p) x.fen (a + 1)) (row := x.fen) (nc := nc) aP aW aL (ju.mono aA) (by omega) ?_) ?_ (lA0 _)
   rotate_left
   ·rw [bh]
    exact eE
   rw [← Al7 (by omega)]
   cases qj : I9 p x.fen a with
   | false =>
    rw [if_neg fun hh => (by rw [qj] at hh; exact absurd hh.2.2 (by simp)), lAa] at hps
    have ih2 := ih (a + 1, N, r) ⟨by dsimp only; omega, aA, okr, by dsimp only; rw [hps]; exact bW⟩ (by dsimp only; omega)
    dsimp only at ih2
    repeat' first | refine st ?_ | refine rg ?_ | (refine cX ?_ ?_ <;> intro h <;> try exact Ah h) | exact ⟨⟩ | fail
    refine JA ih2 ?_ (lA0 _)
    exact eE
   | true =>
    rw [if_pos ⟨bV.1, bV.2, qj⟩] at hps
    repeat' first | refine st ?_ | refine rg ?_ | (refine cX ?_ ?_ <;> intro h <;> try exact Ah h) | exact ⟨⟩ | fail
    refine JK (V0 x.fen _ ⟨na, nc, rfl, (ju.mono aA).mono (JB _ _)⟩ (by omega)) ?_
    rintro v1 M1 G1 ⟨ov, aQ, rfl, rfl⟩
    intro bb
    simp only [lB3, lC1, lAp]
    refine ⟨[vi a], Or.inr ⟨bb, 0, rfl, An 0 rfl rfl (by simp)⟩, by simp [Bq, Ch, Value.oneCell'], Or.inl ⟨ov, _, rfl, _, aQ, _, PullL.p, ?_, ?_, ?_⟩⟩
    ·simp only [maxLen]; omega
    ·omega
    intro o2 au _
    simp only [lAp, lAa]
    repeat' first | (refine xw ?_; refine nx ?_) | exact ⟨⟩ | fail
    refine JG ((mb, Cl 39 (.slice vs ts.length ac :: .slice (some ⟨pb, po, none⟩) p.length lc :: Av x.fb x.frm.length x.frm.length :: Av x.db x.dn.length x.dn.length :: Av x.ob x.ord.length x.ord.length :: osv o2 (x.fen.length + 1) :: osv r.oo r.outs.length :: vi r.cnt :: vi 0 :: r.sm)) :: (x.fb, Cl 3 (x.frm.map vi)) :: (x.db, Cl 4 (x.dn.map vb)) :: (x.ob, Cl 34 x.ords) :: osg 34 r.oo r.vs) ?_
    generalize hR : N.add _ = N2
    have fk : N.le N2 := hR ▸ JB _ _
    have d7 : (x.fen ++ [(a : Int)]).length = x.fen.length + 1 := by simp
    have c7 : Sl N2 1 ei (osv o2 (x.fen.length + 1)) (x.fen ++ [(a : Int)]) := by
     rw [← hR, ← d7]
     refine I4 (T := 3) (by rw [d7, lAv]; exact au) (fun q hq => ?_)
     rw [lAv] at hq
     simp only [lBp, lB7]
     first | exact .inr hq | exact .inl hq | (right; exact hq) | (left; exact hq)
    clear hR
    obtain ⟨x2, bk⟩ : ∃ x2 : SX, x2 = { x.now r with fen := x.fen ++ [(a : Int)], fenV := osv o2 (x.fen.length + 1) } := ⟨_, rfl⟩
    have be : Kj p x2 F = Di5 p x F a := by rw [bk]; rfl
    have aJ : (a : Int) ∈ A5 p := B9.2 ⟨a, aW, bV.1, rfl⟩
    obtain ⟨q1, q2, q3⟩ := hx.grow hnd hsub aJ nu
    have okx : x2.Ok p N2 := by
     have := okr.mono fk
     rw [bk]
     exact ⟨this.fl, this.dl, this.ol, this.ords, this.ord, c7, this.oo, this.vs, this.asc, this.out, this.sl⟩
    have bP := cB N2 x2 (aM.mono (Aa.le_trans aA fk)) (bT.mono (Aa.le_trans aA fk)) okx ⟨by rw [bk]; exact q3, by rw [bk]; exact q1, by rw [bk]; exact q2, by rw [bk]; show _ < (x.fen ++ [(a : Int)]).length + F; omega, fun e he => hin e (lD6 _ (by rw [b0, hps]; rw [be] at he; exact lD6 _ (lDk _ he))), by
     rw [be, bk]
     have h1 := bW.cnt
     rw [lA4, b0, hps, lA4, lA4] at hcnt
     show r.cnt + _ < _
     omega⟩
    rw [JR, bk] at bP
    refine EV.seq ?_
    repeat' first | refine rg ?_ | exact ⟨⟩ | fail
    refine Con.run bP ?_
    rintro v4 M4 G4 _ ⟨bq, r4, rfl, ok4, kD⟩
    rw [JR]
    simp only [SX.now]
    repeat' first | refine su ?_ | refine rg ?_ | (refine xw ?_; refine nx ?_) | exact ⟨⟩ | fail
    have ih2 := ih (a + 1, M4, r4) ⟨by dsimp only; omega, Aa.le_trans aA (Aa.le_trans fk bq), ⟨ok4.fl, ok4.dl, ok4.ol, ok4.ords, ok4.ord, ok.fen.mono (Aa.le_trans aA (Aa.le_trans fk bq)), ok4.oo, ok4.vs, ok4.asc, ok4.out, ok4.sl⟩, by dsimp only; rw [hps]; exact bW.trans ⟨kD.outs, kD.cnt⟩⟩ (by dsimp only; omega)
    dsimp only at ih2
    refine JA ih2 ?_ (lA0 _)
    exact eE
 all_goals have nw : a = p.length := by omega
 all_goals subst nw
 ·have h0 : Jz (Zh p) x.fen p.length = 0 := by simpa using h
  rw [if_pos h0] at hin hcnt ⊢
  have aG : x.cnt + (Bh9 p x F p.length).length = r.cnt := bW.cnt.symm
  have jV := lf N (x.now r) (aM.mono aA) (bT.mono aA) okr hx (fun e he => hin e (lDk _ he)) (by rw [lA4] at hcnt; show r.cnt < _; omega)
  rw [hG] at jV
  refine Con.run jV ?_
  rintro v5 M5 G5 gq ⟨_, r5, rfl, ok5, rq⟩
  repeat' first | fail
  refine EV.done Q79_ok ?_
  (repeat first | refine nx ?_ | simp only [Q79])
  exact ⟨Aa.le_trans aA gq, r5, rfl, ok5, bW.trans rq⟩
 ·have h0 : Jz (Zh p) x.fen p.length ≠ 0 := by simpa using h
  rw [if_neg h0, lAa]
  refine EV.done Q79_ok ?_
  (repeat first | refine nx ?_ | simp only [Q79])
  exact ⟨aA, r, (hG r).symm, okr, bW⟩
theorem Ns (ts : List (List OpV)) (ps lv : Value) (aK : A1 ts = 0) (mb : Nat) : ∀ F, T5 ts ps lv mb F
 | 0 => fun M x hs bF ok h => by
  have := Bw h.hnd h.hsub
  have := h.hF
  omega
 | F + 1 => Xx ts ps lv aK mb F (Ns ts ps lv aK mb F)
end
theorem Di6 {M : Aa} {G : Own} {b : Nat} {T : TypeId} {xs : List Value} {i : Nat} {v : Value} (hi : xs[i]? = some v) [h : At G b T xs] : rd (M.add G) b i 1 [v] := by
 obtain ⟨h1, rfl⟩ := lCv.1 hi
 refine Bm h.mem ?_ (by omega)
 rw [lBh h1]; rfl
theorem Av1 (xs : List Value) {i : Nat} (hi : i < xs.length) (v : Value) : xs.take i ++ (v :: xs.drop (i + 1)) = xs.set i v := by
 rw [lEw, if_pos hi]
section
variable {M : Aa}
theorem T6 (ts : List (List OpV)) (ps lv : Value) (aK : A1 ts = 0) (mb : Nat) (x : SX) (hs : Dv M 5 Bd ps ts) (bF : Sl M 6 Fq lv (Ac ts)) (ok : x.Ok (Ac ts) M) (hx : XOk (Ac ts) x.exec) (hf : x.fen = []) (hfv : x.fenV = .slice none 0 0)
  (hin : ∀ e ∈ Dh (Ac ts) x.exec, e ∈ Cf (Ac ts)) (hcnt : x.cnt + (Dh (Ac ts) x.exec).length < 2 ^ 62) :
  Con Tryz.prog 153 #[pv mb 0] M (x.G mb ps lv) (x.Post (Ac ts) (Dh (Ac ts) x.exec) mb ps lv M) := by
 have aM := hs
 have bT := bF
 have cg := Cm aK
 have hp := He aK
 have be : ∀ i, i < (Ac ts).length → Af x.exec i < (Ac ts).length := fun i hi => (hx.fr i hi).1
 have iQ := Ns ts ps lv aK mb ((Ac ts).length + 1) M x hs bF ok
 have he : ({ x.exec with fen := [] } : Exec) = x.exec := by rw [← hf]; rfl
 have aQ : Dh (Ac ts) x.exec = if Gg (Mb (Ac ts) x.exec) (Fp (Ac ts) x.exec) = true then [] else Kj (Ac ts) x ((Ac ts).length + 1) := by
  unfold Dh Kj
  rw [he, hf]
 rw [aQ] at hin hcnt ⊢
 obtain ⟨a, c, c6, rfl, vJ, aH, hk⟩ := hs
 obtain ⟨la, lc, rfl, ay⟩ := bF
 have hG := fun r : SF => JP r mb (.slice a ts.length c) (.slice la (Ac ts).length lc) hfv
 have dq : x.G mb (.slice a ts.length c) (.slice la (Ac ts).length lc) = _ := hG x.sf
 have hX := ok.isX (mb := mb) (pv := .slice a ts.length c) (lv := .slice la (Ac ts).length lc)
 have mE : (.agg x.xV.toArray : Value) = .agg #[Av x.fb x.frm.length x.frm.length, Av x.db x.dn.length x.dn.length, Av x.ob x.ord.length x.ord.length, .slice none 0 0] := by
  simp only [SX.xV, hfv]
 rw [mE, dq] at hX
 have ak := fun N => bT.mono (JB M N)
 refine Con.enter Q82_ok (args := [pv mb 0]) (by simp [Q82]) fun w0 => ?_
 simp only [Q82, A9]
 have aP : (Ac ts).length ≤ 16 := by omega
 have b7 := hx.fenIn aP
 have dL : x.exec.fen.length ≤ 16 := by have := hx.fin.2; omega
 have iX := hx.ordIn
 have aO := hx.ordSz aP
 rw [dq]
 have de := (show Aq _ _ _ _ _ from Jd (Ac ts) _ (ak _) aP hp.ord x.exec _ hX ok.fl ok.dl be dL b7)
 have fi := (show Aq _ _ _ _ _ from Mf (Ac ts) _ (ak _) aP x.exec _ hX ok.fl be ok.ol iX aO)
 have ip : RelOk 16 (Mb (Ac ts) x.exec) := (unionR_ok (thrR_ok aP) (unionR_ok (meetsR_ok aP) (turnsR_ok b7))).close
 have fN : RelOk 16 (Fp (Ac ts) x.exec) := (seenR0_ok aP iX).close
 obtain ⟨bb, gp⟩ : ∃ bb, bb = Gg (Mb (Ac ts) x.exec) (Fp (Ac ts) x.exec) := ⟨_, rfl⟩
 have fj : ∀ G, Aq Tryz.prog 52 #[E9 (Mb (Ac ts) x.exec), E9 (Fp (Ac ts) x.exec)] (M.add G) (vb bb) := fun G => by
  rw [gp]; exact Jc _ _ ip fN
 rw [← gp] at hin hcnt ⊢
 repeat' first | refine st ?_ | refine rg ?_ | (refine xw ?_; refine nx ?_) | exact ⟨⟩ | fail
 refine EV.any (t := De2) _ (lA0 _) ?_
 simp only [Aj, As, Ak, Au, reduceIte, Nat.reduceEqDiff]
 repeat' first | ((first | refine zo (fun lq aD => ?_) | refine zl ?_ | fail); try refine nz ?_) | refine zq (fun lq tq aD aB => ?_) | ((first | with_reducible refine Aq.call de ?_ | with_reducible refine Aq.call fi ?_ | with_reducible refine Aq.call (fj _) ?_ | fail); try refine nz ?_) | (refine ZA (fun tq aB => ?_) (fun tq aB => ?_) <;> try refine nz ?_) | (refine ZB (fun tq aB => ?_) (fun tq aB => ?_) <;> try refine nz ?_) | exact zn | refine zf ?_ | ((first | refine xrA rfl ?_ | refine xsA rfl ?_ | refine lAd (Aa.le_refl _) (lAd (Ax ?_) ?_); focus ((repeat' first | exact lA0 _ | exact lAe _ | exact lAh _ _ | refine lAg _ ?_ | refine lAo ?_ _ | refine lA9 ?_ | refine lAq _ ?_); done) | fail); try refine nz ?_) | exact ⟨⟩ | fail
 have aY : (A5 (Ac ts)).length ≤ (Ac ts).length := A8 _ _
 rw [dq] at iQ
 cases hb : bb with
 | true =>
  repeat' first | refine su ?_ | (refine cX ?_ ?_ <;> intro h <;> try exact Ah h) | fail
  refine EV.done Q82_ok ?_
  (repeat first | refine nx ?_ | simp only [Q82])
  exact ⟨Aa.le_refl _, x.sf, dq.symm, ok, SX.Found.refl x _⟩
 | false =>
  rw [hb, if_neg lFm] at hin hcnt
  repeat' first | refine rg ?_ | (refine cX ?_ ?_ <;> intro h <;> try exact Ah h) | exact ⟨⟩ | fail
  refine Con.run (iQ ⟨hx, by rw [hf]; exact lCf, by rw [hf]; simp, by rw [hf, lC1]; omega, hin, hcnt⟩) ?_
  rintro v4 M4 G4 _ h4
  repeat' first | fail
  refine EV.done Q82_ok ?_
  (repeat first | refine nx ?_ | simp only [Q82])
  exact h4
end
def Il (p : List Ev) (x : SX) : Nat → Nat → Nat → List Exec
 | 0, _, _ => Dh p x.exec
 | n + 1, k, F => Jy (Ir p x.dn k p.length) (okV p x.exec) (fun r => Em p { x.exec with ord := x.ord.set k r } n (k + 1)) F (x.ord[k]?.getD [])
structure OrdPre (p : List Ev) (x : SX) (n k F : Nat) : Prop where
 hx : XOk p x.exec
 hf : x.fen = []
 hfv : x.fenV = .slice none 0 0
 hkn : k + n = 3
 hrows : ∀ j, k < j → x.ord[j]?.getD [] = []
 hnd : (x.ord[k]?.getD []).Nodup
 hsub : ∀ y ∈ x.ord[k]?.getD [], y ∈ Ir p x.dn k p.length
 hF : 0 < n → (Ir p x.dn k p.length).length < (x.ord[k]?.getD []).length + F
 hin : ∀ e ∈ Il p x n k F, e ∈ Cf p
 hcnt : x.cnt + (Il p x n k F).length < 2 ^ 62
def Nt (ts : List (List OpV)) (ps lv : Value) (mb n k F : Nat) : Prop :=
 ∀ (M : Aa) (x : SX), Dv M 5 Bd ps ts → Sl M 6 Fq lv (Ac ts) → x.Ok (Ac ts) M → OrdPre (Ac ts) x n k F →
  Con Tryz.prog 129 #[pv mb 0, vi k] M (x.G mb ps lv) (x.Post (Ac ts) (Il (Ac ts) x n k F) mb ps lv M)
theorem Al8 : P2 [] = -1 := rfl
theorem Al9 (l : List Int) (a : Int) : P2 (l ++ [a]) = a := by
 unfold P2
 rw [lA4, lCd, Ed]
 simp [Ae]
section
variable {M : Aa}
abbrev Fs4 (mb b9 k cnt a : Nat) (last : Int) : Env := [(0, pv mb 0), (1, vi k), (4, vi cnt), (5, vi last), (6, pv b9 0), (8, vi a)]
theorem Ac7 {C : Cx Tryz.prog} {k' : List RItem} {ts : List (List OpV)} {ps lv : Value} {mb b9 n k F cnt a : Nat} {last : Int} {bits : List Value} {x : SX} {r : SF} (hs : Dv M 5 Bd ps ts) (bF : Sl M 6 Fq lv (Ac ts)) (ok : (x.now r).Ok (Ac ts) M) (cH : k < 3) (cB : Nt ts ps lv mb (n + 1) k F)
  (b0 : ∀ ords : List Value, OrdPre (Ac ts) { x.now r with ord := x.ord.set k (x.ord[k]?.getD [] ++ [(a : Int)]), ords := ords } (n + 1) k F) (ed : (x.ord[k]?.getD []).length ≤ 100)
  (key : ∀ M' r', M.le M' → (x.now r').Ok (Ac ts) M' → (x.now r).Found (Ac ts) (Jy (Ir (Ac ts) x.dn k (Ac ts).length) (okV (Ac ts) x.exec) (fun r => Em (Ac ts) { x.exec with ord := x.ord.set k r } n (k + 1)) F (x.ord[k]?.getD [] ++ [(a : Int)])) r' →
   EV C [0, 1, 4, 5, 6, 7, 8, 9] k' (Fs4 mb b9 k cnt a last) M' ((b9, Cl 141 bits) :: (x.now r').G mb ps lv)) :
  EV C [0, 1, 4, 5, 6, 7, 8, 9] (.code (.seq (.reg At6) (.seq (.any Ag5) (.seq (.reg At7) (.reg At8)))) :: k') (Fs4 mb b9 k cnt a last) M ((b9, Cl 141 bits) :: (x.now r).G mb ps lv) := by
 have aM := hs
 have bT := bF
 obtain ⟨vs, ac, c6, rfl, eU, aH, hk⟩ := hs
 obtain ⟨la, lc, rfl, ay⟩ := bF
 have ar : x.ord.length = 3 := ok.ol
 have ny : x.ords.length = 3 := ok.ords
 have bi : k < x.ord.length := by omega
 have gE : k < x.ords.length := by omega
 have cQ := ok.ord k gE bi
 obtain ⟨ra, rc, fH, ru, cn⟩ := cQ
 have hfv : x.fenV = .slice none 0 0 := (b0 x.ords).hfv
 have erow : x.ord[k]?.getD [] = x.ord[k] := by rw [lA2 bi]; rfl
 change x.ords[k] = .slice ra x.ord[k].length rc at fH
 change rdS M 1 ra x.ord[k].length (x.ord[k].flatMap ei) at cn
 have cN : x.ords[k]? = some (.slice ra x.ord[k].length rc) := by rw [lA2 gE, fH]
 have vN : x.ord[k].length ≤ 100 := by rw [← erow]; exact ed
 have rx := fun G => V0 (M := M.add G) x.ord[k] _ ⟨ra, rc, rfl, cn.mono (JB _ _)⟩ (by rw [erow] at ed; omega)
 have hG := fun r : SF => JP r mb (.slice vs ts.length ac) (.slice la (Ac ts).length lc) hfv
 rw [hG r]
 unfold Nt at cB
 generalize iC : Ac ts = p at *
 refine EV.seq ?_
 repeat' first | refine rg ?_ | (refine lAb _ (lAb _ (lAb _ (lAd (Di6 cN) ?_))); try refine nx ?_) | refine ZF ?_ | (refine xsA rfl ?_; try refine nx ?_) | exact ⟨⟩ | fail
 refine EV.seq ?_
 refine JI (fun ρ' M' G' => M' = M ∧ (∀ q ∈ [(0, pv mb 0), (1, vi k), (4, vi cnt), (5, vi last), (6, pv b9 0), (8, vi a), (9, .slice ra x.ord[k].length rc)], get ρ' q.1 = some q.2) ∧ ∃ o2 : Vec, Ey 1 o2 (x.ord[k].length + 1) (x.ord[k].map vi ++ [vi a]) ∧
  G' = (b9, Cl 141 bits) :: (mb, Cl 39 (.slice vs ts.length ac :: .slice la p.length lc :: Av x.fb x.frm.length x.frm.length :: Av x.db x.dn.length x.dn.length :: Av x.ob x.ord.length x.ord.length :: .slice none 0 0 :: osv r.oo r.outs.length :: vi r.cnt :: vi 0 :: r.sm)) :: (x.fb, Cl 3 (x.frm.map vi)) :: (x.db, Cl 4 (x.dn.map vb)) :: (x.ob, Cl 34 (x.ords.set k (osv o2 (x.ord[k].length + 1)))) :: (osg 34 r.oo r.vs ++ osg 3 o2 (x.ord[k].map vi ++ [vi a]))) ?_ ?_
 ·intro k2 kk
  refine EV.any (t := Ag5) [(mb, Cl 39 (.slice vs ts.length ac :: .slice la p.length lc :: Av x.fb x.frm.length x.frm.length :: Av x.db x.dn.length x.dn.length :: Av x.ob x.ord.length x.ord.length :: .slice none 0 0 :: osv r.oo r.outs.length :: vi r.cnt :: vi 0 :: r.sm))] eS ?_
  simp only [Aj, As, Ak, Au, reduceIte, Nat.reduceEqDiff]
  repeat' first | ((first | refine zo (fun lq aD => ?_) | refine zl ?_ | fail); try refine nz ?_) | refine zq (fun lq tq aD aB => ?_) | ((with_reducible refine JK (rx _) ?_) ;  rintro v1 M1 G1 ⟨ov, aQ, rfl, rfl⟩; try refine nz ?_) | (refine ZA (fun tq aB => ?_) (fun tq aB => ?_) <;> try refine nz ?_) | exact zn | ((first | with_reducible intro b | refine xsA rfl ?_ | refine lAd (Aa.le_refl _) (lAd (Ax ?_) ?_); focus ((repeat' first | exact lA0 _ | exact lAe _ | exact lAh _ _ | refine lAg _ ?_ | refine lAo ?_ _ | refine lA9 ?_ | refine lAq _ ?_); done) | fail); try refine nz ?_) | exact ⟨⟩ | fail
  all_goals refine ⟨[vi a], Or.inr ⟨b, 0, rfl, An 0 rfl rfl (by simp)⟩, by simp [Bq, Ch, Value.oneCell'], Or.inl ⟨ov, _, rfl, _, aQ, _, PullL.p, by simp only [maxLen]; omega, by omega, ?_⟩⟩
  all_goals intro o2 au _
  all_goals simp only [lAp, lAa, lAc]
  all_goals
   repeat' first | ((first | refine zo (fun lq aD => ?_) | refine zl ?_ | fail); try refine nz ?_) | refine zq (fun lq tq aD aB => ?_) | (refine ZB (fun tq aB => ?_) (fun tq aB => ?_) <;> try refine nz ?_) | exact zn | refine zf ?_ | refine ZF ?_ | ((first | refine xw ?_ | refine lAd (Aa.le_refl _) (lAd (Ax ?_) ?_); focus ((repeat' first | exact lA0 _ | exact lAe _ | exact lAh _ _ | refine lAg _ ?_ | refine lAo ?_ _ | refine lA9 ?_ | refine lAq _ ?_); done) | fail); try refine nz ?_) | exact ⟨⟩ | fail
  all_goals rw [Av1 _ gE]
  all_goals refine JH (kk _ M ((b9, Cl 141 bits) :: (mb, Cl 39 (.slice vs ts.length ac :: .slice la p.length lc :: Av x.fb x.frm.length x.frm.length :: Av x.db x.dn.length x.dn.length :: Av x.ob x.ord.length x.ord.length :: .slice none 0 0 :: osv r.oo r.outs.length :: vi r.cnt :: vi 0 :: r.sm)) :: (x.fb, Cl 3 (x.frm.map vi)) :: (x.db, Cl 4 (x.dn.map vb)) :: (x.ob, Cl 34 (x.ords.set k (osv o2 (x.ord[k].length + 1)))) :: (osg 34 r.oo r.vs ++ osg 3 o2 (x.ord[k].map vi ++ [vi a]))) ⟨rfl, ?_, o2, au, rfl⟩)
  all_goals
   exact eE
 rintro ρ2 M2 G2 ⟨rfl, hq, o2, au, rfl⟩
 refine JA ?_ hq (lA0 _)
 refine JG ((b9, Cl 141 bits) :: (mb, Cl 39 (.slice vs ts.length ac :: .slice la p.length lc :: Av x.fb x.frm.length x.frm.length :: Av x.db x.dn.length x.dn.length :: Av x.ob x.ord.length x.ord.length :: .slice none 0 0 :: osv r.oo r.outs.length :: vi r.cnt :: vi 0 :: r.sm)) :: (x.fb, Cl 3 (x.frm.map vi)) :: (x.db, Cl 4 (x.dn.map vb)) :: (x.ob, Cl 34 (x.ords.set k (osv o2 (x.ord[k].length + 1)))) :: osg 34 r.oo r.vs) ?_
 generalize hR : M2.add _ = N2
 have fk : M2.le N2 := hR ▸ JB _ _
 have d7 : (x.ord[k] ++ [(a : Int)]).length = x.ord[k].length + 1 := by simp
 have c7 : SlC N2 1 ei (osv o2 (x.ord[k].length + 1)) (x.ord[k] ++ [(a : Int)]) := by
  rw [← hR, ← d7]
  refine Hc (T := 3) (by rw [d7, lAv]; exact au) rfl (fun q hq => ?_)
  rw [lAv] at hq
  exact hq
 clear hR
 have tU := b0 (x.ords.set k (osv o2 (x.ord[k].length + 1)))
 rw [erow] at tU key
 obtain ⟨x2, bk⟩ : ∃ x2 : SX, x2 = { x.now r with ord := x.ord.set k (x.ord[k] ++ [(a : Int)]), ords := x.ords.set k (osv o2 (x.ord[k].length + 1)) } := ⟨_, rfl⟩
 have okx : x2.Ok p N2 := by
  have h := ok.mono fk
  rw [bk]
  refine ⟨h.fl, h.dl, by show (x.ord.set _ _).length = 3; rw [lBl]; exact h.ol, by show (x.ords.set _ _).length = 3; rw [lBl]; exact h.ords, fun j h1 h2 => ?_, h.fen, h.oo, h.vs, h.asc, h.out, h.sl⟩
  show SlC N2 1 ei (x.ords.set _ _)[j] (x.ord.set _ _)[j]
  by_cases hj : k = j
  ·subst hj
   rw [lDj, lDj]; exact c7
  ·rw [lFg hj, lFg hj]
   exact h.ord j (by change j < (x.ords.set _ _).length at h1; rwa [lBl] at h1) (by change j < (x.ord.set _ _).length at h2; rwa [lBl] at h2)
 have bP := cB N2 x2 (aM.mono fk) (bT.mono fk) okx (by rw [bk]; exact tU)
 have vO : Il p x2 (n + 1) k F = Jy (Ir p x.dn k p.length) (okV p x.exec) (fun r => Em p { x.exec with ord := x.ord.set k r } n (k + 1)) F (x.ord[k] ++ [(a : Int)]) := by
  rw [bk]
  unfold Il
  dsimp only [SX.now, SX.exec]
  simp only [List.set_set, List.getElem?_set_self bi, lAn]
  rfl
 rw [vO, JR, bk] at bP
 simp only [SX.now, lBl, hfv] at bP
 refine EV.seq ?_
 repeat' first | refine rg ?_ | exact ⟨⟩ | fail
 refine Con.callS bP ?_
 rintro v4 M4 G4 _ ⟨bq, r4, rfl, ok4, kD⟩
 rw [JR]
 simp only [SX.now, lBl, hfv, lAp]
 repeat' first | refine rg ?_ | refine ZF ?_ | (refine xsA rfl ?_; try refine nx ?_) | (refine xw ?_; refine nx ?_) | exact ⟨⟩ | fail
 refine ⟨by rw [lBl]; omega, ?_⟩
 rw [Av1 _ (by rw [lBl]; exact gE), List.set_set, ← fH, List.set_getElem_self]
 have aY := Aa.le_trans fk bq
 have kk := key M4 r4 aY ⟨ok4.fl, ok4.dl, ar, ny, fun j h1 h2 => (ok.ord j h1 h2).mono aY, ok.fen.mono aY, ok4.oo, ok4.vs, ok4.asc, ok4.out, ok4.sl⟩ ⟨kD.outs, kD.cnt⟩
 rw [hG r4] at kk
 refine JE kk ?_
 exact eE
end
def V2 (p : List Ev) (dn : List Bool) (k : Nat) (i : Nat) : Bool := B7 dn i && decide ((evAt p i).op.loc = (k : Int))
def Xy (p : List Ev) (x : SX) (n k F : Nat) (a : Int) : List Exec := Jy (Ir p x.dn k p.length) (okV p x.exec) (fun r => Em p { x.exec with ord := x.ord.set k r } n (k + 1)) F (x.ord[k]?.getD [] ++ [a])
abbrev Av2 (p : List Ev) (x : SX) (n k F m : Nat) : List Exec := T3 (V2 p x.dn k) (okV p x.exec) (Xy p x n k F) (x.ord[k]?.getD []) m
section
variable {M : Aa}
theorem Xz {C : Cx Tryz.prog} {k' : List RItem} {mb b9 k : Nat} {x : SX} {ps lv : Value} {ra : Option Addr} {rc : Nat} (cH : k < 3) (ar : x.ord.length = 3) (hfv : x.fenV = .slice none 0 0) {row : List Int} (cN : x.ords[k]? = some (.slice ra row.length rc)) (cn : rdS M 1 ra row.length (row.flatMap ei)) (ed : row.length ≤ 100) (hin : ∀ i, i < row.length → 0 ≤ Ae row i ∧ Ae row i < 16)
  (key : EV C [0, 1, 4, 5, 6, 7, 8, 9] k' [(0, pv mb 0), (1, vi k), (4, vi 0), (5, vi (P2 row)), (6, pv b9 0)] M ((b9, Cl 141 ((marks row).map vb)) :: x.G mb ps lv)) :
  EV C [0, 1, 4, 5, 6, 7, 8, 9] (.code (.seq (.reg Db4) (.block 0 (.loop Ag4))) :: k') [(0, pv mb 0), (1, vi k), (4, vi 0), (5, vi (-1)), (6, pv b9 0)] M ((b9, Cl 141 (List.replicate 16 (vb false))) :: x.G mb ps lv) := by
 have dq : x.G mb ps lv = _ := JP x.sf mb ps lv hfv
 rw [dq] at key ⊢
 repeat' first | refine st ?_ | refine rg ?_ | exact ⟨⟩ | fail
 refine JC (fun i : Nat => ([(0, pv mb 0), (1, vi k), (4, vi 0), (5, vi (P2 (row.take i))), (6, pv b9 0), (7, vi i)], M, (b9, Cl 141 ((marks (row.take i)).map vb)) :: (mb, Cl 39 (ps :: lv :: Av x.fb x.frm.length x.frm.length :: Av x.db x.dn.length x.dn.length :: Av x.ob x.ord.length x.ord.length :: .slice none 0 0 :: osv x.sf.oo x.sf.outs.length :: vi x.sf.cnt :: vi 0 :: x.sf.sm)) :: (x.fb, Cl 3 (x.frm.map vi)) :: (x.db, Cl 4 (x.dn.map vb)) :: (x.ob, Cl 34 x.ords) :: osg 34 x.sf.oo x.sf.vs)) (fun i => i ≤ row.length) (fun i => row.length - i) 0 rfl (lA8 _) ?env1 ?sub1 ?_
 case env1 =>
  rw [lCr, Al8]
  exact eE
 case sub1 =>
  simp only [lCr, Vu, lDz]
  exact lA0 _
 rintro i hi ih
 dsimp only at hi ih ⊢
 repeat' first | refine st ?_ | refine rg ?_ | (refine lAb _ (lAb _ (lAb _ (lAd (Di6 cN) ?_))); try refine nx ?_) | (refine cX ?_ ?_ <;> intro h <;> try exact Ah h) | refine ZF ?_ | (refine xsA rfl ?_; try refine nx ?_) | exact ⟨⟩ | fail
 ·have aC : i < row.length := by omega
  have h0 := hin i aC
  obtain ⟨w, cl⟩ : ∃ w : Nat, Ae row i = w := ⟨(Ae row i).toNat, by omega⟩
  rw [cl] at h0
  have ry : w < 16 := by omega
  obtain ⟨rb, ro, rfl, hat⟩ := Sl.at (sz := 1) (enc := ei) (fun _ => rfl) (by decide) cn (by omega)
  have hw := Cj hat i aC
  change rd M rb (ro + i) 1 [vi (Ae row i)] at hw
  rw [cl] at hw
  have ih2 := ih (i + 1) (by omega) (by omega)
  rw [B2 aC, Al9, cl, ← P7 ry] at ih2
  have eX := Ge (row.take i)
  repeat' first | refine su ?_ | (refine EV.reg ?_; (conv => (arg 2; whnf)); (repeat first | refine nx ?_ | simp only [lA1, Ge])) | refine ZF ?_ | (refine xm ?_; (repeat first | refine nx ?_ | simp only [lA1, Ge])) | (refine xw ?_; (repeat first | refine nx ?_ | simp only [lA1, Ge])) | fail
  rw [Ap vb _ (by omega)]
  repeat' first | fail
  refine JA ih2 ?_ (lA0 _)
  exact eE
 ·have bO : i = row.length := by omega
  subst bO
  rw [lB2]
  refine JA key ?_ (lA0 _)
  exact eE
end
theorem XOk.growOrd {p : List Ev} {e : Exec} (hx : XOk p e) {k : Nat} {row : List Int} (hn : row.Nodup) (hs : ∀ y ∈ row, y ∈ Ir p e.dn k p.length) {a : Int} (ha : a ∈ Ir p e.dn k p.length) (gX : a ∉ row) : (row ++ [a]).Nodup ∧ (∀ y ∈ row ++ [a], y ∈ Ir p e.dn k p.length) ∧ XOk p { e with ord := e.ord.set k (row ++ [a]) } := by
 have h1 : (row ++ [a]).Nodup := by
  rw [lBo]
  refine ⟨hn, by simp, fun x hx y hy h => ?_⟩
  rw [lAi] at hy
  subst h hy
  exact gX hx
 have h2 : ∀ y ∈ row ++ [a], y ∈ Ir p e.dn k p.length := fun y hy => by
  rcases lB7.1 hy with h | h
  ·exact hs y h
  ·rw [lAi] at h; rw [h]; exact ha
 refine ⟨h1, h2, ⟨hx.fl, hx.dl, (lBl).trans hx.ol, hx.fr, fun l hl => ?_, hx.fin⟩⟩
 rcases List.mem_or_eq_of_mem_set hl with h | h
 ·exact hx.oin l h
 ·rw [h]
  refine ⟨fun y hy => ?_, lBm (Bw h1 h2) (A8 _ _)⟩
  obtain ⟨i, hi, _, rfl⟩ := B9.1 (h2 y hy)
  omega
theorem V3 {p : List Ev} {x : SX} {n k : Nat} (hr : x.ord[k]?.getD [] = []) : Il p x n k (p.length + 1) = Em p x.exec n k := by
 cases n with
 | zero => rfl
 | succ n => rw [Il, hr]; rfl
theorem Ac8 (ts : List (List OpV)) (ps lv : Value) (aK : A1 ts = 0) (mb F : Nat) : Nt ts ps lv mb 0 3 F := by
 intro M x hs bF ok ⟨hx, hf, hfv, _, _, _, _, _, hin, hcnt⟩
 have bJ := T6 ts ps lv aK mb x hs bF ok hx hf hfv hin hcnt
 refine Con.enter Q81_ok (args := [pv mb 0, vi 3]) (by simp [Q81]) fun w0 => ?_
 simp only [Q81, A9]
 repeat' first | refine st ?_ | refine rg ?_ | (refine cX ?_ ?_ <;> intro h <;> try exact Ah h) | exact ⟨⟩ | fail
 refine Con.run bJ ?_
 rintro v4 M4 G4 _ h4
 repeat' first | fail
 (refine rt Q81_ok ?_; try with_reducible exact ⟨⟩)
 exact h4
theorem Ac9 (ts : List (List OpV)) (ps lv : Value) (aK : A1 ts = 0) (mb n k F : Nat) (cR : Nt ts ps lv mb n (k + 1) ((Ac ts).length + 1)) (cB : Nt ts ps lv mb (n + 1) k F) : Nt ts ps lv mb (n + 1) k (F + 1) := by
 intro M x hs bF ok ⟨hx, hf, hfv, hkn, hrows, hnd, hsub, hF, hin, hcnt⟩
 have aM := hs
 have bT := bF
 have cg := Cm aK
 have cH : k < 3 := by omega
 have ar : x.ord.length = 3 := ok.ol
 have ny : x.ords.length = 3 := ok.ords
 have bi : k < x.ord.length := by omega
 have gE : k < x.ords.length := by omega
 obtain ⟨ra, rc, fH, ru, cn⟩ := ok.ord k gE bi
 have erow : x.ord[k]?.getD [] = x.ord[k] := by rw [lA2 bi]; rfl
 have cN : x.ords[k]? = some (.slice ra x.ord[k].length rc) := by rw [lA2 gE, fH]
 have rz : x.ord[k].length ≤ 16 := by have := hx.ordSz (by omega : (Ac ts).length ≤ 16) k cH; rwa [show x.exec.ord[k]?.getD [] = x.ord[k] from erow] at this
 have sA : ∀ i, i < x.ord[k].length → 0 ≤ Ae x.ord[k] i ∧ Ae x.ord[k] i < 16 := fun i hi => by
  have := hx.ordIn k cH i (by rw [show x.exec.ord[k]?.getD [] = x.ord[k] from erow]; exact hi)
  rw [show x.exec.ord[k]?.getD [] = x.ord[k] from erow] at this
  omega
 have fx : Il (Ac ts) x (n + 1) k (F + 1) = Av2 (Ac ts) x n k F (Ac ts).length ++ if Jz (V2 (Ac ts) x.dn k) (x.ord[k]?.getD []) (Ac ts).length = 0 then Em (Ac ts) { x.exec with ord := x.ord.set k (x.ord[k]?.getD []) } n (k + 1) else [] := Sk _ _ _ _ _ _
 have aw : ({ x.exec with ord := x.ord.set k (x.ord[k]?.getD []) } : Exec) = x.exec := by rw [erow, List.set_getElem_self]; rfl
 rw [aw] at fx
 rw [fx] at hin hcnt ⊢
 obtain ⟨vs, ac, c6, rfl, eU, aH, hk⟩ := hs
 obtain ⟨la, lc, rfl, ay⟩ := bF
 refine Con.enter Q81_ok (args := [pv mb 0, vi k]) (by simp [Q81]) fun w0 => ?_
 simp only [Q81, A9]
 have aP : (Ac ts).length ≤ 16 := by omega
 refine EV.seq ?_
 repeat' first | fail
 refine EV.seq ?_
 repeat' first | refine su ?_ | refine rg ?_ | (refine cX ?_ ?_ <;> intro h <;> try exact Ah h) | exact ⟨⟩ | fail
 refine EV.seq ?_
 repeat' first | refine rg ?_ | exact ⟨⟩ | fail
 refine EV.seq ?_
 repeat' first | refine rg ?_ | exact ⟨⟩ | fail
 refine EV.seq ?_
 repeat' first | refine rg ?_ | (with_reducible intro b; try refine nx ?_) | exact ⟨⟩ | fail
 obtain ⟨b9, rfl⟩ : ∃ x, x = b := ⟨_, rfl⟩
 refine EV.seq ?_
 refine JA (Xz (x := x) (k := k) cH ar hfv cN cn (by omega) sA ?_) ?_ (lA0 _)
 rotate_left
 ·exact eE
 repeat' first | refine st ?_ | refine rg ?_ | exact ⟨⟩ | fail
 refine JC (fun z : Nat × Aa × SF => ([(0, pv mb 0), (1, vi k), (4, vi (Jz (V2 (Ac ts) x.dn k) (x.ord[k]?.getD []) z.1)), (5, vi (P2 x.ord[k])), (6, pv b9 0), (8, vi z.1)], z.2.1, (b9, Cl 141 ((marks x.ord[k]).map vb)) :: (x.now z.2.2).G mb (.slice vs ts.length ac) (.slice la (Ac ts).length lc)))
  (fun z => z.1 ≤ (Ac ts).length ∧ M.le z.2.1 ∧ (x.now z.2.2).Ok (Ac ts) z.2.1 ∧ x.Found (Ac ts) (Av2 (Ac ts) x n k F z.1) z.2.2) (fun z => (Ac ts).length - z.1) (0, M, x.sf) rfl ⟨lA8 _, Aa.le_refl _, ok, SX.Found.refl x _⟩ ?env1 (lA0 _) ?_
 case env1 =>
  exact eE
 rintro ⟨a, N, r⟩ ⟨ha, aA, okr, bW⟩ ih
 dsimp only at ha aA okr bW ih ⊢
 have hG := fun r : SF => JP r mb (.slice vs ts.length ac) (.slice la (Ac ts).length lc) hfv
 simp only [hG] at ih ⊢
 have aL := T4 (ay.mono aA)
 repeat' first | refine st ?_ | refine rg ?_ | (refine cX ?_ ?_ <;> intro h <;> try exact Ah h) | refine ZF ?_ | (refine xsA rfl ?_; try refine nx ?_) | exact ⟨⟩ | fail
 ·have aW : a < (Ac ts).length := by omega
  obtain ⟨pb, po, nr, ez⟩ := aL a aW
  have f9 : rd N pb (po + a * 6 + 1) 5 [vi (evAt (Ac ts) a).op.kind, vi (evAt (Ac ts) a).op.loc, vi (evAt (Ac ts) a).op.v, vi (evAt (Ac ts) a).op.w, vi (evAt (Ac ts) a).op.ord] := ez.pt 1 5 (by omega) rfl
  have hlo : rd N pb (po + a * 6 + 1 + 1) 1 [vi (evAt (Ac ts) a).op.loc] := ez.pt 2 1 (by omega) rfl
  have ax : a < x.dn.length := by have := ok.dl; omega
  have aj : a < x.frm.length := by have := ok.fl; omega
  have eX : a < (marks x.ord[k]).length := by rw [Ge]; omega
  have oA := Lq eX
  have vP : ∀ {G : Own} [At G b9 141 ((marks x.ord[k]).map vb)], rd (N.add G) b9 a 1 [vb (decide ((a : Int) ∈ x.ord[k]))] := fun {G} h => by rw [← oA]; exact Cg (f := vb) eX
  have cD := fun G => (show Aq _ _ _ (N.add G) _ from Gd (evAt (Ac ts) a).op)
  have edn : B7 x.dn a = x.dn[a] := by rw [B7, lA2 ax]; rfl
  have efr : Af x.exec a = x.frm[a] := by show x.frm[a]?.getD 0 = _; rw [lA2 aj]; rfl
  subst nr
  repeat' first | refine su ?_ | refine rg ?_ | with_reducible assumption | (refine JD ?_ (fun hc K' hK => ?_) ?_; rotate_left) | ((first | refine lAb _ (lAd (vP) ?_) | refine lAb _ (lAd (Cg (f := vb) ax) ?_) | fail); try refine nx ?_) | (refine cX ?_ ?_ <;> intro h <;> try exact Ah h) | refine ZF ?_ | ((first | refine xm ?_ | refine xsA rfl ?_ | fail); try refine nx ?_) | exact ⟨⟩ | fail
  ·have aI : ¬ (V2 (Ac ts) x.dn k a = true ∧ (a : Int) ∉ x.ord[k]?.getD []) := by
    rw [erow, V2, edn]
    rintro ⟨h1, h2⟩
    simp only [lA6, decide_eq_true_eq] at h1
    rcases h with (h | h) | h
    ·rw [h1.1] at h; cases h
    ·exact h h1.2
    ·exact h2 h
   have hps : Av2 (Ac ts) x n k F (a + 1) = Av2 (Ac ts) x n k F a := by
    have := Jq (V2 (Ac ts) x.dn k) (okV (Ac ts) x.exec) (Xy (Ac ts) x n k F) (x.ord[k]?.getD []) a
    rwa [if_neg fun hh => aI ⟨hh.1, hh.2.1⟩, lAa] at this
   have bh := Mg (V2 (Ac ts) x.dn k) (x.ord[k]?.getD []) a
   rw [if_neg aI] at bh
   have ih2 := ih (a + 1, N, r) ⟨by dsimp only; omega, aA, okr, by dsimp only; rw [hps]; exact bW⟩ (by dsimp only; omega)
   dsimp only at ih2
   rw [bh] at ih2
   refine JA ih2 ?_ (lA0 _)
   exact eE
  ·obtain ⟨⟨i9, fw⟩, mF⟩ := h
   have bV : V2 (Ac ts) x.dn k a = true ∧ (a : Int) ∉ x.ord[k]?.getD [] := ⟨by rw [V2, edn, i9, fw]; simp, by rw [erow]; exact mF⟩
   have hps : Av2 (Ac ts) x n k F (a + 1) = Av2 (Ac ts) x n k F a ++ if V2 (Ac ts) x.dn k a = true ∧ (a : Int) ∉ x.ord[k]?.getD [] ∧ okV (Ac ts) x.exec (x.ord[k]?.getD []) a = true then Xy (Ac ts) x n k F a else [] := Jq (V2 (Ac ts) x.dn k) (okV (Ac ts) x.exec) (Xy (Ac ts) x n k F) (x.ord[k]?.getD []) a
   have bh := Mg (V2 (Ac ts) x.dn k) (x.ord[k]?.getD []) a
   have bL := Ze (V2 (Ac ts) x.dn k) (x.ord[k]?.getD []) a
   rw [if_pos bV] at bh
   have oC : okV (Ac ts) x.exec (x.ord[k]?.getD []) a = (!Bx (evAt (Ac ts) a).op || decide (x.frm[a] = P2 x.ord[k])) := by
    rw [okV, lAy, efr, erow]
   refine EV.seq ?_
   repeat' first | refine rg ?_ | exact ⟨⟩ | fail
   refine EV.seq ?_
   refine EV.seq ?_
   repeat' first | refine su ?_ | refine rg ?_ | with_reducible assumption | (refine JD ?_ (fun hc K' hK => ?_) ?_; rotate_left) | ((first | refine lAb _ (lAd (Cg (f := vi) aj) ?_) | refine Aq.call (cD _) ?_ | fail); try refine nx ?_) | (refine cX ?_ ?_ <;> intro h <;> try exact Ah h) | refine ZF ?_ | ((first | refine xm ?_ | refine xsA rfl ?_ | fail); try refine nx ?_) | exact ⟨⟩ | fail
   ·have ai : okV (Ac ts) x.exec (x.ord[k]?.getD []) a = false := by rw [oC]; simp [h.1, h.2]
    rw [if_neg fun hh => (by rw [ai] at hh; exact absurd hh.2.2 (by simp)), lAa] at hps
    have ih2 := ih (a + 1, N, r) ⟨by dsimp only; omega, aA, okr, by dsimp only; rw [hps]; exact bW⟩ (by dsimp only; omega)
    dsimp only at ih2
    rw [bh] at ih2
    refine JA ih2 ?_ (lA0 _)
    exact eE
   ·have ai : okV (Ac ts) x.exec (x.ord[k]?.getD []) a = true := by
     rw [oC]
     rcases h with h | h <;> simp [h]
    rw [if_pos ⟨bV.1, bV.2, ai⟩] at hps
    obtain ⟨pre, b0⟩ : ∃ t, Av2 (Ac ts) x n k F (Ac ts).length = Av2 (Ac ts) x n k F (a + 1) ++ t := by
     have := Qa (V2 (Ac ts) x.dn k) (okV (Ac ts) x.exec) (Xy (Ac ts) x n k F) (x.ord[k]?.getD []) (a + 1) ((Ac ts).length - (a + 1))
     rwa [show a + 1 + ((Ac ts).length - (a + 1)) = (Ac ts).length by omega] at this
    have aJ : (a : Int) ∈ Ir (Ac ts) x.dn k (Ac ts).length := B9.2 ⟨a, aW, bV.1, rfl⟩
    obtain ⟨q1, q2, q3⟩ := hx.growOrd hnd hsub aJ bV.2
    have cI : (x.ord.set k (x.ord[k]?.getD [] ++ [(a : Int)]))[k]?.getD [] = x.ord[k]?.getD [] ++ [(a : Int)] := by rw [List.getElem?_set_self bi]; rfl
    refine JA (Ac7 (cnt := Jz (V2 (Ac ts) x.dn k) (x.ord[k]?.getD []) (a + 1)) (a := a) (last := P2 x.ord[k]) (b9 := b9) (r := r) (aM.mono aA) (bT.mono aA) okr cH cB (fun ords => ?_) (by rw [erow]; omega) ?_) ?_ (by rw [hG]; exact lA0 _)
    rotate_left
    ·rintro M' r' bB ok' cv
     have ih2 := ih (a + 1, M', r') ⟨by dsimp only; omega, Aa.le_trans aA bB, ok', by dsimp only; rw [hps]; exact bW.trans cv⟩ (by dsimp only; omega)
     dsimp only at ih2
     rw [hG]
     repeat' first | refine su ?_ | refine rg ?_ | exact ⟨⟩ | fail
     refine JA ih2 ?_ (lA0 _)
     exact eE
    ·rw [bh]
     exact eE
    have ig : Il (Ac ts) { x.now r with ord := x.ord.set k (x.ord[k]?.getD [] ++ [(a : Int)]), ords := ords } (n + 1) k F = Xy (Ac ts) x n k F a := by
     rw [Il, Xy]
     dsimp only [SX.now, SX.exec]
     rw [cI]
     simp only [List.set_set]
     rfl
    refine ⟨q3, hf, hfv, hkn, fun j hj => ?_, ?_, ?_, fun _ => ?_, ?_, ?_⟩
    ·show (x.ord.set k _)[j]?.getD [] = []
     rw [List.getElem?_set_ne (by omega)]; exact hrows j hj
    ·show ((x.ord.set k _)[k]?.getD []).Nodup
     rw [cI]; exact q1
    ·show ∀ y ∈ (x.ord.set k _)[k]?.getD [], _
     rw [cI]; exact q2
    ·show _ < ((x.ord.set k _)[k]?.getD []).length + F
     rw [cI, lA4, lCd]
     have := hF (by omega)
     show (Ir (Ac ts) x.dn k (Ac ts).length).length < _
     omega
    ·rw [ig]
     exact fun e he => hin e (lD6 _ (by rw [b0, hps]; exact lD6 _ (lDk _ he)))
    ·rw [ig]
     have h1 := bW.cnt
     rw [lA4, b0, hps, lA4, lA4] at hcnt
     show r.cnt + _ < _
     omega
 all_goals have nw : a = (Ac ts).length := by omega
 all_goals subst nw
 ·have h0 : Jz (V2 (Ac ts) x.dn k) (x.ord[k]?.getD []) (Ac ts).length = 0 := by simpa using h
  rw [if_pos h0] at hin hcnt ⊢
  have cM : IntKind.i64.wrap ((k : Int) + 1) = ((k + 1 : Nat) : Int) := (w64 (by omega) (by omega)).trans (by omega)
  have mF : x.ord[k + 1]?.getD [] = [] := hrows (k + 1) (by omega)
  have iu : Il (Ac ts) (x.now r) n (k + 1) ((Ac ts).length + 1) = Em (Ac ts) x.exec n (k + 1) := V3 mF
  have hc := cR N (x.now r) (aM.mono aA) (bT.mono aA) okr ⟨hx, hf, hfv, by omega, fun j hj => hrows j (by omega), by rw [show (x.now r).ord[k + 1]?.getD [] = [] from mF]; exact lCf, by rw [show (x.now r).ord[k + 1]?.getD [] = [] from mF]; simp, fun _ => by
   rw [show (x.now r).ord[k + 1]?.getD [] = [] from mF]
   have : (Ir (Ac ts) (x.now r).dn (k + 1 : Nat) (Ac ts).length).length ≤ (Ac ts).length := A8 _ _
   simp only [lC1]; omega, by rw [iu]; exact fun e he => hin e (lDk _ he), by
   rw [iu]
   have := bW.cnt
   rw [lA4] at hcnt
   show r.cnt + _ < _; omega⟩
  rw [iu, hG] at hc
  rw [cM]
  refine Con.callS hc ?_
  rintro v5 M5 G5 gq ⟨_, r5, rfl, ok5, rq⟩
  refine EV.weaken ?_ (fun _ _ h => h) (lAh _ _)
  refine EV.done Q81_ok ?_
  (repeat first | refine nx ?_ | simp only [Q81])
  exact ⟨Aa.le_trans aA gq, r5, rfl, ok5, bW.trans rq⟩
 ·have h0 : Jz (V2 (Ac ts) x.dn k) (x.ord[k]?.getD []) (Ac ts).length ≠ 0 := by simpa using h
  rw [if_neg h0, lAa]
  refine EV.weaken (G' := (x.now r).G mb (.slice vs ts.length ac) (.slice la (Ac ts).length lc)) ?_ (fun _ _ h => h) (by rw [hG]; exact lD9 _ _)
  refine EV.done Q81_ok ?_
  (repeat first | refine nx ?_ | simp only [Q81])
  exact ⟨aA, r, rfl, okr, bW⟩
theorem X0 (ts : List (List OpV)) (ps lv : Value) (mb n k : Nat) : Nt ts ps lv mb (n + 1) k 0 := by
 intro M x hs bF ok h
 have h1 := Bw h.hnd h.hsub
 have := h.hF (by omega)
 omega
theorem Kk (ts : List (List OpV)) (ps lv : Value) (aK : A1 ts = 0) (mb : Nat) : ∀ n k F, k + n = 3 → Nt ts ps lv mb n k F
 | 0, k, F, h => by
  obtain rfl : k = 3 := by omega
  exact Ac8 ts ps lv aK mb F
 | n + 1, k, 0, h => X0 ts ps lv mb n k
 | n + 1, k, F + 1, h => Ac9 ts ps lv aK mb n k F (Kk ts ps lv aK mb n (k + 1) _ (by omega)) (Kk ts ps lv aK mb (n + 1) k F h)
theorem Bi0 {p : List Ev} (hk : ∀ i, i < p.length → 0 ≤ (evAt p i).op.kind ∧ (evAt p i).op.kind ≤ 5) {i : Nat} (hi : i < p.length) {o : Int × Bool} (ho : o ∈ Ig p i) : o.1 < p.length ∧ ((evAt p i).reads = true → -1 ≤ o.1) := by
 rcases P3.1 ho with ⟨h1, rfl⟩ | ⟨h1, f, hf, h2⟩
 ·refine ⟨by dsimp only; omega, fun h => ?_⟩
  rw [← Dg (hk i hi), h1] at h; cases h
 ·have := (Lp.1 h2).1
  exact ⟨by omega, fun _ => by omega⟩
theorem exV_ok {p : List Ev} (hk : ∀ i, i < p.length → 0 ≤ (evAt p i).op.kind ∧ (evAt p i).op.kind ≤ 5) {pre : List (Int × Bool)} (hl : pre.length = p.length) (ho : ∀ i, (h : i < pre.length) → pre[i] ∈ Ig p i) : XOk p (exV pre) := by
 refine ⟨by simp [exV, Sc, hl], by simp [exV, dnV, hl], rfl, fun i hi => ?_, fun l h => ?_, fun _ h => absurd h lB5, lA8 _⟩
 ·have := Bi0 hk hi (ho i (by omega))
  rw [show (exV pre).frm[i]?.getD 0 = pre[i].1 from Y6 (e := exV pre) (by omega) rfl]
  exact this
 ·obtain rfl : l = [] := by simpa [exV] using h
  exact ⟨fun _ h => absurd h lB5, lA8 _⟩
theorem V4 (e : Exec) (n : Nat) : Y5 e (n + 1) = (Y5 e n && !(decide (0 ≤ Af e n) && !B7 e.dn (Af e n).toNat)) := by
 simp only [Y5, lDi, lDh, lFo, List.all_nil, lEm]
theorem Zp {e : Exec} {n : Nat} : ∀ d, Y5 e (n + d) = true → Y5 e n = true
 | 0, h => h
 | d + 1, h => by
  rw [← lDa, V4, lA6] at h
  exact Zp d h.1
section
variable {M : Aa}
theorem V5 (ts : List (List OpV)) (ps lv : Value) (aK : A1 ts = 0) (mb : Nat) (x : SX) (hs : Dv M 5 Bd ps ts) (bF : Sl M 6 Fq lv (Ac ts)) (ok : x.Ok (Ac ts) M) (pre : List (Int × Bool)) (b0 : pre.length = (Ac ts).length) (cV : x.exec = exV pre) (hfv : x.fenV = .slice none 0 0) (hopt : ∀ i, (h : i < pre.length) → pre[i] ∈ Ig (Ac ts) i)
  (hin : ∀ e ∈ Ex (Ac ts) pre, e ∈ Cf (Ac ts)) (hcnt : x.cnt + (Ex (Ac ts) pre).length < 2 ^ 62) :
  Con Tryz.prog 92 #[pv mb 0] M (x.G mb ps lv) (x.Post (Ac ts) (Ex (Ac ts) pre) mb ps lv M) := by
 have aM := hs
 have bT := bF
 have cg := Cm aK
 have hp := He aK
 have dt := Jk aK
 have hx : XOk (Ac ts) x.exec := by rw [cV]; exact exV_ok dt b0 hopt
 have aP : (Ac ts).length ≤ 16 := by omega
 have be : ∀ i, i < (Ac ts).length → Af x.exec i < (Ac ts).length := fun i hi => (hx.fr i hi).1
 have oD : Ex (Ac ts) pre = if Ik (Ac ts) x.exec = true then [] else Em (Ac ts) x.exec 3 0 := by rw [Ex, cV]
 have ij : x.fen = [] := congrArg Exec.fen cV
 have nZ : x.ord = [[], [], []] := congrArg Exec.ord cV
 have aj : x.frm.length = (Ac ts).length := ok.fl
 have ax : x.dn.length = (Ac ts).length := ok.dl
 rw [oD] at hin hcnt ⊢
 obtain ⟨vs, ac, c6, rfl, eU, aH, hk⟩ := hs
 obtain ⟨la, lc, rfl, ay⟩ := bF
 have hG := fun r : SF => JP r mb (.slice vs ts.length ac) (.slice la (Ac ts).length lc) hfv
 have dq : x.G mb (.slice vs ts.length ac) (.slice la (Ac ts).length lc) = _ := hG x.sf
 have aI : ∀ w0 F k N, M.le N → Ik (Ac ts) x.exec = true → EV (Cx.fn Tryz.prog 92 103 w0 F M (x.Post (Ac ts) (if Ik (Ac ts) x.exec = true then [] else Em (Ac ts) x.exec 3 0) mb (.slice vs ts.length ac) (.slice la (Ac ts).length lc) M)) [0, 2, 3, 4, 6, 9] (.code .ret :: k) [] N (x.G mb (.slice vs ts.length ac) (.slice la (Ac ts).length lc)) := fun w0 F k N hN hp => by
  rw [if_pos hp]
  (refine rt Q78_ok ?_; try with_reducible exact ⟨⟩)
  exact ⟨hN, x.sf, rfl, ok.mono hN, SX.Found.refl x _⟩
 refine Con.enter Q78_ok (args := [pv mb 0]) (by simp [Q78]) fun w0 => ?_
 simp only [Q78, A9]
 refine EV.seq ?_
 rw [dq]
 repeat' first | refine st ?_ | refine rg ?_ | exact ⟨⟩ | fail
 refine JC (fun a : Nat => ([(0, pv mb 0), (2, vi a)], M, x.G mb (.slice vs ts.length ac) (.slice la (Ac ts).length lc))) (fun a => a ≤ (Ac ts).length ∧ Y5 x.exec a = true) (fun a => (Ac ts).length - a) 0 rfl ⟨lA8 _, rfl⟩ ?env1 (by dsimp only; rw [dq]; exact lA0 _) ?_
 case env1 =>
  exact eE
 rintro a ⟨ha, dW⟩ ih
 dsimp only at ha dW ih ⊢
 rw [dq] at *
 repeat' first | refine st ?_ | refine rg ?_ | (refine cX ?_ ?_ <;> intro h <;> try exact Ah h) | refine ZF ?_ | (refine xsA rfl ?_; try refine nx ?_) | exact ⟨⟩ | fail
 ·have aW : a < (Ac ts).length := by omega
  have gf : a < x.frm.length := by omega
  have efr : Af x.exec a = x.frm[a] := by show x.frm[a]?.getD 0 = _; rw [lA2 gf]; rfl
  have hu := be a aW
  have iv := V4 x.exec a
  rw [dW, lC5] at iv
  rw [efr] at hu iv
  generalize sB : x.frm[a] = fa at *
  have aH : ∀ {G : Own} [At G x.fb 3 (x.frm.map vi)], rd (M.add G) x.fb a 1 [vi fa] := fun {G} h => by rw [← sB]; exact Cg (f := vi) gf
  by_cases h0 : 0 ≤ fa
  ·obtain ⟨u, rfl⟩ : ∃ u : Nat, fa = u := ⟨fa.toNat, by omega⟩
   have pB : u < x.dn.length := by omega
   have edn : B7 x.exec.dn u = x.dn[u] := by rw [B7]; show x.dn[u]?.getD false = _; rw [lA2 pB]; rfl
   rw [lAy, edn] at iv
   repeat' first | refine st ?_ | (refine EV.reg ?_; (conv => (arg 2; whnf)); (repeat first | refine nx ?_ | simp only [h0])) | with_reducible assumption | ((first | refine lAb _ (lAd (Cg (f := vb) pB) ?_) | refine lAb _ (lAd (aH) ?_) | fail); (repeat first | refine nx ?_ | simp only [h0])) | (refine JD ?_ (fun hc K' hK => ?_) ?_; rotate_left) | (refine cX ?_ ?_ <;> intro h <;> try exact Ah h) | refine ZF ?_ | (refine xsA rfl ?_; (repeat first | refine nx ?_ | simp only [h0])) | fail
   ·have an : Ik (Ac ts) x.exec = true := by
     cases bG : Y5 x.exec (Ac ts).length with
     | true =>
      have := Zp (e := x.exec) (n := a + 1) ((Ac ts).length - (a + 1)) (by rw [show a + 1 + ((Ac ts).length - (a + 1)) = (Ac ts).length by omega]; exact bG)
      rw [this, h] at iv
      simp at iv
     | false => rw [Ik, bG]; rfl
    exact JA (aI _ _ _ _ (Aa.le_refl _) an) (fun _ h => nomatch h) (lA0 _)
   ·have i9 : x.dn[u] = true := by simpa using h
    refine JA (ih (a + 1) ⟨by omega, by rw [iv, i9]; simp⟩ (by omega)) ?_ (lA0 _)
    exact eE
  ·repeat' first | refine st ?_ | (refine EV.reg ?_; (conv => (arg 2; whnf)); (repeat first | refine nx ?_ | simp only [h0])) | (refine lAb _ (lAd (aH) ?_); (repeat first | refine nx ?_ | simp only [h0])) | (refine JD ?_ (fun hc K' hK => ?_) ?_; rotate_left) | (refine cX ?_ ?_ <;> intro h <;> try exact Ah h) | (refine xsA rfl ?_; (repeat first | refine nx ?_ | simp only [h0])) | (exfalso; simp at hc; done) | exact false | fail
   refine JA (ih (a + 1) ⟨by omega, by rw [iv, decide_eq_false h0]; simp⟩ (by omega)) ?_ (lA0 _)
   exact eE
 ·have nw : a = (Ac ts).length := by omega
  subst nw
  clear ih
  have hX := ok.isX (mb := mb) (pv := .slice vs ts.length ac) (lv := .slice la (Ac ts).length lc)
  have mE : (.agg x.xV.toArray : Value) = .agg #[Av x.fb x.frm.length x.frm.length, Av x.db x.dn.length x.dn.length, Av x.ob x.ord.length x.ord.length, .slice none 0 0] := by
   simp only [SX.xV, hfv]
  have sC : x.G mb (.slice vs ts.length ac) (.slice la (Ac ts).length lc) = _ := hG x.sf
  rw [mE, sC] at hX
  have mX := Hh (Ac ts) _ (bT.mono (JB M _)) aP x.exec _ hX ok.fl be
  refine EV.any (t := Cn6) _ (lA0 _) ?_
  simp only [Aj, As, Ak, Au, reduceIte, Nat.reduceEqDiff]
  repeat' first | ((first | refine zo (fun lq aD => ?_) | refine zl ?_ | fail); try refine nz ?_) | refine zq (fun lq tq aD aB => ?_) | ((with_reducible refine JK mX ?_) ;  rintro v1 M1 G1 ⟨rb, lb, kb, rfl, aG, rfl⟩; try refine nz ?_) | (refine ZB (fun tq aB => ?_) (fun tq aB => ?_) <;> try refine nz ?_) | exact zn | refine zf ?_ | ((first | refine xrA rfl ?_ | refine xsA rfl ?_ | fail); try refine nz ?_) | exact ⟨⟩ | fail
  refine JG ((mb, Cl 39 (.slice vs ts.length ac :: .slice la (Ac ts).length lc :: Av x.fb x.frm.length x.frm.length :: Av x.db x.dn.length x.dn.length :: Av x.ob x.ord.length x.ord.length :: .slice none 0 0 :: osv x.sf.oo x.sf.outs.length :: vi x.sf.cnt :: vi 0 :: x.sf.sm)) :: (x.fb, Cl 3 (x.frm.map vi)) :: (x.db, Cl 4 (x.dn.map vb)) :: (x.ob, Cl 34 x.ords) :: osg 34 x.sf.oo x.sf.vs) ?_
  generalize hR : M.add _ = N
  have aA : M.le N := hR ▸ JB _ _
  have fH : Sl N 1 ei (Av rb (Ac ts).length (Ac ts).length) (Bh (Ac ts) x.exec.frm).r := by
   rw [← hR, ← aG.r]
   exact ⟨_, _, rfl, by rw [A0]; exact .inr ⟨rb, 0, rfl, Bm (T := 3) (cs := (Bh (Ac ts) x.exec.frm).r.map vi) (by simp) (by rw [lBr, lAw (by simp)]) (by simp)⟩⟩
  have gE : Sl N 1 eb (Av kb (Ac ts).length (Ac ts).length) (Bh (Ac ts) x.exec.frm).k := by
   rw [← hR, ← aG.k]
   exact ⟨_, _, rfl, by rw [Er]; exact .inr ⟨kb, 0, rfl, Bm (T := 4) (cs := (Bh (Ac ts) x.exec.frm).k.map vb) (by simp) (by rw [lBr, lAw (by simp)]) (by simp)⟩⟩
  clear hR
  have hX := (ok.mono aA).isX (mb := mb) (pv := .slice vs ts.length ac) (lv := .slice la (Ac ts).length lc)
  rw [mE, sC] at hX
  have ak := fun G => (bT.mono aA).mono (JB N G)
  obtain ⟨told, dK⟩ : ∃ b, b = Ty (Ac ts) x.exec := ⟨_, rfl⟩
  have vQ := (Kg (Ac ts) _ (ak _) aP x.exec _ hX ok.fl be).mono fun u M' G' h => (show ∃ a1 a2 a3 b1 b2 b3, u = .tuple #[.slice a1 a2 a3, .slice b1 b2 b3, vb told] from by
   rw [dK]
   rcases h with ⟨h1, rfl⟩ | ⟨h1, _, _, rfl, ⟨_, _, rfl, _⟩, ⟨_, _, rfl, _⟩⟩
   ·rw [h1]; exact ⟨_, _, _, _, _, _, rfl⟩
   ·rw [h1]; exact ⟨_, _, _, _, _, _, rfl⟩)
  refine EV.seq ?_
  refine EV.any (t := Cn7) _ (lA0 _) ?_
  simp only [Aj, As, Ak, Au, reduceIte, Nat.reduceEqDiff]
  repeat' first | ((first | refine zo (fun lq aD => ?_) | refine zl ?_ | fail); try refine nz ?_) | refine zq (fun lq tq aD aB => ?_) | ((with_reducible refine JK vQ ?_) ;  rintro v1 M1 G1 ⟨a1, a2, a3, b1, b2, b3, rfl⟩; try refine nz ?_) | (refine ZB (fun tq aB => ?_) (fun tq aB => ?_) <;> try refine nz ?_) | exact zn | refine zf ?_ | ((first | refine xrA rfl ?_ | refine xsA rfl ?_ | fail); try refine nz ?_) | exact ⟨⟩ | fail
  refine JA (ρ' := [(0, pv mb 0), (4, Av rb (Ac ts).length (Ac ts).length), (6, Av kb (Ac ts).length (Ac ts).length), (9, vb told)]) (G' := ((mb, Cl 39 (.slice vs ts.length ac :: .slice la (Ac ts).length lc :: Av x.fb x.frm.length x.frm.length :: Av x.db x.dn.length x.dn.length :: Av x.ob x.ord.length x.ord.length :: .slice none 0 0 :: osv x.sf.oo x.sf.outs.length :: vi x.sf.cnt :: vi 0 :: x.sf.sm)) :: (x.fb, Cl 3 (x.frm.map vi)) :: (x.db, Cl 4 (x.dn.map vb)) :: (x.ob, Cl 34 x.ords) :: osg 34 x.sf.oo x.sf.vs)) ?_ ?_ (lAh _ _)
  rotate_left
  ·exact eE
  refine EV.seq ?_
  refine EV.seq ?_
  obtain ⟨wb, ik⟩ : ∃ b, b = (List.range (Ac ts).length).all (Hv (Ac ts) x.exec) := ⟨_, rfl⟩
  obtain ⟨cb, iy⟩ : ∃ b, b = Be (Ca (Cu (T9 (Ac ts)) (Hr (Ac ts) x.exec))) := ⟨_, rfl⟩
  have jb : Ik (Ac ts) x.exec = (!told || !wb || cb) := by rw [Ik, dW, ik, iy, dK]; rfl
  have ir := (show Aq _ _ _ _ _ from Nr (Ac ts) _ (ak _) aP x.exec _ hX ok.dl _ _ (fH.mono (JB _ _)) (gE.mono (JB _ _)) aG)
  rw [← ik] at ir
  have eN := fun G => (show Aq _ _ _ (N.add G) _ from Fr (Ac ts) _ (ak G) aP)
  have fg := (show Aq _ _ _ _ _ from Jp (Ac ts) _ (ak _) aP x.exec _ hX ok.fl be)
  have gg := thrR_ok (p := Ac ts) aP
  have eQ := fromR_ok (p := Ac ts) (e := x.exec) aP
  have ci := fun G => (show Aq _ _ _ (N.add G) _ from Dn _ _ gg eQ)
  have dI := fun G => (show Aq _ _ _ (N.add G) _ from Fa _ (unionR_ok gg eQ))
  have fh : ∀ G, Aq Tryz.prog 46 #[E9 (Ca (Cu (T9 (Ac ts)) (Hr (Ac ts) x.exec)))] (N.add G) (vb cb) := fun G => by
   rw [iy]; exact Gs _ (unionR_ok gg eQ).close
  have hb : told = false ∨ (told = true ∧ wb = false) ∨ (told = true ∧ wb = true) := by cases told <;> cases wb <;> simp
  refine EV.any (t := Cn8) _ (lA0 _) ?_
  simp only [Aj, As, Ak, Au, reduceIte, Nat.reduceEqDiff]
  rcases hb with rfl | ⟨rfl, rfl⟩ | ⟨rfl, rfl⟩
  all_goals
   repeat' first | ((refine ZE ?_ (fun lq aD hc => ?_) (fun lq aD => ?_); rotate_left) <;> (try (exfalso; simp at hc; done)) <;> try refine nz ?_) | ((first | refine zo (fun lq aD => ?_) | refine zl ?_ | fail); try refine nz ?_) | refine zq (fun lq tq aD aB => ?_) | ((first | with_reducible refine Aq.call ir ?_ | with_reducible refine Aq.call (eN _) ?_ | with_reducible refine Aq.call fg ?_ | with_reducible refine Aq.call (ci _) ?_ | with_reducible refine Aq.call (dI _) ?_ | with_reducible refine Aq.call (fh _) ?_ | fail); try refine nz ?_) | (refine ZA (fun tq aB => ?_) (fun tq aB => ?_) <;> try refine nz ?_) | (refine ZB (fun tq aB => ?_) (fun tq aB => ?_) <;> try refine nz ?_) | exact zn | refine zf ?_ | refine ZC (fun tq aB => ?_) | ((refine ZD (fun tq aB h => ?_) (fun tq aB h => ?_)) <;> try (exfalso; simp at h; done)) | with_reducible rfl | ((first | refine xrA rfl ?_ | refine xsA rfl ?_ | refine lAd (Aa.le_refl _) (lAd (Ax ?_) ?_); focus ((repeat' first | exact lA0 _ | exact lAe _ | exact lAh _ _ | refine lAg _ ?_ | refine lAo ?_ _ | refine lA9 ?_ | refine lAq _ ?_); done) | fail); try refine nz ?_) | exact false | exact ⟨⟩ | fail
  ·repeat' first | (refine cX ?_ ?_ <;> intro h <;> try exact Ah h) | fail
   exact JA (aI _ _ _ _ aA (by rw [jb]; rfl)) (fun _ h => nomatch h) (lA0 _)
  ·repeat' first | (refine cX ?_ ?_ <;> intro h <;> try exact Ah h) | fail
   exact JA (aI _ _ _ _ aA (by rw [jb]; rfl)) (fun _ h => nomatch h) (lA0 _)
  cases cb with
  | true =>
   repeat' first | (refine cX ?_ ?_ <;> intro h <;> try exact Ah h) | fail
   exact JA (aI _ _ _ _ aA (by rw [jb]; rfl)) (fun _ h => nomatch h) (lA0 _)
  | false =>
   have oE : Ik (Ac ts) x.exec = false := by rw [jb]; rfl
   rw [if_neg (by rw [oE]; exact lFm)] at hin hcnt
   have mR : x.ord[0]?.getD [] = [] := by rw [nZ]; rfl
   have iu : Il (Ac ts) x 3 0 ((Ac ts).length + 1) = Em (Ac ts) x.exec 3 0 := V3 mR
   have hc := Kk ts _ _ aK mb 3 0 ((Ac ts).length + 1) rfl N x (aM.mono aA) (bT.mono aA) (ok.mono aA) ⟨hx, ij, hfv, rfl, fun j hj => by
    rw [nZ]
    match j, hj with
    | 1, _ => rfl
    | 2, _ => rfl
    | j + 3, _ => rfl, by rw [mR]; exact lCf, by rw [mR]; simp, fun _ => by
    rw [mR]
    have : (Ir (Ac ts) x.dn (0 : Nat) (Ac ts).length).length ≤ (Ac ts).length := A8 _ _
    simp only [lC1]; omega, by rw [iu]; exact hin, by rw [iu]; exact hcnt⟩
   rw [iu, sC] at hc
   repeat' first | refine su ?_ | refine rg ?_ | (refine cX ?_ ?_ <;> intro h <;> try exact Ah h) | exact ⟨⟩ | fail
   refine Con.run hc ?_
   rintro v4 M4 G4 _ ⟨bq, h4⟩
   repeat' first | fail
   refine EV.done Q78_ok ?_
   (repeat first | refine nx ?_ | simp only [Q78])
   rw [oE]
   exact ⟨Aa.le_trans aA bq, h4⟩
end
def SX.mid (x : SX) (fr : List Int) (dn : List Bool) (r : SF) : SX := { x with frm := fr, dn := dn, outs := r.outs, cnt := r.cnt, oo := r.oo, vs := r.vs, sm := r.sm }
theorem JV {x : SX} (fr : List Int) (dn : List Bool) (r : SF) (mb : Nat) (ps lv : Value) {na : Option Addr} {n nc : Nat} (h : x.fenV = .slice na n nc) : (x.mid fr dn r).G mb ps lv = (mb, Cl 39 (ps :: lv :: Av x.fb fr.length fr.length :: Av x.db dn.length dn.length :: Av x.ob x.ord.length x.ord.length :: .slice na n nc :: osv r.oo r.outs.length :: vi r.cnt :: vi 0 :: r.sm)) :: (x.fb, Cl 3 (fr.map vi)) :: (x.db, Cl 4 (dn.map vb)) :: (x.ob, Cl 34 x.ords) :: osg 34 r.oo r.vs := by
 rw [JR]
 show _ :: _ = _
 simp only [SX.mid, h]
def SX.PostC (x : SX) (p : List Ev) (l : List Exec) (at_ : Nat) (mb : Nat) (pv lv : Value) (M : Aa) : Value → Aa → Own → Prop :=
 fun _ M' G' => M.le M' ∧ ∃ fr dn r, fr.take at_ = x.frm.take at_ ∧ dn.take at_ = x.dn.take at_ ∧ G' = (x.mid fr dn r).G mb pv lv ∧ (x.mid fr dn r).Ok p M' ∧ x.Found p l r
structure ChoosePre (p : List Ev) (x : SX) (pre : List (Int × Bool)) (n : Nat) : Prop where
 hl : pre.length + n = p.length
 hf : x.frm.take pre.length = Sc pre
 hd : x.dn.take pre.length = dnV pre
 hopt : ∀ i, (h : i < pre.length) → pre[i] ∈ Ig p i
 ho : x.ord = [[], [], []]
 hfe : x.fen = []
 hfv : x.fenV = .slice none 0 0
 hin : ∀ e ∈ Co p n pre, e ∈ Cf p
 hcnt : x.cnt + (Co p n pre).length < 2 ^ 62
def Mh (ts : List (List OpV)) (ps lv : Value) (mb n : Nat) : Prop :=
 ∀ (M : Aa) (x : SX) (pre : List (Int × Bool)), Dv M 5 Bd ps ts → Sl M 6 Fq lv (Ac ts) → x.Ok (Ac ts) M → ChoosePre (Ac ts) x pre n →
  Con Tryz.prog 40 #[pv mb 0, vi pre.length] M (x.G mb ps lv) (x.PostC (Ac ts) (Co (Ac ts) n pre) pre.length mb ps lv M)
theorem Ls {α : Type} {l : List α} {n : Nat} (h : n < l.length) (a : α) : (l.set n a).take (n + 1) = l.take n ++ [a] := by
 rw [lA7 (by rw [lBl]; exact h), lDj, lCz (lA5 n)]
section
variable {M : Aa}
theorem Qc {C : Cx Tryz.prog} {K : Value → Aa → Own → Prop} {ts : List (List OpV)} {ps lv : Value} {mb n b4 : Nat} {c4 : List Value} {x : SX} {fr : List Int} {dn : List Bool} {r : SF} {pre : List (Int × Bool)} {o : Int × Bool} (hs : Dv M 5 Bd ps ts) (bF : Sl M 6 Fq lv (Ac ts)) (cB : Mh ts ps lv mb n)
  (ok : (x.mid fr dn r).Ok (Ac ts) M) (hl : pre.length + (n + 1) = (Ac ts).length) (hf : fr.take pre.length = Sc pre) (hd : dn.take pre.length = dnV pre) (hopt : ∀ i, (h : i < pre.length) → pre[i] ∈ Ig (Ac ts) i) (ho : x.ord = [[], [], []]) (hfe : x.fen = []) (hfv : x.fenV = .slice none 0 0)
  (gZ : o ∈ Ig (Ac ts) pre.length) (hin : ∀ e ∈ Co (Ac ts) n (pre ++ [o]), e ∈ Cf (Ac ts)) (hcnt : r.cnt + (Co (Ac ts) n (pre ++ [o])).length < 2 ^ 62)
  (hK : ∀ v M' fr' dn' r', M.le M' → fr'.take pre.length = Sc pre → dn'.take pre.length = dnV pre → (x.mid fr' dn' r').Ok (Ac ts) M' → (x.now r).Found (Ac ts) (Co (Ac ts) n (pre ++ [o])) r' → K v M' ((b4, Cl 83 c4) :: (x.mid fr' dn' r').G mb ps lv)) :
  De C 40 #[pv mb 0, vi (pre.length + 1 : Nat)] M ((b4, Cl 83 c4) :: (x.mid (fr.set pre.length o.1) (dn.set pre.length o.2) r).G mb ps lv) K := by
 have aj : fr.length = (Ac ts).length := ok.fl
 have ax : dn.length = (Ac ts).length := ok.dl
 have hc := cB M (x.mid (fr.set pre.length o.1) (dn.set pre.length o.2) r) (pre ++ [o]) hs bF
  ⟨(lBl).trans aj, (lBl).trans ax, ok.ol, ok.ords, ok.ord, ok.fen, ok.oo, ok.vs, ok.asc, ok.out, ok.sl⟩
  ⟨by rw [lA4, lCd]; omega, by
   show (fr.set _ _).take _ = _
   rw [lA4, lCd, Ls (by omega), hf]; simp [Sc], by
   show (dn.set _ _).take _ = _
   rw [lA4, lCd, Ls (by omega), hd]; simp [dnV], fun i hi => by
   by_cases h : i < pre.length
   ·rw [lCq h]; exact hopt i h
   ·obtain rfl : i = pre.length := by simp at hi; omega
    rw [lCn (lA5 _)]
    simpa using gZ, ho, hfe, hfv, hin, hcnt⟩
 rw [lA4, lCd] at hc
 refine Con.callA hc (G2 := [(b4, Cl 83 c4)]) (lBt (l₁ := [_])) ?_
 rintro v M' G' bB ⟨_, fr', dn', r', h1, h2, rfl, h4, h5⟩
 have e1 : fr'.take pre.length = Sc pre := by
  have := congrArg (List.take pre.length) h1
  rw [lDb, lDb, lC0 (by omega)] at this
  rw [this, ← hf]
  exact lCz (lA5 _)
 have e2 : dn'.take pre.length = dnV pre := by
  have := congrArg (List.take pre.length) h2
  rw [lDb, lDb, lC0 (by omega)] at this
  rw [this, ← hd]
  exact lCz (lA5 _)
 exact hK v M' fr' dn' r' bB e1 e2 h4 ⟨h5.outs, h5.cnt⟩
end
theorem X1 (ts : List (List OpV)) (ps lv : Value) (aK : A1 ts = 0) (mb : Nat) : Mh ts ps lv mb 0 := by
 intro M x pre hs bF ok ⟨hl, hf, hd, hopt, ho, hfe, hfv, hin, hcnt⟩
 have bT := bF
 have aj : x.frm.length = (Ac ts).length := ok.fl
 have ax : x.dn.length = (Ac ts).length := ok.dl
 have fV : pre.length = (Ac ts).length := hl
 rw [lAw (by omega)] at hf hd
 have cV : x.exec = exV pre := by
  show (⟨x.frm, x.dn, x.ord, x.fen⟩ : Exec) = _
  rw [hf, hd, ho, hfe]; rfl
 have cg := Cm aK
 have hc := V5 ts ps lv aK mb x hs bF ok pre fV cV hfv hopt hin hcnt
 obtain ⟨la, lc, rfl, ay⟩ := bF
 have dq : x.G mb ps (.slice la (Ac ts).length lc) = _ := JP x.sf mb ps (.slice la (Ac ts).length lc) hfv
 refine Con.enter Q77_ok (args := [pv mb 0, vi pre.length]) (by simp [Q77]) fun w0 => ?_
 simp only [Q77, A9]
 rw [fV]
 rw [dq] at hc ⊢
 repeat' first | refine st ?_ | refine rg ?_ | (refine cX ?_ ?_ <;> intro h <;> try exact Ah h) | (refine xsA rfl ?_; try refine nx ?_) | exact ⟨⟩ | fail
 refine Con.run hc ?_
 rintro v4 M4 G4 _ ⟨bq, r, rfl, ok4, h4⟩
 repeat' first | fail
 (refine rt Q77_ok ?_; try with_reducible exact ⟨⟩)
 exact ⟨bq, x.frm, x.dn, r, rfl, rfl, rfl, ok4, h4⟩
theorem X2 {P : Program} {C : Cx P} {ρ : Env} {M : Aa} {G : Own} {KQ : Env → Prop} {l : QL} {s : Nat} {want : Bool} {body : QL} {m d : Nat} {last : A} {rest : QL} (e0 : l = .g s want body m d last rest) (hc : get ρ s = some (.bool (!want))) (h2 : ∀ l', l' = rest → Js C l' ((d, .bool (!want)) :: ρ) M G KQ) : Js C l ρ M G KQ := by
 refine Fs1 e0 hc false (fun l' _ h => absurd h (by cases want <;> simp)) (fun l' h => ?_)
 have := h2 l' h
 cases want <;> exact this
def X3 (p : List Ev) (i : Nat) (f : Int) (d : Nat) : List (Int × Bool) := (List.range d).flatMap fun d => if (evAt p i).op.kind < 3 ∧ d = 1 then [] else [(f, Ay (evAt p i).op && decide (d = 0))]
theorem Lt (p : List Ev) (i : Nat) (f : Int) (d : Nat) : X3 p i f (d + 1) = X3 p i f d ++ if (evAt p i).op.kind < 3 ∧ d = 1 then [] else [(f, Ay (evAt p i).op && decide (d = 0))] := by
 simp only [X3, lDi, lB0, lC2, lDu, lAa]
theorem Ar0 (p : List Ev) (i : Nat) (f : Int) : X3 p i f 2 = if (evAt p i).op.kind < 3 then [(f, Ay (evAt p i).op)] else [(f, Ay (evAt p i).op), (f, false)] := by
 rw [Lt, Lt]
 by_cases h : (evAt p i).op.kind < 3
 ·simp [X3, h]
 ·simp [X3, h]
abbrev goC (p : List Ev) (n : Nat) (pre : List (Int × Bool)) (o : Int × Bool) : List Exec := Co p n (pre ++ [o])
section
variable {M : Aa}
theorem V6 {C : Cx Tryz.prog} {k' : List RItem} {ts : List (List OpV)} {ps lv : Value} {mb n b4 : Nat} {x : SX} {fr : List Int} {dn : List Bool} {r : SF} {pre : List (Int × Bool)} {f : Int} (hs : Dv M 5 Bd ps ts) (bF : Sl M 6 Fq lv (Ac ts)) (cB : Mh ts ps lv mb n) (cg : (Ac ts).length ≤ 14)
  (ok : (x.mid fr dn r).Ok (Ac ts) M) (hl : pre.length + (n + 1) = (Ac ts).length) (hf : fr.take pre.length = Sc pre) (hd : dn.take pre.length = dnV pre) (hopt : ∀ i, (h : i < pre.length) → pre[i] ∈ Ig (Ac ts) i) (ho : x.ord = [[], [], []]) (hfe : x.fen = []) (hfv : x.fenV = .slice none 0 0)
  (gZ : ∀ o ∈ X3 (Ac ts) pre.length f 2, o ∈ Ig (Ac ts) pre.length) (hin : ∀ e ∈ (X3 (Ac ts) pre.length f 2).flatMap (goC (Ac ts) n pre), e ∈ Cf (Ac ts)) (hcnt : r.cnt + ((X3 (Ac ts) pre.length f 2).flatMap (goC (Ac ts) n pre)).length < 2 ^ 62)
  (key : ∀ M' fr' dn' r', M.le M' → fr'.take pre.length = Sc pre → dn'.take pre.length = dnV pre → (x.mid fr' dn' r').Ok (Ac ts) M' → (x.now r).Found (Ac ts) ((X3 (Ac ts) pre.length f 2).flatMap (goC (Ac ts) n pre)) r' →
   EV C [0, 1, 4, 5, 6] k' [(0, pv mb 0), (1, vi pre.length), (4, pv b4 0), (5, vi f)] M' ((b4, Cl 83 [vi (evAt (Ac ts) pre.length).op.kind, vi (evAt (Ac ts) pre.length).op.loc, vi (evAt (Ac ts) pre.length).op.v, vi (evAt (Ac ts) pre.length).op.w, vi (evAt (Ac ts) pre.length).op.ord]) :: (x.mid fr' dn' r').G mb ps lv)) :
  EV C [0, 1, 4, 5, 6] (.code (.seq (.reg As0) (.block 2 (.loop Af6))) :: k') [(0, pv mb 0), (1, vi pre.length), (4, pv b4 0), (5, vi f)] M ((b4, Cl 83 [vi (evAt (Ac ts) pre.length).op.kind, vi (evAt (Ac ts) pre.length).op.loc, vi (evAt (Ac ts) pre.length).op.v, vi (evAt (Ac ts) pre.length).op.w, vi (evAt (Ac ts) pre.length).op.ord]) :: (x.mid fr dn r).G mb ps lv) := by
 repeat' first | refine st ?_ | refine rg ?_ | exact ⟨⟩ | fail
 refine JC (fun z : Nat × Aa × List Int × List Bool × SF => ([(0, pv mb 0), (1, vi pre.length), (4, pv b4 0), (5, vi f), (6, vi z.1)], z.2.1, (b4, Cl 83 [vi (evAt (Ac ts) pre.length).op.kind, vi (evAt (Ac ts) pre.length).op.loc, vi (evAt (Ac ts) pre.length).op.v, vi (evAt (Ac ts) pre.length).op.w, vi (evAt (Ac ts) pre.length).op.ord]) :: (x.mid z.2.2.1 z.2.2.2.1 z.2.2.2.2).G mb ps lv))
  (fun z => z.1 ≤ 2 ∧ M.le z.2.1 ∧ z.2.2.1.take pre.length = Sc pre ∧ z.2.2.2.1.take pre.length = dnV pre ∧ (x.mid z.2.2.1 z.2.2.2.1 z.2.2.2.2).Ok (Ac ts) z.2.1 ∧ (x.now r).Found (Ac ts) ((X3 (Ac ts) pre.length f z.1).flatMap (goC (Ac ts) n pre)) z.2.2.2.2) (fun z => 2 - z.1) (0, M, fr, dn, r) rfl ⟨lA8 _, Aa.le_refl _, hf, hd, ok, ⟨rfl, rfl⟩⟩ ?env1 (lA0 _) ?_
 case env1 =>
  exact eE
 rintro ⟨d, N, fr2, dn2, r2⟩ ⟨fR, aA, ga, jc, ok2, i5⟩ ih
 dsimp only at fR aA ga jc ok2 i5 ih ⊢
 have aj : fr2.length = (Ac ts).length := ok2.fl
 have ax : dn2.length = (Ac ts).length := ok2.dl
 have gf : pre.length < fr2.length := by omega
 have j0 : pre.length < dn2.length := by omega
 obtain ⟨la, lc, rfl, ay⟩ := bF
 have hG := fun fr dn r => JV (x := x) fr dn r mb ps (.slice la (Ac ts).length lc) hfv
 have gh := fun G => (show Aq _ _ _ (N.add G) _ from Fb (evAt (Ac ts) pre.length).op)
 have fK := Lt (Ac ts) pre.length f d
 rw [hG]
 repeat' first | refine st ?_ | (refine EV.reg ?_; (conv => (arg 2; whnf)); (repeat first | refine nx ?_ | simp only [lA1, Ap vi fr2 gf])) | with_reducible assumption | (refine JD ?_ (fun hc K' hK => ?_) ?_; rotate_left) | (refine cX ?_ ?_ <;> intro h <;> try exact Ah h) | refine ZF ?_ | ((first | refine xiA rfl ?_ | refine xsA rfl ?_ | fail); (repeat first | refine nx ?_ | simp only [lA1, Ap vi fr2 gf])) | (refine xw ?_; (repeat first | refine nx ?_ | simp only [lA1, Ap vi fr2 gf])) | fail
 ·have i9 : d = 1 := by omega
  rw [if_pos ⟨h.1, i9⟩, lAa] at fK
  have ih2 := ih (d + 1, N, fr2, dn2, r2) ⟨by dsimp only; omega, aA, ga, jc, ok2, by dsimp only; rw [fK]; exact i5⟩ (by dsimp only; omega)
  dsimp only at ih2
  rw [hG] at ih2
  refine JA ih2 ?_ (lA0 _)
  exact eE
 ·have vR : d < 2 := by omega
  rw [if_neg (fun hh => h.elim (fun h => h hh.1) fun h => h (by omega))] at fK
  obtain ⟨t, ht⟩ : ∃ t, X3 (Ac ts) pre.length f 2 = X3 (Ac ts) pre.length f (d + 1) ++ t := by
   rcases (by omega : d = 0 ∨ d = 1) with rfl | rfl
   ·exact ⟨_, Lt _ _ _ 1⟩
   ·exact ⟨[], (lAa _).symm⟩
  rw [fK] at ht
  obtain ⟨wb, ik⟩ : ∃ b, b = Ay (evAt (Ac ts) pre.length).op := ⟨_, rfl⟩
  rw [← ik] at gh fK ht
  have vS : decide ((d : Int) = 0) = decide (d = 0) := by
   by_cases h0 : d = 0
   ·subst h0; rfl
   ·rw [decide_eq_false h0, decide_eq_false (by omega)]
  have kE : (f, wb && decide (d = 0)) ∈ X3 (Ac ts) pre.length f 2 := by rw [ht]; simp
  refine EV.any (t := As1) _ (lA0 _) ?_
  simp only [Aj, As, Ak, Au, reduceIte, Nat.reduceEqDiff]
  repeat' first | ((refine ZE ?_ (fun lq aD hc => ?_) (fun lq aD => ?_); rotate_left) <;> (try (exfalso; simp at hc; done)) <;> try refine nz ?_) | ((first | refine zo (fun lq aD => ?_) | refine zl ?_ | refine lAb _ (lAd (gh _) ?_) | fail); try refine nz ?_) | (refine ZB (fun tq aB => ?_) (fun tq aB => ?_) <;> try refine nz ?_) | exact zn | with_reducible rfl | refine ZF ?_ | ((first | refine xrA rfl ?_ | refine xsA rfl ?_ | refine xw ?_ | fail); try refine nz ?_) | exact ⟨⟩ | fail
  rw [vS]
  refine ⟨by rw [lA1]; omega, ?_⟩
  rw [Ap vb dn2 j0]
  repeat' first | (refine zl ?_; try refine nz ?_) | refine zq (fun lq tq aD aB => ?_) | refine zf ?_ | exact ⟨⟩ | fail
  repeat' first | refine rg ?_ | exact ⟨⟩ | fail
  have aV : IntKind.i64.wrap ((pre.length : Int) + 1) = ((pre.length + 1 : Nat) : Int) := (w64 (by omega) (by omega)).trans (by omega)
  rw [aV]
  have oF := hG (fr2.set pre.length f) (dn2.set pre.length (wb && decide (d = 0))) r2
  rw [lBl, lBl] at oF
  rw [← oF]
  refine Qc (o := (f, wb && decide (d = 0))) (hs.mono aA) (Sl.mono aA ⟨la, lc, rfl, ay⟩) cB ok2 hl ga jc hopt ho hfe hfv (gZ _ kE) (fun e he => hin e (lB4.2 ⟨_, kE, he⟩)) ?_ ?_
  ·have h1 := i5.cnt
   rw [ht, lB0, lB0, lA4, lA4, lC2, lDu, lAa] at hcnt
   change r2.cnt = r.cnt + _ at h1
   change r2.cnt + (goC (Ac ts) n pre (f, wb && decide (d = 0))).length < _
   omega
  ·intro v M' fr' dn' r' bB e1 e2 ok' cv
   repeat' first | refine su ?_ | refine rg ?_ | exact ⟨⟩ | fail
   have ih2 := ih (d + 1, M', fr', dn', r') ⟨by dsimp only; omega, Aa.le_trans aA bB, e1, e2, ok', by
    dsimp only
    rw [fK, lB0, lC2, lDu, lAa]
    exact SX.Found.trans (x := x.now r) i5 ⟨cv.outs, cv.cnt⟩⟩ (by dsimp only; omega)
   dsimp only at ih2
   refine JA ih2 ?_ (lA0 _)
   exact eE
 ·have sD : d = 2 := by omega
  subst sD
  have kk := key N fr2 dn2 r2 aA ga jc ok2 i5
  rw [hG] at kk
  refine JA kk ?_ (lA0 _)
  exact eE
end
section
theorem X4 (ts : List (List OpV)) (ps lv : Value) (aK : A1 ts = 0) (mb n : Nat) (cB : Mh ts ps lv mb n) : Mh ts ps lv mb (n + 1) := by
 intro M x pre hs bF ok ⟨hl, hf, hd, hopt, ho, hfe, hfv, hin, hcnt⟩
 have aM := hs
 have bT := bF
 have cg := Cm aK
 have dt := Jk aK
 have aj : x.frm.length = (Ac ts).length := ok.fl
 have ax : x.dn.length = (Ac ts).length := ok.dl
 obtain ⟨a, oG⟩ : ∃ a, a = pre.length := ⟨_, rfl⟩
 have ha : a < (Ac ts).length := by omega
 obtain ⟨la, lc, rfl, ay⟩ := bF
 have dq : x.G mb ps (.slice la (Ac ts).length lc) = _ := JP x.sf mb ps (.slice la (Ac ts).length lc) hfv
 have aL := T4 ay
 obtain ⟨pb, po, nr, ez⟩ := aL a ha
 have f9 : rd M pb (po + a * 6 + 1) 5 [vi (evAt (Ac ts) a).op.kind, vi (evAt (Ac ts) a).op.loc, vi (evAt (Ac ts) a).op.v, vi (evAt (Ac ts) a).op.w, vi (evAt (Ac ts) a).op.ord] := ez.pt 1 5 (by omega) rfl
 have gh := fun G => (show Aq _ _ _ (M.add G) _ from Fb (evAt (Ac ts) a).op)
 have cD := fun G => (show Aq _ _ _ (M.add G) _ from Gd (evAt (Ac ts) a).op)
 have gf : a < x.frm.length := by omega
 have j0 : a < x.dn.length := by omega
 rw [← oG]
 refine Con.enter Q77_ok (args := [pv mb 0, vi a]) (by simp [Q77]) fun w0 => ?_
 simp only [Q77, A9]
 rw [dq]
 subst nr
 repeat' first | refine st ?_ | (refine EV.reg ?_; (conv => (arg 2; whnf)); (repeat first | refine nx ?_ | simp only [lA1, Ap vi x.frm gf, Ap vb x.dn j0])) | (refine cX ?_ ?_ <;> intro h <;> try exact Ah h) | (with_reducible intro b; (repeat first | refine nx ?_ | simp only [lA1, Ap vi x.frm gf, Ap vb x.dn j0])) | refine ZF ?_ | ((first | refine xm ?_ | refine xsA rfl ?_ | fail); (repeat first | refine nx ?_ | simp only [lA1, Ap vi x.frm gf, Ap vb x.dn j0])) | (refine xw ?_; (repeat first | refine nx ?_ | simp only [lA1, Ap vi x.frm gf, Ap vb x.dn j0])) | fail
 obtain ⟨b4, rfl⟩ : ∃ x, x = b := ⟨_, rfl⟩
 refine EV.any (t := Bq8) _ (lA0 _) ?_
 simp only [Aj, As, Ak, Au, reduceIte, Nat.reduceEqDiff]
 repeat' first | ((first | refine zo (fun lq aD => ?_) | refine zl ?_ | refine lAb _ (lAd (gh _) ?_) | fail); try refine nz ?_) | (refine ZB (fun tq aB => ?_) (fun tq aB => ?_) <;> try refine nz ?_) | exact zn | refine ZF ?_ | ((first | refine xrA rfl ?_ | refine xsA rfl ?_ | refine xw ?_ | fail); try refine nz ?_) | exact ⟨⟩ | fail
 refine ⟨by rw [lA1]; omega, ?_⟩
 rw [Ap vb x.dn j0]
 repeat' first | (refine zl ?_; try refine nz ?_) | refine zq (fun lq tq aD aB => ?_) | refine zf ?_ | exact ⟨⟩ | fail
 repeat' first | refine st ?_ | refine rg ?_ | (refine Aq.call (cD _) ?_; try refine nx ?_) | (refine cX ?_ ?_ <;> intro h <;> try exact Ah h) | (refine xrA rfl ?_; try refine nx ?_) | exact ⟨⟩ | fail
 ·have hop : Ig (Ac ts) pre.length = [(-2, Ay (evAt (Ac ts) a).op)] := by rw [← oG, Ig, if_pos h]
  have oD : Co (Ac ts) (n + 1) pre = Co (Ac ts) n (pre ++ [(-2, Ay (evAt (Ac ts) a).op)]) := by rw [Co, hop, lC2, lDu, lAa]
  rw [oD] at hin hcnt ⊢
  subst oG
  have aV : IntKind.i64.wrap ((pre.length : Int) + 1) = ((pre.length + 1 : Nat) : Int) := (w64 (by omega) (by omega)).trans (by omega)
  have oF := JV (x := x) (x.frm.set pre.length (-2)) (x.dn.set pre.length (Ay (evAt (Ac ts) pre.length).op)) x.sf mb ps (.slice (some ⟨pb, po, none⟩) (Ac ts).length lc) hfv
  rw [lBl, lBl] at oF
  rw [aV, ← oF]
  refine Qc (x := x) (fr := x.frm) (dn := x.dn) (r := x.sf) (o := (-2, Ay (evAt (Ac ts) pre.length).op)) aM bT cB ok (by omega) hf hd hopt ho hfe hfv (by rw [hop]; exact lCl _) hin hcnt ?_
  intro v M' fr' dn' r' bB e1 e2 ok' cv
  refine EV.weaken ?_ (fun _ _ h => h) (lD9 _ _)
  (refine rt Q77_ok ?_; try with_reducible exact ⟨⟩)
  exact ⟨bB, fr', dn', r', e1.trans hf.symm, e2.trans hd.symm, rfl, ok', cv⟩
 ·have hop : Ig (Ac ts) pre.length = (List.range ((Ac ts).length + 1)).flatMap (We (Ac ts) pre.length) := by rw [← oG, Ig, if_neg (by rw [h]; simp)]
  have oD : Co (Ac ts) (n + 1) pre = ((List.range ((Ac ts).length + 1)).flatMap (We (Ac ts) pre.length)).flatMap (goC (Ac ts) n pre) := by rw [Co, hop]
  have hG := fun fr dn r => JV (x := x) fr dn r mb ps (.slice (some ⟨pb, po, none⟩) (Ac ts).length lc) hfv
  have hZ : ∀ m, m ≤ (Ac ts).length + 1 → ∃ t, (List.range ((Ac ts).length + 1)).flatMap (We (Ac ts) pre.length) = (List.range m).flatMap (We (Ac ts) pre.length) ++ t := fun m hm => by
   refine ⟨((List.range ((Ac ts).length + 1)).drop m).flatMap (We (Ac ts) pre.length), ?_⟩
   have h1 : (List.range ((Ac ts).length + 1)).take m = List.range m := by rw [List.take_range, lC0 hm]
   rw [← h1, ← lB0, lDx]
  rw [oD] at hin hcnt ⊢
  subst oG
  refine JC (fun z : Nat × Aa × List Int × List Bool × SF => ([(0, pv mb 0), (1, vi pre.length), (4, pv b4 0), (5, vi ((z.1 : Int) - 1))], z.2.1, (b4, Cl 83 [vi (evAt (Ac ts) pre.length).op.kind, vi (evAt (Ac ts) pre.length).op.loc, vi (evAt (Ac ts) pre.length).op.v, vi (evAt (Ac ts) pre.length).op.w, vi (evAt (Ac ts) pre.length).op.ord]) :: (x.mid z.2.2.1 z.2.2.2.1 z.2.2.2.2).G mb ps (.slice (some ⟨pb, po, none⟩) (Ac ts).length lc)))
   (fun z => z.1 ≤ (Ac ts).length + 1 ∧ M.le z.2.1 ∧ z.2.2.1.take pre.length = Sc pre ∧ z.2.2.2.1.take pre.length = dnV pre ∧ (x.mid z.2.2.1 z.2.2.2.1 z.2.2.2.2).Ok (Ac ts) z.2.1 ∧ x.Found (Ac ts) (((List.range z.1).flatMap (We (Ac ts) pre.length)).flatMap (goC (Ac ts) n pre)) z.2.2.2.2) (fun z => (Ac ts).length + 1 - z.1) (0, M, x.frm.set pre.length (-2), x.dn.set pre.length (Ay (evAt (Ac ts) pre.length).op), x.sf) rfl
   ⟨lA8 _, Aa.le_refl _, (lCz (lA5 _)).trans hf, (lCz (lA5 _)).trans hd, ⟨(lBl).trans aj, (lBl).trans ax, ok.ol, ok.ords, ok.ord, ok.fen, ok.oo, ok.vs, ok.asc, ok.out, ok.sl⟩, SX.Found.refl x _⟩ ?env1 (by dsimp only; rw [hG, lBl, lBl]; exact lA0 _) ?_
  case env1 =>
   exact eE
  rintro ⟨m, N, fr, dn, r⟩ ⟨hm, aA, ga, fR, ok2, bW⟩ ih
  dsimp only at hm aA ga fR ok2 bW ih ⊢
  rw [hG]
  repeat' first | refine st ?_ | refine rg ?_ | (refine cX ?_ ?_ <;> intro h <;> try exact Ah h) | (refine xsA rfl ?_; try refine nx ?_) | exact ⟨⟩ | fail
  ·have sP : m ≤ (Ac ts).length := by omega
   obtain ⟨t, ht⟩ := hZ (m + 1) (by omega)
   obtain ⟨sk, jd⟩ : ∃ b, b = decide ((m : Int) - 1 = pre.length ∨ (0 < m ∧ (Ay (evAt (Ac ts) (m - 1)).op = false ∨ (evAt (Ac ts) (m - 1)).op.loc ≠ (evAt (Ac ts) pre.length).op.loc))) := ⟨_, rfl⟩
   have oH : We (Ac ts) pre.length m = if sk = true then [] else X3 (Ac ts) pre.length ((m : Int) - 1) 2 := by
    rw [Ar0, We, jd]
    by_cases hc : (m : Int) - 1 = pre.length ∨ (0 < m ∧ (Ay (evAt (Ac ts) (m - 1)).op = false ∨ (evAt (Ac ts) (m - 1)).op.loc ≠ (evAt (Ac ts) pre.length).op.loc))
    ·rw [if_pos hc, if_pos (decide_eq_true hc)]
    ·simp only [if_neg hc, decide_eq_false hc, lC8, if_false]
   refine JI (fun ρ' M' G' => M' = N ∧ (∀ q ∈ [(0, pv mb 0), (1, vi pre.length), (4, pv b4 0), (5, vi ((m : Int) - 1)), (88, vb sk)], get ρ' q.1 = some q.2) ∧ G' = ((b4, Cl 83 [vi (evAt (Ac ts) pre.length).op.kind, vi (evAt (Ac ts) pre.length).op.loc, vi (evAt (Ac ts) pre.length).op.v, vi (evAt (Ac ts) pre.length).op.w, vi (evAt (Ac ts) pre.length).op.ord]) :: (mb, Cl 39 (ps :: .slice (some ⟨pb, po, none⟩) (Ac ts).length lc :: Av x.fb fr.length fr.length :: Av x.db dn.length dn.length :: Av x.ob x.ord.length x.ord.length :: .slice none 0 0 :: osv r.oo r.outs.length :: vi r.cnt :: vi 0 :: r.sm)) :: (x.fb, Cl 3 (fr.map vi)) :: (x.db, Cl 4 (dn.map vb)) :: (x.ob, Cl 34 x.ords) :: osg 34 r.oo r.vs)) ?_ ?_
   ·intro k2 kk
    have sE := fun (i : Nat) G => (show Aq _ _ _ (N.add G) _ from Fb (evAt (Ac ts) i).op)
    refine EV.any (t := Bq9) _ (lA0 _) ?_
    simp only [Aj, As, Ak, Au, reduceIte, Nat.reduceEqDiff]
    by_cases hA : (m : Int) - 1 = pre.length
    ·rw [show sk = true by rw [jd]; exact decide_eq_true (.inl hA), hA] at kk
     repeat' first | ((first | refine X2 (by first | with_reducible assumption | rfl) rfl (fun lq aD => ?_) | refine zo (fun lq aD => ?_) | refine zl ?_ | fail); (repeat first | refine nz ?_ | simp only [hA, decide_true, lBd, lB9])) | refine zf ?_ | fail
     refine kk _ _ _ ⟨rfl, ?_, rfl⟩
     exact eE
    by_cases h0 : m = 0
    ·subst h0
     have aM : sk = false := by rw [jd]; exact decide_eq_false (fun h1 => h1.elim hA fun h1 => absurd h1.1 (by omega))
     rw [aM] at kk
     have iK : decide ((0 : Int) ≤ ((0 : Nat) : Int) - 1) = false := by decide
     repeat' first | (refine X2 (by first | with_reducible assumption | rfl) rfl (fun lq aD => ?_); (repeat first | refine nz ?_ | simp only [decide_eq_false hA, iK, lBd, lB9, lFn])) | ((refine ZE ?_ (fun lq aD hc => ?_) (fun lq aD => ?_); rotate_left) <;> (try (exfalso; simp at hc; done)) <;> (repeat first | refine nz ?_ | simp only [decide_eq_false hA, iK, lBd, lB9, lFn])) | ((first | refine zo (fun lq aD => ?_) | refine zl ?_ | fail); (repeat first | refine nz ?_ | simp only [decide_eq_false hA, iK, lBd, lB9, lFn])) | refine zf ?_ | with_reducible rfl | fail
     refine kk _ _ _ ⟨rfl, ?_, rfl⟩
     exact eE
    ·obtain ⟨f, rfl⟩ : ∃ f, m = f + 1 := ⟨m - 1, by omega⟩
     have e1 : ((f + 1 : Nat) : Int) - 1 = f := by omega
     obtain ⟨pb2, po2, i6, oE⟩ := aL f (by omega)
     cases i6
     have eQ : rd N pb (po + f * 6 + 1) 5 [vi (evAt (Ac ts) f).op.kind, vi (evAt (Ac ts) f).op.loc, vi (evAt (Ac ts) f).op.v, vi (evAt (Ac ts) f).op.w, vi (evAt (Ac ts) f).op.ord] := (oE.pt 1 5 (by omega) rfl).mono aA
     have vT : rd N pb (po + f * 6 + 1 + 1) 1 [vi (evAt (Ac ts) f).op.loc] := (oE.pt 2 1 (by omega) rfl).mono aA
     have iG := sE f
     rw [e1] at jd kk hA ⊢
     rw [lEv] at jd
     have dh : decide ((0 : Int) ≤ (f : Int)) = true := decide_eq_true (by omega)
     cases tV : Ay (evAt (Ac ts) f).op with
     | false =>
      rw [tV] at iG jd
      rw [show sk = true by rw [jd]; exact decide_eq_true (.inr ⟨by omega, .inl rfl⟩)] at kk
      repeat' first | (refine X2 (by first | with_reducible assumption | rfl) rfl (fun lq aD => ?_); (repeat first | refine nz ?_ | simp only [dh, decide_eq_false hA, lBd, lB9])) | ((refine ZE ?_ (fun lq aD hc => ?_) (fun lq aD => ?_); rotate_left) <;> (try (exfalso; simp at hc; done)) <;> (repeat first | refine nz ?_ | simp only [dh, decide_eq_false hA, lBd, lB9])) | ((first | refine zo (fun lq aD => ?_) | refine zl ?_ | refine lAb _ (lAd (iG _) ?_) | fail); (repeat first | refine nz ?_ | simp only [dh, decide_eq_false hA, lBd, lB9])) | refine zf ?_ | with_reducible rfl | refine ZF ?_ | ((first | refine xm ?_ | refine xsA rfl ?_ | fail); (repeat first | refine nz ?_ | simp only [dh, decide_eq_false hA, lBd, lB9])) | fail
      refine kk _ _ _ ⟨rfl, ?_, rfl⟩
      exact eE
     | true =>
      rw [tV] at iG jd
      repeat' first | ((refine ZE ?_ (fun lq aD hc => ?_) (fun lq aD => ?_); rotate_left) <;> (try (exfalso; simp at hc; done)) <;> (repeat first | refine nz ?_ | simp only [dh, decide_eq_false hA, lBd, lB9])) | ((first | refine zo (fun lq aD => ?_) | refine zl ?_ | refine lAb _ (lAd (iG _) ?_) | fail); (repeat first | refine nz ?_ | simp only [dh, decide_eq_false hA, lBd, lB9])) | refine zf ?_ | with_reducible rfl | refine ZF ?_ | ((first | refine xm ?_ | refine xiA rfl ?_ | refine xsA rfl ?_ | fail); (repeat first | refine nz ?_ | simp only [dh, decide_eq_false hA, lBd, lB9])) | fail
      have sF : sk = !decide ((evAt (Ac ts) f).op.loc = (evAt (Ac ts) pre.length).op.loc) := by
       rw [jd]
       by_cases jD : (evAt (Ac ts) f).op.loc = (evAt (Ac ts) pre.length).op.loc
       ·rw [decide_eq_true jD, decide_eq_false]
        ·rfl
        ·rintro (h1 | ⟨_, h1 | h1⟩)
         ·exact hA h1
         ·cases h1
         ·exact h1 jD
       ·rw [decide_eq_false jD, decide_eq_true (.inr ⟨by omega, .inr jD⟩)]
        rfl
      rw [sF] at kk
      refine kk _ _ _ ⟨rfl, ?_, rfl⟩
      exact eE
   ·rintro ρ2 M2 G2 ⟨rfl, hq, rfl⟩
    refine JA ?_ hq (lA0 _)
    clear hq
    have fI : ((List.range (m + 1)).flatMap (We (Ac ts) pre.length)).flatMap (goC (Ac ts) n pre) = ((List.range m).flatMap (We (Ac ts) pre.length)).flatMap (goC (Ac ts) n pre) ++ (We (Ac ts) pre.length m).flatMap (goC (Ac ts) n pre) := by
     rw [lDi, lB0, lC2, lDu, lAa, lB0]
    have hmx : ((m + 1 : Nat) : Int) - 1 = ((m : Int) - 1) + 1 := by omega
    cases sk with
    | true =>
     rw [if_pos rfl] at oH
     rw [oH, lDu, lAa] at fI
     have ih2 := ih (m + 1, M2, fr, dn, r) ⟨by dsimp only; omega, aA, ga, fR, ok2, by dsimp only; rw [fI]; exact bW⟩ (by dsimp only; omega)
     dsimp only at ih2
     rw [hG, hmx] at ih2
     repeat' first | refine su ?_ | refine rg ?_ | (refine cX ?_ ?_ <;> intro h <;> try exact Ah h) | exact ⟨⟩ | fail
     refine JA ih2 ?_ (lA0 _)
     exact eE
    | false =>
     rw [if_neg lFm] at oH
     rw [oH] at fI
     rw [ht, lB0, fI] at hin hcnt
     repeat' first | refine su ?_ | (refine cX ?_ ?_ <;> intro h <;> try exact Ah h) | fail
     rw [← hG fr dn r]
     refine JA (V6 (f := (m : Int) - 1) (b4 := b4) (aM.mono aA) (bT.mono aA) cB cg ok2 (by omega) ga fR hopt ho hfe hfv (fun o au => ?_) (fun e he => hin e (lD6 _ (lDk _ he))) ?_ ?_) ?_ (lA0 _)
     ·rw [hop]
      exact lB4.2 ⟨m, lAl.2 (by omega), by rw [oH]; exact au⟩
     ·have h1 := bW.cnt
      rw [lA4, lA4] at hcnt
      omega
     ·intro M' fr' dn' r' bB e1 e2 ok' cv
      have ih2 := ih (m + 1, M', fr', dn', r') ⟨by dsimp only; omega, Aa.le_trans aA bB, e1, e2, ok', by dsimp only; rw [fI]; exact bW.trans cv⟩ (by dsimp only; omega)
      dsimp only at ih2
      rw [hmx] at ih2
      repeat' first | refine su ?_ | refine rg ?_ | exact ⟨⟩ | fail
      refine JA ih2 ?_ (lA0 _)
      exact eE
     ·exact eE
  ·have vU : m = (Ac ts).length + 1 := by omega
   subst vU
   rw [← hG fr dn r]
   refine EV.weaken ?_ (fun _ _ h => h) (lD9 _ _)
   refine EV.done Q77_ok ?_
   (repeat first | refine nx ?_ | simp only [Q77])
   exact ⟨aA, fr, dn, r, ga.trans hf.symm, fR.trans hd.symm, rfl, ok2, bW⟩
theorem Nu (ts : List (List OpV)) (ps lv : Value) (aK : A1 ts = 0) (mb : Nat) : ∀ n, Mh ts ps lv mb n
 | 0 => X1 ts ps lv aK mb
 | n + 1 => X4 ts ps lv aK mb n (Nu ts ps lv aK mb n)
end
def Fr4 (M : Aa) (u : Value) (outs : List (List Int)) (n : Nat) : Prop :=
 ∃ sv a1 a2 a3 b1 b2 b3 c1 c2 c3 d1 d2 d3 e1 e2 e3 f1 f2 f3 g1 g2 g3 h1 h2 h3 i1 i2 i3 j1 j2 j3, u = .agg #[.slice a1 a2 a3, .slice b1 b2 b3, .slice c1 c2 c3, .slice d1 d2 d3, .slice e1 e2 e3, .slice f1 f2 f3, sv, vi n, vi 0, .slice g1 g2 g3, .slice h1 h2 h3, .slice i1 i2 i3, .slice j1 j2 j3] ∧ Dv M 1 ei sv outs
theorem Bi1 {α : Type} (n : Nat) (v : α) : (List.replicate n [v]).flatten = List.replicate n v := by
 induction n with
 | zero => rfl
 | succ n ih => rw [lE8, lD0, ih]; rfl
theorem V7 {G G' : Own} [h : SubS G G' []] : G.Perm G' := by simpa using h.p
section
variable {M : Aa}
theorem V8 (ts : List (List OpV)) (s : Value) (hs : Dv M 5 Bd s ts) (aK : A1 ts = 0) :
  Con Tryz.prog 14 #[.agg #[s], vi 0] M [] fun u M' _ => Fr4 M' u (Im (Ac ts) (Xo (Ac ts)) []) (Xo (Ac ts)).length := by
 have aM := hs
 have cg := Cm aK
 have hp := He aK
 have hm := Jl ts
 have dt := Jk aK
 obtain ⟨sa, sc, vs, rfl, ak, aH, hk⟩ := hs
 refine Con.enter Q73_ok (args := [.agg #[.slice sa ts.length sc], vi 0]) (by simp [Q73]) fun w0 => ?_
 simp only [Q73, A9]
 refine EV.seq (EV.reg ?_)
 (repeat first | refine nx ?_ | simp only [Bm5])
 intro b2 b4
 refine EV.seq (JI (fun ρ' M' G' => ∃ lv b5, M.le M' ∧ Sl M' 6 Fq lv (Ac ts) ∧ (∀ q ∈ [(4, pv b4 0), (5, pv b5 0)], get ρ' q.1 = some q.2) ∧ G' = [(b5, Cl 39 [.slice sa ts.length sc, lv, .slice none 0 0, .slice none 0 0, .slice none 0 0, .slice none 0 0, .slice none 0 0, vi 0, vi 0, .slice none 0 0, .slice none 0 0, .slice none 0 0, .slice none 0 0]), (b4, Cl 39 [.slice none 0 0, .slice none 0 0, .slice none 0 0, .slice none 0 0, .slice none 0 0, .slice none 0 0, .slice none 0 0, vi 0, vi 0, .slice none 0 0, .slice none 0 0, .slice none 0 0, .slice none 0 0])]) ?_ ?_)
 ·intro k2 kk
  refine EV.any (t := Bm6) [(b2, Cl 24 [.slice sa ts.length sc])] eS ?_
  simp only [Aj, As, Ak, Au, reduceIte, Nat.reduceEqDiff]
  repeat' first | ((first | refine zo (fun lq aD => ?_) | refine zl ?_ | fail); try refine nz ?_) | refine zq (fun lq tq aD aB => ?_) | ((with_reducible refine Con.callS (G1 := []) (Jb ts _ aM aK) ?_) ;  rintro v1 M1 G1 bv ⟨la, lc, rfl, ay⟩; try refine nz ?_) | (refine ZA (fun tq aB => ?_) (fun tq aB => ?_) <;> try refine nz ?_) | exact zn | refine ZF ?_ | ((first | with_reducible intro b | refine xrA rfl ?_ | refine lAd (Aa.le_refl _) (lAd (Ax ?_) ?_); focus ((repeat' first | exact lA0 _ | exact lAe _ | exact lAh _ _ | refine lAg _ ?_ | refine lAo ?_ _ | refine lA9 ?_ | refine lAq _ ?_); done) | fail); try refine nz ?_) | exact ⟨⟩ | fail
  all_goals refine ⟨fun q hq => by (rw [lAi] at hq; rw [hq]; simp), ?_⟩
  all_goals
   repeat' first | ((first | refine zo (fun lq aD => ?_) | refine zl ?_ | fail); try refine nz ?_) | refine zq (fun lq tq aD aB => ?_) | (refine ZA (fun tq aB => ?_) (fun tq aB => ?_) <;> try refine nz ?_) | (refine ZB (fun tq aB => ?_) (fun tq aB => ?_) <;> try refine nz ?_) | exact zn | refine zf ?_ | ((first | with_reducible intro b | refine xw ?_ | refine lAd (Aa.le_refl _) (lAd (Ax ?_) ?_); focus ((repeat' first | exact lA0 _ | exact lAe _ | exact lAh _ _ | refine lAg _ ?_ | refine lAo ?_ _ | refine lA9 ?_ | refine lAq _ ?_); done) | fail); try refine nz ?_) | exact ⟨⟩ | fail
  all_goals refine JH (kk _ M1 [(b, Cl 39 [.slice sa ts.length sc, .slice la (Ac ts).length lc, .slice none 0 0, .slice none 0 0, .slice none 0 0, .slice none 0 0, .slice none 0 0, vi 0, vi 0, .slice none 0 0, .slice none 0 0, .slice none 0 0, .slice none 0 0]), (b4, Cl 39 [.slice none 0 0, .slice none 0 0, .slice none 0 0, .slice none 0 0, .slice none 0 0, .slice none 0 0, .slice none 0 0, vi 0, vi 0, .slice none 0 0, .slice none 0 0, .slice none 0 0, .slice none 0 0])] ⟨_, b, bv, ⟨la, lc, rfl, ay⟩, ?_, rfl⟩)
  all_goals
   exact eE
 rintro ρ2 M2 G2 ⟨lv, b5, bS, bF, hq, rfl⟩
 refine JA ?_ hq (lA0 _)
 clear hq
 have bT := bF
 obtain ⟨la, lc, rfl, ay⟩ := bF
 refine EV.seq (JI (fun ρ' M' G' => ∃ fb db ob, M' = M2 ∧ (∀ q ∈ [(4, pv b4 0), (5, pv b5 0)], get ρ' q.1 = some q.2) ∧ G' = [(b5, Cl 39 [.slice sa ts.length sc, .slice la (Ac ts).length lc, Av fb (Ac ts).length (Ac ts).length, Av db (Ac ts).length (Ac ts).length, Av ob 3 3, .slice none 0 0, .slice none 0 0, vi 0, vi 0, .slice none 0 0, .slice none 0 0, .slice none 0 0, .slice none 0 0]), (fb, Cl 3 (List.replicate (Ac ts).length (vi 0))), (db, Cl 4 (List.replicate (Ac ts).length (vb false))), (ob, Cl 34 [.slice none 0 0, .slice none 0 0, .slice none 0 0]), (b4, Cl 39 [.slice none 0 0, .slice none 0 0, .slice none 0 0, .slice none 0 0, .slice none 0 0, .slice none 0 0, .slice none 0 0, vi 0, vi 0, .slice none 0 0, .slice none 0 0, .slice none 0 0, .slice none 0 0])]) ?_ ?_)
 ·intro k2 kk
  have kk2 := fun ρ' fb db ob G' hp hq => JF (G := G') (kk ρ' M2 _ ⟨fb, db, ob, rfl, hq, rfl⟩) hp
  refine EV.any (t := Bm7) [(b5, Cl 39 [.slice sa ts.length sc, .slice la (Ac ts).length lc, .slice none 0 0, .slice none 0 0, .slice none 0 0, .slice none 0 0, .slice none 0 0, vi 0, vi 0, .slice none 0 0, .slice none 0 0, .slice none 0 0, .slice none 0 0])] eS ?_
  simp only [Aj, As, Ak, Au, reduceIte, Nat.reduceEqDiff]
  repeat' first | ((first | refine zo (fun lq aD => ?_) | refine zl ?_ | fail); try refine nz ?_) | refine zq (fun lq tq aD aB => ?_) | (refine ZA (fun tq aB => ?_) (fun tq aB => ?_) <;> try refine nz ?_) | (refine ZB (fun tq aB => ?_) (fun tq aB => ?_) <;> try refine nz ?_) | exact zn | refine zf ?_ | refine ZF ?_ | ((first | with_reducible intro b | refine xsA rfl ?_ | refine xw ?_ | refine lAd (Aa.le_refl _) (lAd (Ax ?_) ?_); focus ((repeat' first | exact lA0 _ | exact lAe _ | exact lAh _ _ | refine lAg _ ?_ | refine lAo ?_ _ | refine lA9 ?_ | refine lAq _ ?_); done) | fail); try refine nz ?_) | exact ⟨⟩ | fail
  all_goals simp only [Bi1]
  all_goals
   refine kk2 _ _ _ _ _ ((lEq (l₁ := [_, _, _])).trans (lCi _ ?_)) ?_
   ·simp only [lAp, lAj]
    exact V7
   exact eE
 rintro ρ3 M3 G3 ⟨fb, db, ob, rfl, hq, rfl⟩
 refine JA ?_ hq (lA0 _)
 obtain ⟨x0, cF⟩ : ∃ x0 : SX, x0 = ⟨List.replicate (Ac ts).length 0, List.replicate (Ac ts).length false, [[], [], []], [], [], 0, fb, db, ob, [.slice none 0 0, .slice none 0 0, .slice none 0 0], .slice none 0 0, none, [], [.slice none 0 0, .slice none 0 0, .slice none 0 0, .slice none 0 0]⟩ := ⟨_, rfl⟩
 have ok0 : x0.Ok (Ac ts) M3 := by
  rw [cF]
  refine ⟨lDe, lDe, rfl, rfl, fun k h1 h2 => ?_, ⟨none, 0, rfl, .inl ⟨rfl, rfl⟩⟩, ⟨rfl, rfl⟩, ⟨rfl, fun k h => absurd h (lBn _)⟩, List.Pairwise.nil, (fun y h => absurd h lB5), _, _, _, _, _, _, _, _, _, _, _, _, rfl⟩
  match k, h1 with
  | 0, _ => exact ⟨none, 0, rfl, lA5 _, .inl ⟨rfl, rfl⟩⟩
  | 1, _ => exact ⟨none, 0, rfl, lA5 _, .inl ⟨rfl, rfl⟩⟩
  | 2, _ => exact ⟨none, 0, rfl, lA5 _, .inl ⟨rfl, rfl⟩⟩
 have aq := P5 dt hp hm (by omega : (Ac ts).length ≤ 16)
 have nn := Aq5 aK
 have hc := Nu ts _ _ aK b5 (Ac ts).length M3 x0 [] (aM.mono bS) ⟨la, lc, rfl, ay⟩ ok0 ⟨lBi _, by rw [cF]; rfl, by rw [cF]; rfl, fun i h => absurd h (lBn _), by rw [cF], by rw [cF], by rw [cF], fun e he => aq.mem_iff.1 he, by
  have h1 := aq.length_eq
  rw [cF]
  change 0 + (Xo (Ac ts)).length < _
  omega⟩
 have dq : x0.G b5 (.slice sa ts.length sc) (.slice la (Ac ts).length lc) = [(b5, Cl 39 [.slice sa ts.length sc, .slice la (Ac ts).length lc, Av fb (Ac ts).length (Ac ts).length, Av db (Ac ts).length (Ac ts).length, Av ob 3 3, .slice none 0 0, .slice none 0 0, vi 0, vi 0, .slice none 0 0, .slice none 0 0, .slice none 0 0, .slice none 0 0]), (fb, Cl 3 (List.replicate (Ac ts).length (vi 0))), (db, Cl 4 (List.replicate (Ac ts).length (vb false))), (ob, Cl 34 [.slice none 0 0, .slice none 0 0, .slice none 0 0])] := by
  rw [JR, cF]
  simp only [lDe, lDz]
  rfl
 rw [dq] at hc
 change Con _ _ #[pv b5 0, vi 0] _ _ _ at hc
 repeat' first | refine st ?_ | refine rg ?_ | exact ⟨⟩ | fail
 refine Con.callS hc ?_
 rintro v4 M4 G4 _ ⟨bq, fr, dn, r, _, _, rfl, ok4, kD⟩
 have hcnt : r.cnt = (Xo (Ac ts)).length := by
  have := kD.cnt
  rw [cF] at this
  change r.cnt = 0 + (Xo (Ac ts)).length at this
  omega
 have oK : r.outs = Im (Ac ts) (Xo (Ac ts)) [] := by
  have := kD.outs
  rw [cF] at this
  exact this
 rw [JV fr dn r b5 (.slice sa ts.length sc) (.slice la (Ac ts).length lc) (na := none) (n := 0) (nc := 0) (by rw [cF])]
 obtain ⟨g1, g2, g3, h1, h2, h3, i1, i2, i3, j1, j2, j3, jF⟩ := ok4.sl
 change r.sm = _ at jF
 rw [jF]
 repeat' first | refine st ?_ | refine rg ?_ | (refine xrA rfl ?_; try refine nx ?_) | (refine xw ?_; refine nx ?_) | exact ⟨⟩ | fail
 refine EV.frz (osg 34 r.oo r.vs) ?_
 have dW : Dv (M4.add (osg 34 r.oo r.vs)) 1 ei (osv r.oo r.outs.length) r.outs := by
  have h := ok4.vs
  refine ⟨_, _, r.vs, rfl, h.len, ?_, fun i a b => (h.at_ i a b).mono (JB _ _)⟩
  exact E5 (T := 34) ok4.oo (fun q hq => hq)
 generalize M4.add (osg 34 r.oo r.vs) = N4 at *
 (refine rt Q73_ok ?_; try with_reducible exact ⟨⟩)
 refine ⟨_, An 4 rfl rfl (by simp), ?_⟩
 rw [← hcnt, ← oK]
 exact ⟨_, _, _, _, _, _, _, _, _, _, _, _, _, _, _, _, _, _, _, _, _, _, _, _, _, _, _, _, _, _, _, rfl, dW⟩
end
section
variable {M : Aa}
theorem Qy (ts : List (List OpV)) (s : Value) (hs : Dv M 5 Bd s ts) (hb : Sized ts) (x : List Int) (v : Value) (hv : Sl M 1 ei v x) (gJ : x.length ≤ 281474976710656) :
  Con Tryz.prog 4 #[.agg #[s], v] M [] fun u _ _ => u = vb true := by
 have aM := hs
 have bY := hv
 obtain ⟨a, c, vs, rfl, hl, aH, hk⟩ := hs
 obtain ⟨xa, xc, rfl, qA⟩ := hv
 refine Con.enter Q54_ok (args := [.agg #[.slice a ts.length c], .slice xa x.length xc]) (by simp [Q54]) fun w0 => ?_
 simp only [Q54, A9]
 repeat' first | refine st ?_ | refine rg ?_ | (with_reducible intro b; try refine nx ?_) | exact ⟨⟩ | fail
 obtain ⟨pb, rfl⟩ : ∃ x, x = b := ⟨_, rfl⟩
 refine De.frzS [(pb, Cl 24 [.slice a ts.length c])] ?_
 generalize hR : M.add _ = N
 have aA : M.le N := hR ▸ JB _ _
 have iS : rd N pb 0 1 [.slice a ts.length c] := hR ▸ Bm (T := 24) (cs := [.slice a ts.length c]) (by simp) rfl (by simp)
 clear hR
 replace aM := Dv.mono aA aM
 replace bY := Sl.mono aA bY
 refine Con.callS (G1 := []) Bh3 ?_
 rintro v1 M1 G1 bv rfl
 have sG := iS.mono bv
 have bz := Dv.mono bv aM
 have tW := Sl.mono bv bY
 (refine nx ?_; try with_reducible exact ⟨⟩)
 repeat' first | refine st ?_ | refine rg ?_ | (refine cX ?_ ?_ <;> intro h <;> try exact Ah h) | (refine xm ?_; try refine nx ?_) | exact ⟨⟩ | fail
 refine Con.callS (G1 := []) (Vw ts _ bz hb x _ tW gJ) ?_
 rintro v2 M2 G2 bS h2
 have i6 := sG.mono bS
 have fu := Dv.mono bS bz
 have oL := Sl.mono bS tW
 have w00 : IntKind.i64.wrap ((0 : Int) + 0) = 0 := by decide
 rcases h2 with ⟨hne, rfl⟩ | ⟨aK, h2⟩
 ·simp only [wpS, wpA, Js, push_cast, lB8, reduceIte, Nat.reduceEqDiff, reduceCtorEq, Nat.reduceAdd, Nat.reduceSub, Nat.reduceMul, Int.reduceToNat, Nat.reduceLeDiff]
  repeat' first | refine st ?_ | refine rg ?_ | (refine xm ?_; try refine nx ?_) | exact ⟨⟩ | fail
  refine Con.callS (G1 := []) (Gv ts _ fu hb x _ oL gJ) ?_
  rintro v3 M3 G3 dB (⟨_, rfl⟩ | ⟨aK, _⟩)
  ·have i7 := i6.mono dB
   have fm := fun G => Ih (M := M3.add G) ts _ ((fu.mono dB).mono (JB _ _)) hb
   simp only [x0V]
   (refine nx ?_; try with_reducible exact ⟨⟩)
   repeat' first | refine st ?_ | (refine EV.reg ?_; (conv => (arg 2; whnf)); (repeat first | refine nx ?_ | simp only [hne, w00, decide_true])) | (refine Aq.call (fm _) ?_; (repeat first | refine nx ?_ | simp only [hne, w00, decide_true])) | with_reducible assumption | (refine JD ?_ (fun hc K' hK => ?_) ?_; rotate_left) | (refine cX ?_ ?_ <;> intro h <;> try exact Ah h) | ((first | with_reducible intro b | refine xm ?_ | refine xsA rfl ?_ | fail); (repeat first | refine nx ?_ | simp only [hne, w00, decide_true])) | (refine xw ?_; (repeat first | refine nx ?_ | simp only [hne, w00, decide_true])) | fail
   (refine rt Q54_ok ?_; try with_reducible exact ⟨⟩)
   try simp
  ·exact absurd aK hne
 have gS := He aK
 have dt := Jk aK
 have eY := Jl ts
 have nX : (Ac ts).length ≤ 16 := by have := Cm aK; omega
 have hall := Ak9 dt gS eY nX
 have nn := Tc gS eY (Tb aK) hall.nodup (fun x hx => (Oe hall).1 hx)
 have lg : ∀ x ∈ Im (Ac ts) (Xo (Ac ts)) [], x.length ≤ 281474976710656 := fun x hx => by
  obtain ⟨r, a, b, c, rfl, hr⟩ := Al4 gS ((Oe hall).1 hx)
  have := gS.len
  rw [lA4]; simp; omega
 have l8 := fun (N : Aa) (sv : Value) (h : Dv N 1 ei sv (Im (Ac ts) (Xo (Ac ts)) [])) (hN : M2.le N) G => Xg (M := N.add G) (Im (Ac ts) (Xo (Ac ts)) []) x sv _ (h.mono (JB _ _)) ((oL.mono hN).mono (JB _ _)) hall.1 (by omega) gJ lg
 rcases h2 with ⟨tX, rfl⟩ | ⟨aI, rfl⟩
 ·simp only [wpS, wpA, Js, push_cast, lB8, reduceIte, Nat.reduceEqDiff, reduceCtorEq, Nat.reduceAdd, Nat.reduceSub, Nat.reduceMul, Int.reduceToNat, Nat.reduceLeDiff]
  repeat' first | refine st ?_ | refine rg ?_ | (refine xm ?_; try refine nx ?_) | exact ⟨⟩ | fail
  refine Con.callS (G1 := []) (Gv ts _ fu hb x _ oL gJ) ?_
  rintro v3 M3 G3 dB (⟨hne, _⟩ | ⟨_, ⟨e, ve, he, lY, rfl, hX⟩ | ⟨aI, _⟩⟩)
  ·exact absurd aK hne
  ·have sH := hX
   obtain ⟨f, d, o, n, rfl, ⟨fa, fc, rfl, _⟩, ⟨da, dc, rfl, _⟩, ⟨oa, oc, ovs, rfl, _, _, _⟩, ⟨na, nc, rfl, _⟩⟩ := hX
   have i7 := i6.mono dB
   have kF := Dv.mono dB fu
   (refine nx ?_; try with_reducible exact ⟨⟩)
   repeat' first | refine st ?_ | refine rg ?_ | ((first | with_reducible intro b | refine xm ?_ | refine xsA rfl ?_ | fail); try refine nx ?_) | (refine xw ?_; refine nx ?_) | exact ⟨⟩ | fail
   obtain ⟨xb, rfl⟩ : ∃ x, x = b := ⟨_, rfl⟩
   generalize decide (IntKind.i64.wrap (IntKind.i64.wrap (IntKind.i64.wrap ((e.frm.length : Int) + e.dn.length) + e.ord.length) + e.fen.length) = 0) = nb
   refine De.frzS [(xb, Cl 45 [.slice fa e.frm.length fc, .slice da e.dn.length dc, .slice oa e.ord.length oc, .slice na e.fen.length nc])] ?_
   generalize hR : M3.add _ = N3
   have oM : M3.le N3 := hR ▸ JB _ _
   have bX : rd N3 xb 0 4 [.slice fa e.frm.length fc, .slice da e.dn.length dc, .slice oa e.ord.length oc, .slice na e.fen.length nc] := hR ▸ Bm (T := 45) (cs := [.slice fa e.frm.length fc, .slice da e.dn.length dc, .slice oa e.ord.length oc, .slice na e.fen.length nc]) (by simp) rfl (by simp)
   clear hR
   replace i7 := i7.mono oM
   replace kF := Dv.mono oM kF
   replace sH := IsX.mono oM sH
   have fm := fun G => Ih (M := N3.add G) ts _ (kF.mono (JB _ _)) hb
   rw [aK] at fm
   refine Aq.call (fm _) ?_
   repeat' first | refine st ?_ | refine rg ?_ | (refine cX ?_ ?_ <;> intro h <;> try exact Ah h) | (refine xm ?_; try refine nx ?_) | exact ⟨⟩ | fail
   refine Con.callS (G1 := []) (V8 ts _ kF aK) ?_
   rintro v4 M4 G4 bq ⟨sv, a1, a2, a3, b1, b2, b3, c1, c2, c3, d1, d2, d3, e1, e2, e3, f1, f2, f3, g1, g2, g3, h1, h2, h3, i1, i2, i3, j1, j2, j3, rfl, dW⟩
   have aJ : x ∈ Im (Ac ts) (Xo (Ac ts)) [] := (Oe hall).2 tX
   have pE := l8 M4 sv dW (Aa.le_trans dB (Aa.le_trans oM bq))
   rw [decide_eq_true aJ] at pE
   obtain ⟨ua, uc, us, rfl, bN, sI, vV⟩ := dW
   have r9 := bX.mono bq
   have lN := i7.mono bq
   have mA := Dv.mono bq kF
   have tY := IsX.mono bq sH
   have hz := Bh8 gS (execsP_ok gS he)
   have dh : Ei (Ac ts) e = 0 := (R9 gS eY).2 he
   have bc := fun G => P9 (M := M4.add G) ts _ (mA.mono (JB _ _)) aK e _ (IsX.mono (JB _ _) tY) hz
   rw [dh] at bc
   (refine nx ?_; try with_reducible exact ⟨⟩)
   repeat' first | (with_reducible intro b; try refine nx ?_) | (refine xw ?_; refine nx ?_) | exact ⟨⟩ | fail
   refine EV.seq ?_
   refine EV.seq ?_
   repeat' first | refine su ?_ | refine rg ?_ | (refine Aq.call (pE _) ?_; try refine nx ?_) | (refine cX ?_ ?_ <;> intro h <;> try exact Ah h) | (refine xsA rfl ?_; try refine nx ?_) | exact ⟨⟩ | fail
   refine EV.seq ?_
   repeat' first | refine rg ?_ | ((first | with_reducible intro b | refine xm ?_ | fail); try refine nx ?_) | (refine xw ?_; refine nx ?_) | exact ⟨⟩ | fail
   obtain ⟨wb, rfl⟩ : ∃ x, x = b := ⟨_, rfl⟩
   refine JG [] ?_
   generalize hR : M4.add _ = N4
   have eI : M4.le N4 := hR ▸ JB _ _
   have ik : rd N4 wb 0 4 [.slice fa e.frm.length fc, .slice da e.dn.length dc, .slice oa e.ord.length oc, .slice na e.fen.length nc] := hR ▸ Bm (T := 37) (cs := [.slice fa e.frm.length fc, .slice da e.dn.length dc, .slice oa e.ord.length oc, .slice na e.fen.length nc]) (by simp) rfl (by simp)
   clear hR
   have vW := lN.mono eI
   have tZ := IsX.mono eI tY
   have t1 := Dv.mono eI mA
   have bc := fun G => P9 (M := N4.add G) ts _ (t1.mono (JB _ _)) aK e _ (IsX.mono (JB _ _) tZ) hz
   rw [dh] at bc
   repeat' first | refine st ?_ | refine rg ?_ | (refine Aq.call (bc _) ?_; try refine nx ?_) | (refine A4.intro (fun hc => ?_) (fun hc => ?_) <;> try simp only [ne_eq, lBd, lB9, not_true_eq_false, not_false_eq_true, reduceCtorEq] at hc <;> try (exfalso; first | exact hc | omega | (simp at hc; done))) | (refine xm ?_; try refine nx ?_) | exact ⟨⟩ | fail
   obtain ⟨bG, _, iY⟩ := (Lb gS eY).1 he
   refine Con.callS (G1 := []) (T2 ts _ t1 aK e _ tZ bG (JL iY.round)) ?_
   rintro v6 M6 G6 fO hr
   rw [lY] at hr
   obtain ⟨ra, rc, rfl, cn⟩ := hr
   have sJ := Aa.le_trans dB (Aa.le_trans oM (Aa.le_trans bq (Aa.le_trans eI fO)))
   have dD := fun G => Lf (M := M6.add G) x x _ _ ⟨ra, rc, rfl, cn.mono (JB _ _)⟩ ((oL.mono sJ).mono (JB _ _)) gJ gJ
   rw [decide_eq_true (rfl : x = x)] at dD
   repeat' first | (refine Aq.call (dD _) ?_; try refine nx ?_) | exact ⟨⟩ | fail
   (refine rt Q54_ok ?_; try with_reducible exact ⟨⟩)
  ·exact absurd tX aI
 ·have aJ : ¬ x ∈ Im (Ac ts) (Xo (Ac ts)) [] := fun h => aI ((Oe hall).1 h)
  rw [decide_eq_false aJ] at l8
  (refine nx ?_; try with_reducible exact ⟨⟩)
  repeat' first | refine st ?_ | refine rg ?_ | (refine xm ?_; try refine nx ?_) | exact ⟨⟩ | fail
  refine Con.callS (G1 := []) (Gv ts _ fu hb x _ oL gJ) ?_
  rintro v3 M3 G3 dB (⟨hne, _⟩ | ⟨_, ⟨e, ve, he, lY, _⟩ | ⟨_, rfl⟩⟩)
  ·exact absurd aK hne
  ·exact absurd ⟨e, he, lY⟩ aI
  ·have i7 := i6.mono dB
   have kF := Dv.mono dB fu
   have fm := fun G => Ih (M := M3.add G) ts _ (kF.mono (JB _ _)) hb
   rw [aK] at fm
   simp only [x0V]
   (refine nx ?_; try with_reducible exact ⟨⟩)
   repeat' first | refine st ?_ | (refine EV.reg ?_; (conv => (arg 2; whnf)); (repeat first | refine nx ?_ | simp only [w00, decide_true])) | (refine Aq.call (fm _) ?_; (repeat first | refine nx ?_ | simp only [w00, decide_true])) | (refine cX ?_ ?_ <;> intro h <;> try exact Ah h) | ((first | with_reducible intro b | refine xm ?_ | refine xsA rfl ?_ | fail); (repeat first | refine nx ?_ | simp only [w00, decide_true])) | (refine xw ?_; (repeat first | refine nx ?_ | simp only [w00, decide_true])) | fail
   refine Con.callS (G1 := []) (V8 ts _ kF aK) ?_
   rintro v4 M4 G4 bq ⟨sv, a1, a2, a3, b1, b2, b3, c1, c2, c3, d1, d2, d3, e1, e2, e3, f1, f2, f3, g1, g2, g3, h1, h2, h3, i1, i2, i3, j1, j2, j3, rfl, dW⟩
   have pE := l8 M4 sv dW (Aa.le_trans dB bq)
   obtain ⟨ua, uc, us, rfl, bN, sI, vV⟩ := dW
   (refine nx ?_; try with_reducible exact ⟨⟩)
   repeat' first | refine st ?_ | refine rg ?_ | (refine Aq.call (pE _) ?_; try refine nx ?_) | with_reducible assumption | (refine JD ?_ (fun hc K' hK => ?_) ?_; rotate_left) | (refine cX ?_ ?_ <;> intro h <;> try exact Ah h) | ((first | with_reducible intro b | refine xsA rfl ?_ | fail); try refine nx ?_) | (refine xw ?_; refine nx ?_) | exact ⟨⟩ | fail
   (refine rt Q54_ok ?_; try with_reducible exact ⟨⟩)
   try simp
end
variable {P : Program} {f : FuncId} {args : Array Value}
def Hz (w : World) : Aa := fun b o => w.heap[b]? = some o
theorem Am0 {w w' : World} {M0 M : Aa} {G : Own} (h : EV.St w [] M0 M G w') : w.keptBut w' (fun _ => False) := by
 refine ⟨h.os, h.output, fun i hi => ?_⟩
 have e := h.frame i hi (by simp)
 rw [e]
 cases w.heap[i]? with
 | none => rfl
 | some o => cases o <;> simp
theorem Con.at {w : World} {Φ : Value → Aa → Own → Prop} (h : Con P f args (Hz w) [] Φ) : Calls P f args w fun e w' => ∃ v, e = .returned v ∧ (∃ M' G', Φ v M' G') ∧ w.keptBut w' (fun _ => False) ∧ w.heap.size ≤ w'.heap.size := by
 intro cs
 obtain ⟨e, w', fr, ⟨v, he, M', G', h1, h2⟩, r⟩ := h.2 w (St.enter (G := []) (fun b o hb => hb) (by simp) (by simp) (by simp)) cs
 exact ⟨e, w', fr, ⟨v, he, ⟨M', G', h2⟩, Am0 h1, h1.size⟩, r⟩
theorem V9 {H : Type} {enc : TypeId × Value → H} {f : Func} {s : ChangeSpec} {apart fresh je : Bool} {W W' : World} {args : Array Value} {v : Value} {ds gs : List (DataW H)} {before pa pv : List MemPlace}
  (hW : DataW.Whole enc P f.params.toList s.vars apart W args.toList ds gs before)
  (aF : ∀ (b : Nat) (sp : Nat → Bool) (hd : Bool), DataW.TrodAll enc P W' b sp hd f.resultTypes.toList (v.resultList f.resultTypes.size) (s.fn H (ds ++ gs)).results [])
  (kG : ∀ sp : Nat → Bool, (∀ p ∈ before, sp p.block = true) → DataW.TrodAll enc P W' 0 sp true f.params.toList args.toList (s.fn H (ds ++ gs)).args pa)
  (oN : ∀ sp : Nat → Bool, (∀ p ∈ before, sp p.block = true) → DataW.TrodVars enc P W' sp s.vars (s.fn H (ds ++ gs)).vars pv)
  (hps : before = pa ++ pv) (hk : W.keptBut W' (fun _ => False)) :
  s.post enc P f apart fresh je false W args v W' := by
 have eV : ∀ p ∈ before, (fun b => decide (b < W.heap.size)) p.block = true := fun p hp => by simpa using hW.lt p hp
 exact ⟨ds, gs, before, [], pa, pv, hW, aF _ _ _, kG _ eV, oN _ eV, World.keptBut_mono (fun p hp => hp.elim) hk, fun h => by cases h⟩
section
variable {H : Type} {enc : TypeId × Value → H} {P : Program} {W : World} {base : Nat} {sp : Nat → Bool} {held : Bool}
theorem Qd {α β : Type} {f : α → Option β} : ∀ {l : List α} {r : List β}, l.mapM f = some r → r.length = l.length ∧ ∀ i (h : i < l.length), ∃ y, f l[i] = some y ∧ r[i]? = some y
 | [], r, h => by simp at h; subst h; simp
 | x :: l, r, h => by
  simp only [lEe, Option.bind_eq_bind, Option.pure_def, lA3] at h
  obtain ⟨y, hy, r', bj, e⟩ := h
  cases e
  obtain ⟨h1, h2⟩ := Qd bj
  refine ⟨by simp [h1], fun i hi => ?_⟩
  cases i with
  | zero => exact ⟨y, hy, rfl⟩
  | succ i => exact h2 i (by simpa using hi)
theorem Zv {a : Addr} {n : Nat} {cs : List Value} (h : W.cells? base a n = some cs) (hn : 0 < n) : ∃ b off, a = ⟨b, off, none⟩ ∧ rd (Hz W) b off n cs := by
 unfold World.cells? at h
 split at h
 ·obtain ⟨h1, h2⟩ := Qd h
  rw [lE4] at h1
  obtain ⟨ab, ao, sa⟩ := a
  have oO : sa = none := by
   obtain ⟨y, hy, _⟩ := h2 0 (by simpa using hn)
   simp only [lDl, World.cell?, Addr.add] at hy
   cases sa with
   | none => rfl
   | some s => exfalso; revert hy; simp; split <;> simp
  subst oO
  refine ⟨ab, ao, rfl, ?_⟩
  have gG : ∀ i, i < n → ∃ y, W.cell? ⟨ab, ao + i, none⟩ = some y ∧ cs[i]? = some y := fun i hi => by
   obtain ⟨y, hy, e⟩ := h2 i (by simpa using hi)
   rw [lDl, Fe] at hy
   exact ⟨y, hy, e⟩
  cases hb : W.heap[ab]? with
  | none => obtain ⟨y, hy, _⟩ := gG 0 hn; simp [World.cell?, hb] at hy
  | some ob =>
   cases ob with
   | cells c T fz =>
    have hc : ∀ i, i < n → c[ao + i]? = cs[i]? := fun i hi => by
     obtain ⟨y, hy, e⟩ := gG i hi
     simp [World.cell?, hb] at hy
     rw [hy, e]
    have aY : ao + n ≤ c.size := by
     obtain ⟨y, hy, e⟩ := gG (n - 1) (by omega)
     have h3 := hc (n - 1) (by omega)
     rw [e] at h3
     have := (lBu.1 h3).1
     omega
    refine ⟨c, T, fz, hb, aY, ?_⟩
    apply List.ext_getElem?
    intro i
    rw [List.getElem?_take]
    by_cases hi : i < n
    ·rw [if_pos hi, List.getElem?_drop, ← hc i hi]; simp
    ·rw [if_neg hi, lD1 (by omega)]
   | _ => obtain ⟨y, hy, _⟩ := gG 0 hn; simp [World.cell?, hb] at hy
 ·cases h
theorem Bi2 {b off n k : Nat} {xs ys : List Value} (h1 : rd (Hz W) b off n xs) (h2 : rd (Hz W) b (off + n) k ys) : rd (Hz W) b off (n + k) (xs ++ ys) := by
 obtain ⟨c, T, fz, e1, l1, rfl⟩ := h1
 obtain ⟨c', T', fz', e2, l2, rfl⟩ := h2
 have : (Obj.cells c T fz) = Obj.cells c' T' fz' := Option.some.inj (e1.symm.trans e2)
 cases this
 refine ⟨c, T, fz, e1, by omega, ?_⟩
 rw [← lEo, List.take_add]
theorem Bi3 {α : Type} {e' : α → List Value} {sz b off : Nat} (ck : ∀ z, (e' z).length = sz) : ∀ (zs : List α), 0 < zs.length → (∀ i (h : i < zs.length), rd (Hz W) b (off + i * sz) sz (e' zs[i])) → rd (Hz W) b off (zs.length * sz) (zs.flatMap e') := by
 intro zs
 induction zs generalizing off with
 | nil => intro h; exact absurd h (by simp)
 | cons z zs ih =>
  intro _ hr
  have h0 := hr 0 (by simp)
  simp only [Nat.zero_mul, lDc, lAt] at h0
  cases hz : zs with
  | nil => simpa [hz] using h0
  | cons z' zs' =>
   have h1 := ih (off := off + sz) (by rw [hz]; simp) (fun i hi => by
    have := hr (i + 1) (by simpa using hi)
    rw [lEh] at this
    rw [show off + sz + i * sz = off + (i * sz + sz) by omega]
    simpa using this)
   have := Bi2 h0 h1
   rw [hz] at this
   simpa [lEh, lE6, Nat.add_left_comm] using this
theorem Qz {e : TypeId} {ds : List (DataW H)} (h : (DataW.weightsAll P e ds).all (· ≤ reachBytes) = true) : ∀ d ∈ ds, (d.weights P e).all (· ≤ reachBytes) = true := by
 induction ds with
 | nil => intro d hd; cases hd
 | cons d ds ih =>
  rw [DataW.weightsAll, lDh, lA6] at h
  intro d' hd
  rcases lBp.1 hd with rfl | hd
  ·exact h.1
  ·exact ih h.2 d' hd
theorem T7 {α : Type} {e' : α → List Value} {Q : α → Prop} {t e : TypeId} {sz m : Nat} {v : Value} {x : DataW H × List MemPlace} (ht : P.underlying t = some (.slice e)) (hc : P.cellsOf e = sz) (hpos : 0 < sz) (eW : 0 < P.bytesOf e) (ck : ∀ z, (e' z).length = sz)
  (h : DataW.trod enc P W base sp held m t [v] = some x) (hw : (x.1.weights P t).all (· ≤ reachBytes) = true)
  (d7 : ∀ m cs y, DataW.trod enc P W base sp held m e cs = some y → (y.1.weights P e).all (· ≤ reachBytes) = true → ∃ z, cs = e' z ∧ Q z) :
  ∃ (zs : List α) (a : Option Addr) (c : Nat), v = .slice a zs.length c ∧ rdS (Hz W) sz a zs.length (zs.flatMap e') ∧ zs.length ≤ reachBytes ∧ ∀ z ∈ zs, Q z := by
 cases m with
 | zero => simp [DataW.trod] at h
 | succ m =>
  unfold DataW.trod at h
  rw [ht] at h
  split at h <;> (try (cases h; done)) <;> (try (rename_i hu _ _; cases hu; done)) <;> (try (rename_i hu _; cases hu; done)) <;> (try (rename_i hu; cases hu; done))
  ·rename_i hv
   simp only [List.cons.injEq, and_true] at hv
   exact ⟨[], none, 0, hv, .inl ⟨by simp, rfl⟩, lA8 _, fun z hz => by cases hz⟩
  ·rename_i e0 a len cap hu hv
   cases hu
   simp only [List.cons.injEq, and_true] at hv
   subst hv
   split at h
   ·rename_i t2
    simp only [lA3] at h
    obtain ⟨elems, he, h⟩ := h
    obtain ⟨rest, _, h⟩ := Option.map_eq_some_iff.1 h
    subst h
    obtain ⟨sK, ln⟩ := Qd he
    rw [lE4] at sK
    rw [hc] at ln
    dsimp only at hw
    unfold DataW.weights at hw
    rw [ht] at hw
    dsimp only at hw
    rw [lFo, lA6, lDh, lA6] at hw
    obtain ⟨aV, dO, _⟩ := hw
    have um : len ≤ reachBytes := by
     have h1 : (elems.length + rest.length) * P.bytesOf e ≤ reachBytes := by simpa using aV
     have h2 : elems.length * 1 ≤ (elems.length + rest.length) * P.bytesOf e := Nat.mul_le_mul (by omega) eW
     omega
    have hz : ∀ i : Fin len, ∃ z, W.cells? base (a.add (i.1 * sz)) sz = some (e' z) ∧ Q z := fun i => by
     obtain ⟨y, hy, eP⟩ := ln i.1 (by simp)
     rw [lDl] at hy
     simp only [lA3] at hy
     obtain ⟨cs, eB, hy⟩ := hy
     have mB : y ∈ elems := lCb eP
     obtain ⟨z, rfl, hq⟩ := d7 _ _ _ hy (Qz dO y.1 (lAk.2 ⟨y, mB, rfl⟩))
     exact ⟨z, eB, hq⟩
    obtain ⟨zs, hzs⟩ : ∃ zs, zs = List.ofFn fun i : Fin len => Classical.choose (hz i) := ⟨_, rfl⟩
    have aG : zs.length = len := by rw [hzs]; simp
    have hall : ∀ i (h : i < zs.length), W.cells? base (a.add (i * sz)) sz = some (e' zs[i]) ∧ Q zs[i] := fun i hi => by
     subst hzs
     simp only [List.getElem_ofFn]
     exact Classical.choose_spec (hz ⟨i, by simpa using hi⟩)
    refine ⟨zs, some a, cap, by rw [aG], ?_, by omega, fun z vX => ?_⟩
    ·by_cases h0 : zs.length = 0
     ·refine .inl ⟨by rw [h0]; simp, ?_⟩
      rw [lC6.1 h0]; rfl
     ·obtain ⟨b, off, gb, _⟩ := Zv (hall 0 (by omega)).1 hpos
      rw [Nat.zero_mul] at gb
      have oP : a = ⟨b, off, none⟩ := by rw [← gb]; simp [Addr.add]
      refine .inr ⟨b, off, by rw [oP], Bi3 ck zs (by omega) fun i hi => ?_⟩
      obtain ⟨b', off', oQ, hr⟩ := Zv (hall i hi).1 hpos
      rw [oP, Fe] at oQ
      cases oQ
      exact hr
    ·obtain ⟨i, hi, rfl⟩ := List.mem_iff_getElem.1 vX
     exact (hall i hi).2
   ·cases h
theorem Av3 {t : TypeId} {m : Nat} {cs : List Value} {x : DataW H × List MemPlace} (ht : P.underlying t = some (.int .i64)) (h : DataW.trod enc P W base sp held m t cs = some x) : ∃ n, cs = [vi n] := by
 cases m with
 | zero => simp [DataW.trod] at h
 | succ m =>
  unfold DataW.trod at h
  rw [ht] at h
  split at h <;> (try (cases h; done)) <;> (try (rename_i hu _ _; cases hu; done)) <;> (try (rename_i hu _; cases hu; done)) <;> (try (rename_i hu; cases hu; done))
  rename_i k1 k2 n1 hu
  cases hu
  split at h
  ·rename_i hk
   obtain ⟨rfl, _⟩ := hk
   exact ⟨n1, rfl⟩
  ·cases h
theorem X5 {W' : World} (hf : ∀ b, b < W.heap.size → W'.heap[b]? = W.heap[b]?) {p : MemPlace} (hp : p.block < W.heap.size) : W.sameAt W' p := by
 cases p with
 | cell b off => simp only [World.sameAt, World.cell?, hf b hp]
 | map b => exact hf b hp
theorem Nv {W' : World} (K : Kids P (· < P.types.size)) (aO : ∀ {t e : TypeId}, t < P.types.size → P.underlying t = some (.slice e) → 0 < P.cellsOf e) (hf : ∀ b, b < W.heap.size → W'.heap[b]? = W.heap[b]?) {sp' : Nat → Bool} :
  ∀ {ts : List TypeId} {vs : List Value} {ds : List (DataW H)} {ps : List MemPlace}, (∀ t ∈ ts, t < P.types.size) → DataW.TrodAll enc P W 0 (fun _ => true) true ts vs ds ps → (∀ p ∈ ps, p.block < W.heap.size) → (∀ p ∈ ps, sp' p.block = true) → DataW.TrodAll enc P W' 0 sp' true ts vs ds ps
 | [], [], [], ps, _, h, _, _ => h
 | t :: ts, v :: vs, d :: ds, ps, jN, h, hb, hs => by
  obtain ⟨p, q, ⟨m, h1⟩, h2, rfl⟩ := h
  refine ⟨p, q, ⟨m, DataW.trod_stays K aO (fun h => by cases h) (jN t (by simp)) h1 (fun r hr => X5 hf (hb r (by simp [hr]))) (fun r hr => hs r (by simp [hr]))⟩, ?_, rfl⟩
  exact Nv K aO hf (fun t ht => jN t (by simp [ht])) h2 (fun r hr => hb r (by simp [hr])) (fun r hr => hs r (by simp [hr]))
theorem Con.at2 {f : FuncId} {args : Array Value} {Φ : Value → Aa → Own → Prop} (h : Con P f args (Hz W) [] Φ) : Calls P f args W fun e W' => ∃ v, e = .returned v ∧ (∃ M' G', Φ v M' G') ∧ W.keptBut W' (fun _ => False) ∧ ∀ b, b < W.heap.size → W'.heap[b]? = W.heap[b]? := by
 intro cs
 obtain ⟨e, w', fr, ⟨v, he, M', G', h1, h2⟩, r⟩ := h.2 W (St.enter (G := []) (fun b o hb => hb) (by simp) (by simp) (by simp)) cs
 exact ⟨e, w', fr, ⟨v, he, ⟨M', G', h2⟩, Am0 h1, fun b hb => h1.frame b hb (by simp)⟩, r⟩
end
open Go.Proofs Go.ChangeShapes
theorem Qe {α β : Type} (f : α → β) : ∀ zs : List α, zs.flatMap (fun z => [f z]) = zs.map f
 | [] => rfl
 | z :: zs => by rw [lC2, Qe f zs]; rfl
section
variable {H : Type} {enc : TypeId × Value → H} {W : World} {sp : Nat → Bool} {held : Bool}
theorem Wa : (Tryz.prog).cellsOf 3 = 1 := by kernel_rfl
theorem Zz : (Tryz.prog).cellsOf 83 = 5 := by kernel_rfl
theorem Am1 : (Tryz.prog).cellsOf 70 = 1 := by kernel_rfl
theorem Am2 : (Tryz.prog).cellsOf 22 = 1 := by kernel_rfl
theorem Am3 : (Tryz.prog).cellsOf 24 = 1 := by kernel_rfl
theorem Ar1 : 0 < (Tryz.prog).bytesOf 83 := of_decide_eq_true (by kernel_rfl)
theorem Am4 : 0 < (Tryz.prog).bytesOf 70 := of_decide_eq_true (by kernel_rfl)
theorem Am5 : 0 < (Tryz.prog).bytesOf 3 := of_decide_eq_true (by kernel_rfl)
set_option maxRecDepth 100000 in
theorem Fr5 {m : Nat} {cs : List Value} {y : DataW H × List MemPlace} (h : DataW.trod enc Tryz.prog W 0 sp held m 83 cs = some y) : ∃ o : OpV, cs = Bd o ∧ True := by
 obtain ⟨xs, n, _, _, hl, gJ, hf⟩ := DataW.trod_struct Tryz.underlying83 h
 rw [Zz] at hl
 have vY : xs.length = 5 := gJ
 have key : ∀ i : Nat, ∀ f : Field, i < 5 → (show Array Field from _)[i]? = some f → f.type = 3 → ∃ k, ((cs.drop f.offset).take 1) = [vi k] := fun i f hi e ht => by
  have h1 := hf i f e
  rw [ht, Wa] at h1
  obtain ⟨y, hy⟩ : ∃ y, xs[i]? = some y := ⟨xs[i], lA2 (by omega)⟩
  rw [hy] at h1
  exact Av3 Tryz.underlying3 h1
 obtain ⟨k0, e0⟩ := key 0 _ (by decide) rfl rfl
 obtain ⟨k1, e1⟩ := key 1 _ (by decide) rfl rfl
 obtain ⟨k2, e2⟩ := key 2 _ (by decide) rfl rfl
 obtain ⟨k3, e3⟩ := key 3 _ (by decide) rfl rfl
 obtain ⟨k4, e4⟩ := key 4 _ (by decide) rfl rfl
 match cs, hl with
 | [c0, c1, c2, c3, c4], _ =>
  refine ⟨⟨k0, k1, k2, k3, k4⟩, ?_, trivial⟩
  simp at e0 e1 e2 e3 e4
  simp [e0, e1, e2, e3, e4]
set_option maxRecDepth 100000 in
theorem Di7 {m : Nat} {cs : List Value} {y : DataW H × List MemPlace} (hl : cs.length = 1) (h : DataW.trod enc Tryz.prog W 0 sp held m 70 cs = some y) (hw : (y.1.weights Tryz.prog 70).all (· ≤ reachBytes) = true) :
  ∃ z : Value × List OpV, cs = [z.1] ∧ Sl (Hz W) 5 Bd z.1 z.2 ∧ z.2.length ≤ reachBytes := by
 match cs, hl with
 | [v], _ =>
  obtain ⟨zs, a, c, rfl, h1, h2, _⟩ := T7 (e' := Bd) (Q := fun _ => True) Tryz.underlying70 Zz (by decide) Ar1 (fun _ => rfl) h hw (fun m cs y hy _ => Fr5 hy)
  exact ⟨(_, zs), rfl, ⟨a, c, rfl, h1⟩, h2⟩
set_option maxRecDepth 100000 in
theorem Ra {t e : TypeId} {m : Nat} {cs : List Value} {y : DataW H × List MemPlace} (ht : (Tryz.prog).underlying t = some (.slice e)) (h : DataW.trod enc Tryz.prog W 0 sp held m t cs = some y) : cs.length = 1 := by
 cases m with
 | zero => simp [DataW.trod] at h
 | succ m =>
  unfold DataW.trod at h
  rw [ht] at h
  split at h <;> (try (cases h; done)) <;> (try (rename_i hu _ _; cases hu; done)) <;> (try (rename_i hu _; cases hu; done)) <;> (try (rename_i hu; cases hu; done)) <;> rfl
set_option maxRecDepth 100000 in
theorem Am6 {m : Nat} {cs : List Value} {y : DataW H × List MemPlace} (h : DataW.trod enc Tryz.prog W 0 sp held m 24 cs = some y) (hw : (y.1.weights Tryz.prog 24).all (· ≤ reachBytes) = true) :
  ∃ s ts, cs = [s] ∧ Dv (Hz W) 5 Bd s ts ∧ ts.length ≤ reachBytes ∧ ∀ t ∈ ts, t.length ≤ reachBytes := by
 obtain ⟨y0, n, rfl, hl, h0⟩ := ChangeShapes.trod_struct1 Tryz.underlying24 h
 rw [Am3] at hl
 match cs, hl with
 | [s], _ =>
  unfold DataW.weights at hw
  rw [Tryz.underlying24] at hw
  simp only [lDv, lFk, DataW.weightsEach, lAa] at hw
  have h1 : DataW.trod enc Tryz.prog W 0 sp held n 22 [s] = some y0 := by
   have := h0
   rw [show (Tryz.prog).cellsOf (Field.type _) = 1 from Am2] at this
   exact this
  obtain ⟨zs, a, c, rfl, h2, h3, h4⟩ := T7 (e' := fun z : Value × List OpV => [z.1]) (Q := fun z => Sl (Hz W) 5 Bd z.1 z.2 ∧ z.2.length ≤ reachBytes) Tryz.underlying22 Am1 (by decide) Am4 (fun _ => rfl) h1 hw (fun m cs y hy pL => Di7 (Ra Tryz.underlying70 hy) hy pL)
  refine ⟨_, zs.map (·.2), rfl, ⟨a, c, zs.map (·.1), by simp, by simp, ?_, ?_⟩, by simpa using h3, ?_⟩
  ·have e : zs.flatMap (fun z : Value × List OpV => [z.1]) = zs.map (·.1) := Qe _ zs
   rw [e] at h2
   rw [lA1]
   exact h2
  ·intro i hi aC
   simp only [lDn]
   exact (h4 _ (lAm _)).1
  ·intro t ht
   obtain ⟨z, hz, rfl⟩ := lAk.1 ht
   exact (h4 z hz).2
theorem Bi4 {m : Nat} {v : Value} {x : DataW H × List MemPlace} (h : DataW.trod enc Tryz.prog W 0 sp held m 34 [v] = some x) (hw : (x.1.weights Tryz.prog 34).all (· ≤ reachBytes) = true) :
  ∃ zs : List Int, Sl (Hz W) 1 ei v zs ∧ zs.length ≤ reachBytes := by
 obtain ⟨zs, a, c, rfl, h1, h2, _⟩ := T7 (e' := ei) (Q := fun _ => True) Tryz.underlying34 Wa (by decide) Am5 (fun _ => rfl) h hw (fun m cs y hy _ => by obtain ⟨n, rfl⟩ := Av3 Tryz.underlying3 hy; exact ⟨n, rfl, trivial⟩)
 exact ⟨zs, ⟨a, c, rfl, h1⟩, h2⟩
end
set_option maxRecDepth 100000 in
theorem Fx8 : Kids Tryz.prog (· < (Tryz.prog).types.size) := kids_rows (by kernel_rfl) (by kernel_rfl)
set_option maxRecDepth 100000 in
theorem Ar2 : ((List.range (Tryz.prog).types.size).all fun t => match (Tryz.prog).underlying t with | some (.slice e) => decide (0 < (Tryz.prog).cellsOf e) | _ => true) = true := by kernel_rfl
theorem Am7 {t e : TypeId} (ht : t < (Tryz.prog).types.size) (h : (Tryz.prog).underlying t = some (.slice e)) : 0 < (Tryz.prog).cellsOf e := by
 have := lAz.1 Ar2 t (lAl.2 ht)
 rw [h] at this
 simpa using this
end Go.EV
