/- Part of the proof of a statement about executions of litmus programs: walks and laws. -/
import Derived.Test.YtmgnpoleilcjoaaGreatVPae
import Derived.Test.YtmgnpoleilcjoaaGreatVPad
import Derived.Test.YtmgnpoleilcjoaaGreatVPab
import Derived.WalkKit
import Derived.ProofKit
import Derived.OpenShut
import Derived.ChangeStays
import Derived.ChangeBears
import Derived.HandedShaped
import Derived.Test.YtmgnpoleilcjoaaGreatVPac
import Derived.Test.YtmgnpoleilcjoaaGreatRows
set_option maxHeartbeats 8000000
set_option maxRecDepth 8000
set_option linter.unusedSimpArgs false
set_option linter.unusedVariables false
set_option linter.unusedSectionVars false
namespace Go.EV
open Go.Proofs
theorem XOk.ordIn {p : List Ev} {e : Exec} (hx : XOk p e) : ∀ k, k < 3 → ∀ i, i < (e.ord[k]?.getD []).length → 0 ≤ Ae (e.ord[k]?.getD []) i ∧ Ae (e.ord[k]?.getD []) i < p.length := by
 intro k hk i hi
 have hm : e.ord[k]?.getD [] ∈ e.ord := by
  have : k < e.ord.length := by rw [hx.ol]; exact hk
  rw [lA2 this, lAr]; exact lAm _
 exact (hx.oin _ hm).1.num hi
theorem XOk.ordSz {p : List Ev} {e : Exec} (hx : XOk p e) (hl : p.length ≤ 16) : ∀ k, k < 3 → (e.ord[k]?.getD []).length ≤ 16 := fun k hk => by
 have ak : k < e.ord.length := by rw [hx.ol]; exact hk
 rw [lA2 ak, lAr]
 have := (hx.oin _ (lAm ak)).2
 omega
theorem XOk.fenIn {p : List Ev} {e : Exec} (hx : XOk p e) (hl : p.length ≤ 16) : ∀ k, k < e.fen.length → 0 ≤ Ae e.fen k ∧ Ae e.fen k < 16 := fun k hk => by
 have := (hx.fin.1).num hk; omega
section
variable {M : Aa}
theorem Ws (ts : List (List OpV)) (ps lv : Value) (hs : Ee M 5 Bb ps ts) (aM : A2 ts = 0) (bB : Sl M 6 Hf lv (Ad ts)) (mb : Nat) (x : SX) (ok : x.Ok (Ad ts) M) (hx : XOk (Ad ts) x.exec) (hin : ∀ e ∈ F6 (Ad ts) x.exec, e ∈ Ca (Ad ts)) (hcnt : x.cnt < 2 ^ 62) :
  Con Tryz.prog 171 #[pv mb 0] M (x.G mb ps lv) (x.Post (Ad ts) (F6 (Ad ts) x.exec) mb ps lv M) := by
 have aK := hs
 have bK := bB
 have ok0 := ok
 have cZ := Ck aM
 have hp := Ho aM
 have hm := Ks ts
 have bj : ∀ i, i < (Ad ts).length → Af x.exec i < (Ad ts).length := fun i hi => (hx.fr i hi).1
 obtain ⟨a, c, cH, rfl, uM, aH, hk⟩ := hs
 obtain ⟨la, lc, rfl, aq⟩ := bB
 obtain ⟨na, nc, hfv, ma⟩ := ok.fen
 obtain ⟨a1, a2, a3, b1, b2, b3, c1, c2, c3, d1, d2, d3, i6⟩ := ok.sl
 have qn : x.G mb (.slice a ts.length c) (.slice la (Ad ts).length lc) = (mb, Cl 39 [.slice a ts.length c, .slice la (Ad ts).length lc, Av x.fb x.frm.length x.frm.length, Av x.db x.dn.length x.dn.length, Av x.ob x.ord.length x.ord.length, .slice na x.fen.length nc, osv x.oo x.outs.length, vi x.cnt, vi 0, .slice a1 a2 a3, .slice b1 b2 b3, .slice c1 c2 c3, .slice d1 d2 d3]) :: (x.fb, Cl 3 (x.frm.map vi)) :: (x.db, Cl 4 (x.dn.map vb)) :: (x.ob, Cl 34 x.ords) :: osg 34 x.oo x.vs := by
  simp only [SX.G, SX.box, SX.xV, i6, hfv, lAl, lAg]
 have hX := ok.isX (mb := mb) (pv := .slice a ts.length c) (lv := .slice la (Ad ts).length lc)
 have lS : (.agg x.xV.toArray : Value) = .agg #[Av x.fb x.frm.length x.frm.length, Av x.db x.dn.length x.dn.length, Av x.ob x.ord.length x.ord.length, .slice na x.fen.length nc] := by
  simp only [SX.xV, hfv]
 rw [lS] at hX
 have ah := fun N => bK.mono (JB M N)
 refine Con.enter Q78_ok (args := [pv mb 0]) (by simp [Q78]) fun w0 => ?_
 simp only [Q78, A9]
 generalize gY : Ad ts = p at *
 have bA := ok.fl
 have bF := ok.dl
 refine EV.seq ?_
 refine EV.seq ?_
 have af : p.length ≤ 16 := by omega
 have cB := hx.fenIn af
 have fR : x.exec.fen.length ≤ 16 := by have := hx.fin.2; omega
 have hQ := hx.ordIn
 have aQ := hx.ordSz af
 rw [qn] at hX ⊢
 have gA := fun G => (show As _ _ _ (M.add G) _ from Hv p _ (ah G) af)
 have jH := (show As _ _ _ _ _ from Lu p _ (ah _) af x.exec _ hX ok.fl bj)
 have jE := (show As _ _ _ _ _ from Pp x.exec _ hX fR cB)
 have iQ := thrR_ok (p := p) af
 have fL := fromR_ok (p := p) (e := x.exec) af
 have jg := turnsR_ok (fen := x.exec.fen) cB
 have jF := fun G => (show As _ _ _ (M.add G) _ from Fq _ _ fL jg)
 have jG := fun G => (show As _ _ _ (M.add G) _ from Fq _ _ iQ (unionR_ok fL jg))
 have gJ := unionR_ok iQ (unionR_ok fL jg)
 have eI := fun G => (show As _ _ _ (M.add G) _ from F5 _ gJ)
 obtain ⟨cb, iU⟩ : ∃ cb, cb = Bi (Am5 p x.exec) := ⟨_, rfl⟩
 have jI : ∀ G, As Tryz.prog 46 #[E0 (B8 (C3 (Uh p) (C3 (Hr p x.exec) (F0 x.exec.fen))))] (M.add G) (vb cb) := fun G => by
  rw [iU]; exact Iq _ gJ.close
 have ez := (show As _ _ _ _ _ from Mv p _ (ah _) af hp.ord x.exec _ hX ok.fl ok.dl bj fR cB)
 have jJ := (show As _ _ _ _ _ from R0 p _ (ah _) af x.exec _ hX ok.fl bj ok.ol hQ aQ)
 have j8 : RelOk 16 (Ns p x.exec) := (unionR_ok (thrR_ok af) (unionR_ok (meetsR_ok af) (turnsR_ok cB))).close
 have iK : RelOk 16 (Gl p x.exec) := (seenR0_ok af hQ).close
 obtain ⟨bb, gF⟩ : ∃ bb, bb = Gz (Ns p x.exec) (Gl p x.exec) := ⟨_, rfl⟩
 have jK : ∀ G, As Tryz.prog 52 #[E0 (Ns p x.exec), E0 (Gl p x.exec)] (M.add G) (vb bb) := fun G => by
  rw [gF]; exact Mu _ _ j8 iK
 refine EV.any (t := Cu3) _ (lA0 _) ?_
 simp only [An, Aq, Al, Au, reduceIte, Nat.reduceEqDiff]
 repeat' first | ((first | refine zo (fun lq aD => ?_) | refine zl ?_ | fail); try refine nz ?_) | refine zq (fun lq tq aD aA => ?_) | ((first | with_reducible refine As.call (gA _) ?_ | with_reducible refine As.call jH ?_ | with_reducible refine As.call jE ?_ | with_reducible refine As.call (jF _) ?_ | with_reducible refine As.call (jG _) ?_ | with_reducible refine As.call (eI _) ?_ | with_reducible refine As.call (jI _) ?_ | with_reducible refine As.call ez ?_ | with_reducible refine As.call jJ ?_ | with_reducible refine As.call (jK _) ?_ | fail); try refine nz ?_) | (refine ZA (fun tq aA => ?_) (fun tq aA => ?_) <;> try refine nz ?_) | (refine ZB (fun tq aA => ?_) (fun tq aA => ?_) <;> try refine nz ?_) | exact zn | refine ZC (fun tq aA => ?_) | ((refine ZD (fun tq aA h => ?_) (fun tq aA h => ?_)) <;> try (exfalso; simp at h; done)) | ((first | refine xrA rfl ?_ | refine xsA rfl ?_ | refine lAd (Aa.le_refl _) (lAd (Ay ?_) ?_); focus ((repeat' first | exact lA0 _ | exact lAh _ | exact lAj _ _ | refine lAf _ ?_ | refine lAo ?_ _ | refine lAb ?_ | refine lAp _ ?_); done) | fail); try refine nz ?_) | exact ⟨⟩ | fail
 all_goals simp only [h, reduceIte, lC5, onv]
 all_goals
  repeat' first | (refine zl ?_; try refine nz ?_) | refine zf ?_ | exact ⟨⟩ | fail
 ·repeat' first | (refine cX ?_ ?_ <;> intro h <;> try exact Ai h) | fail
  (refine rt Q78_ok ?_; try with_reducible exact ⟨⟩)
  refine ⟨Aa.le_refl _, x.sf, qn.symm, ok, ?_⟩
  rw [F6, if_pos (.inl (by rw [← iU]; first | exact h | simpa using h | assumption))]; exact SX.Found.refl x p
 have mN : Bi (Am5 p x.exec) = false := by rw [← iU]; simpa using h
 clear h
 repeat' first | refine su ?_ | (refine cX ?_ ?_ <;> intro h <;> try exact Ai h) | fail
 ·(refine rt Q78_ok ?_; try with_reducible exact ⟨⟩)
  refine ⟨Aa.le_refl _, x.sf, qn.symm, ok, ?_⟩
  rw [F6, if_pos (.inr (by rw [← gF]; first | exact h | simpa using h | assumption))]; exact SX.Found.refl x p
 have uN : Gz (Ns p x.exec) (Gl p x.exec) = false := by rw [← gF]; simpa using h
 clear h
 have iy : F6 p x.exec = [x.exec] := by rw [F6, if_neg (by rw [mN, uN]; simp)]
 have cE : x.exec ∈ Ca p := hin _ (by rw [iy]; exact lCk _)
 clear gA jH jE jF jG eI jI ez jJ jK iQ fL jg gJ j8 iK iU gF
 obtain ⟨cP, _, nE⟩ := (Np hp hm).1 cE
 have al : Tz p x.exec := JQ nE.round
 subst gY
 have aa := Td ts _ (aK.mono (JB _ _)) aM x.exec _ hX cP al
 have aG : ∀ y, T9 (Ad ts) y → y.length < 1000000 := fun y hy => by
  obtain ⟨e, he, rfl⟩ := hy
  have h1 := ((Np hp hm).1 he).1.ol
  have h2 := Cf (Ad ts) (Aw (Ad ts) e.frm) (Ad ts).length
  rw [Ar, lA4, lA1]
  omega
 have nF : T9 (Ad ts) (Ar (Ad ts) x.exec) := ⟨_, cE, rfl⟩
 have nG := Ss hp hm (Sr aM) (ok.asc.imp fun {a b} h e => by subst e; rw [Cu] at h; omega) ok.out
 refine EV.seq ?_
 refine EV.any (t := Cu4) [(mb, Cl 39 [.slice a ts.length c, .slice la (Ad ts).length lc, Av x.fb x.frm.length x.frm.length, Av x.db x.dn.length x.dn.length, Av x.ob x.ord.length x.ord.length, .slice na x.fen.length nc, osv x.oo x.outs.length, vi x.cnt, vi 0, .slice a1 a2 a3, .slice b1 b2 b3, .slice c1 c2 c3, .slice d1 d2 d3])] (by simp) ?_
 simp only [An, Aq, Al, Au, reduceIte, Nat.reduceEqDiff]
 repeat' first | ((first | refine zo (fun lq aD => ?_) | refine zl ?_ | fail); try refine nz ?_) | refine zq (fun lq tq aD aA => ?_) | ((with_reducible refine JK aa ?_) ;  rintro v1 M1 G1 ⟨ov, aL, rfl, rfl⟩; try refine nz ?_) | (refine ZA (fun tq aA => ?_) (fun tq aA => ?_) <;> try refine nz ?_) | exact zn | ((first | refine xrA rfl ?_ | refine xsA rfl ?_ | refine lAd (Aa.le_refl _) (lAd (Ay ?_) ?_); focus ((repeat' first | exact lA0 _ | exact lAh _ | exact lAj _ _ | refine lAf _ ?_ | refine lAo ?_ _ | refine lAb ?_ | refine lAp _ ?_); done) | fail); try refine nz ?_) | exact ⟨⟩ | fail
 refine Dc.frzS (osg 3 ov ((Ar (Ad ts) x.exec).map vi)) ?_
 generalize hN : M.add (osg 3 ov _) = N
 have aB : M.le N := hN ▸ JB _ _
 have bz : Sl N 1 ei (osv ov (Ar (Ad ts) x.exec).length) (Ar (Ad ts) x.exec) := hN ▸ Ln (T := 3) aL (fun q hq => hq)
 refine Con.callS (G1 := osg 34 x.oo x.vs) (An2 x.outs _ x.oo x.vs _ ok.oo (ok.vs.mono aB) bz ok.asc (by omega) (aG _ nF) (fun y hy => aG y (ok.out y hy))) ?_
 rintro v2 M2 G2 bZ ⟨_, o2, vs2, an, aW, rfl, rfl⟩
 have jL := Aa.le_trans aB bZ
 refine ⟨jL, fun q hq => by (rw [lAk] at hq; rw [hq]; simp), ?_⟩
 repeat' first | ((first | refine zo (fun lq aD => ?_) | refine zl ?_ | fail); try refine nz ?_) | refine zq (fun lq tq aD aA => ?_) | (refine ZB (fun tq aA => ?_) (fun tq aA => ?_) <;> try refine nz ?_) | exact zn | refine zf ?_ | (refine xw ?_; try refine nz ?_) | exact ⟨⟩ | fail
 obtain ⟨x1, bP⟩ : ∃ x1 : SX, x1 = { x with outs := Lo (Ar (Ad ts) x.exec) x.outs, oo := o2, vs := vs2 } := ⟨_, rfl⟩
 have ok1 : x1.Ok (Ad ts) M2 := by
  subst bP
  have fU : K5 (Ad ts) [x.exec] x.outs = Lo (Ar (Ad ts) x.exec) x.outs := rfl
  refine ⟨ok.fl, ok.dl, ok.ol, ok.ords, fun i a b => (ok.ord i a b).mono jL, ok.fen.mono jL, an, aW, ?_, fun y hy => ?_, ok.sl⟩
  ·dsimp only; rw [← fU]; exact S6 _ ok.asc
  ·dsimp only at hy
   rw [← fU] at hy
   rcases (S7 _).1 hy with h | h
   ·exact ok.out y h
   ·rw [lDu, lFj, lAk] at h
    rw [h]; exact nF
 refine JI (G' := (mb, Cl 39 [.slice a ts.length c, .slice la (Ad ts).length lc, Av x.fb x.frm.length x.frm.length, Av x.db x.dn.length x.dn.length, Av x.ob x.ord.length x.ord.length, .slice na x.fen.length nc, osv o2 (Lo (Ar (Ad ts) x.exec) x.outs).length, vi x.cnt, vi 0, .slice a1 a2 a3, .slice b1 b2 b3, .slice c1 c2 c3, .slice d1 d2 d3]) :: (x.fb, Cl 3 (x.frm.map vi)) :: (x.db, Cl 4 (x.dn.map vb)) :: (x.ob, Cl 34 x.ords) :: osg 34 o2 vs2) ?_
 refine EV.seq ?_
 refine JH (fun ρ' M' G' => M' = M2 ∧ get ρ' 0 = some (pv mb 0) ∧ ∃ e1 e2 e3 f1 f2 f3 g1 g2 g3 h1 h2 h3, G' = (mb, Cl 39 [.slice a ts.length c, .slice la (Ad ts).length lc, Av x.fb x.frm.length x.frm.length, Av x.db x.dn.length x.dn.length, Av x.ob x.ord.length x.ord.length, .slice na x.fen.length nc, osv o2 (Lo (Ar (Ad ts) x.exec) x.outs).length, vi x.cnt, vi 0, .slice e1 e2 e3, .slice f1 f2 f3, .slice g1 g2 g3, .slice h1 h2 h3]) :: (x.fb, Cl 3 (x.frm.map vi)) :: (x.db, Cl 4 (x.dn.map vb)) :: (x.ob, Cl 34 x.ords) :: osg 34 o2 vs2) ?_ ?_
 ·intro k' key
  have sP := ok1.isX (mb := mb) (pv := .slice a ts.length c) (lv := .slice la (Ad ts).length lc)
  have qp : x1.G mb (.slice a ts.length c) (.slice la (Ad ts).length lc) = (mb, Cl 39 [.slice a ts.length c, .slice la (Ad ts).length lc, Av x.fb x.frm.length x.frm.length, Av x.db x.dn.length x.dn.length, Av x.ob x.ord.length x.ord.length, .slice na x.fen.length nc, osv o2 (Lo (Ar (Ad ts) x.exec) x.outs).length, vi x.cnt, vi 0, .slice a1 a2 a3, .slice b1 b2 b3, .slice c1 c2 c3, .slice d1 d2 d3]) :: (x.fb, Cl 3 (x.frm.map vi)) :: (x.db, Cl 4 (x.dn.map vb)) :: (x.ob, Cl 34 x.ords) :: osg 34 o2 vs2 := by
   rw [bP]
   simp only [SX.G, SX.box, SX.xV, i6, hfv, lAl, lAg]
  have qq : (.agg x1.xV.toArray : Value) = .agg #[Av x.fb x.frm.length x.frm.length, Av x.db x.dn.length x.dn.length, Av x.ob x.ord.length x.ord.length, .slice na x.fen.length nc] := by
   rw [bP]; simp only [SX.xV, hfv]
  rw [qp, qq, show x1.exec = x.exec by rw [bP]; rfl] at sP
  have qr := (U0 x.exec _ sP (by show x.frm.length < _; omega) (by show x.dn.length < _; omega) (by show x.ord.length < _; rw [ok.ol]; omega) (by omega) (fun l hl => by have := (hx.oin l hl).2; omega)).mono fun v M' G' hv => (show ∃ e1 e2 e3 f1 f2 f3 g1 g2 g3 h1 h2 h3, v = .agg #[.slice e1 e2 e3, .slice f1 f2 f3, .slice g1 g2 g3, .slice h1 h2 h3] from by
   obtain ⟨f, d, o, n, rfl, ⟨_, _, rfl, _⟩, ⟨_, _, rfl, _⟩, ⟨_, _, _, rfl, _⟩, ⟨_, _, rfl, _⟩⟩ := hv
   exact ⟨_, _, _, _, _, _, _, _, _, _, _, _, rfl⟩)
  repeat' first | refine st ?_ | ((first | refine EV.reg ?_ | refine EV.any _ (lA0 _) ?_ | fail); (conv => (arg 2; whnf)); refine nx ?_) | (refine cX ?_ ?_ <;> intro h <;> try exact Ai h) | ((first | refine xrA rfl ?_ | refine xiA rfl ?_ | fail); try refine nx ?_) | exact ⟨⟩ | fail
  ·refine JK qr ?_
   rintro v3 M3 G3 ⟨e1, e2, e3, f1, f2, f3, g1, g2, g3, h1, h2, h3, rfl⟩
   simp only [lAl]
   repeat' first | (refine xw ?_; refine nx ?_) | exact ⟨⟩ | fail
   refine JA (ρ' := [(0, pv mb 0)]) (key _ _ _ ⟨rfl, rfl, e1, e2, e3, f1, f2, f3, g1, g2, g3, h1, h2, h3, rfl⟩) ?_ ?_
   ·exact eE
   ·(repeat' first | exact lA0 _ | exact lAh _ | exact lAj _ _ | refine lAf _ ?_ | refine lAo ?_ _ | refine lAb ?_ | refine lAp _ ?_)
  ·exact key _ _ _ ⟨rfl, rfl, a1, a2, a3, b1, b2, b3, c1, c2, c3, d1, d2, d3, rfl⟩
 rintro ρ2 M3 G3 ⟨rfl, hρ, e1, e2, e3, f1, f2, f3, g1, g2, g3, h1, h2, h3, rfl⟩
 refine JA (ρ' := [(0, pv mb 0)]) ?_ (by simpa using hρ) (lA0 _)
 repeat' first | refine rg ?_ | (refine xiA rfl ?_; try refine nx ?_) | (refine xw ?_; refine nx ?_) | exact ⟨⟩ | fail
 refine EV.done Q78_ok ?_
 (repeat first | refine nx ?_ | simp only [Q78])
 have hw : IntKind.i64.wrap ((x.cnt : Int) + 1) = ((x.cnt + 1 : Nat) : Int) := (w64 (by omega) (by omega)).trans (by omega)
 rw [hw, iy]
 subst bP
 refine ⟨jL, ⟨Lo (Ar (Ad ts) x.exec) x.outs, x.cnt + 1, o2, vs2, [.slice e1 e2 e3, .slice f1 f2 f3, .slice g1 g2 g3, .slice h1 h2 h3]⟩, ?_, ⟨ok1.fl, ok1.dl, ok1.ol, ok1.ords, ok1.ord, ok1.fen, ok1.oo, ok1.vs, ok1.asc, ok1.out, _, _, _, _, _, _, _, _, _, _, _, _, rfl⟩, ⟨rfl, rfl⟩⟩
 simp only [SX.G, SX.box, SX.xV, SX.now, hfv, lAl, lAg]
end
section
variable {β : Type}
def Te (f : Nat → Bool) (ok : List Int → Int → Bool) (g : Int → List β) (row : List Int) (n : Nat) : List β := (((Cr n f).filter fun a => decide (a ∉ row)).filter (ok row)).flatMap g
def Je (f : Nat → Bool) (row : List Int) (n : Nat) : Nat := ((Cr n f).filter fun a => decide (a ∉ row)).length
theorem I5 (f : Nat → Bool) (ok : List Int → Int → Bool) (g : Int → List β) (row : List Int) (n : Nat) :
  Te f ok g row (n + 1) = Te f ok g row n ++ if f n = true ∧ (n : Int) ∉ row ∧ ok row n = true then g n else [] := by
 unfold Te
 rw [Iy, lCp, lCp, lAy]
 congr 1
 by_cases h1 : f n = true
 ·rw [if_pos h1]
  by_cases h2 : (n : Int) ∉ row
  ·by_cases h3 : ok row n = true
   ·rw [if_pos ⟨h1, h2, h3⟩]; simp [h2, h3]
   ·rw [if_neg fun h => h3 h.2.2]; simp [h2, h3]
  ·rw [if_neg fun h => h2 h.2.1]; simp at h2; simp [h2]
 ·rw [if_neg h1, if_neg fun h => h1 h.1]; rfl
theorem Lv (f : Nat → Bool) (row : List Int) (n : Nat) : Je f row (n + 1) = Je f row n + if f n = true ∧ (n : Int) ∉ row then 1 else 0 := by
 unfold Je
 rw [Iy, lCp, lA4]
 congr 1
 by_cases h1 : f n = true
 ·rw [if_pos h1]
  by_cases h2 : (n : Int) ∉ row
  ·rw [if_pos ⟨h1, h2⟩]; simp [h2]
  ·rw [if_neg fun h => h2 h.2]; simp at h2; simp [h2]
 ·rw [if_neg h1, if_neg fun h => h1 h.1]; rfl
theorem Yb (f : Nat → Bool) (row : List Int) (n : Nat) : Je f row n ≤ n := lBk (lDw _ _) (Bj _ _)
theorem Ps (f : Nat → Bool) (ok : List Int → Int → Bool) (g : Int → List β) (row : List Int) (n : Nat) : ∀ d, ∃ t, Te f ok g row (n + d) = Te f ok g row n ++ t
 | 0 => ⟨[], (lAa _).symm⟩
 | d + 1 => by
  obtain ⟨t, h⟩ := Ps f ok g row n d
  exact ⟨_, by rw [← lDa, I5, h, lAc]⟩
theorem R2 (f : Nat → Bool) (ok : List Int → Int → Bool) (fin : List Int → List β) (N F : Nat) (row : List Int) :
  Jd (Cr N f) ok fin (F + 1) row = Te f ok (fun a => Jd (Cr N f) ok fin F (row ++ [a])) row N ++ if Je f row N = 0 then fin row else [] := by
 rw [Jd, Te, Je]
 congr 1
 by_cases h : ((Cr N f).filter fun a => decide (a ∉ row)) = []
 ·rw [if_pos h, h]; rfl
 ·rw [if_neg h, if_neg fun h2 => h (lC2.1 h2)]
end
def Pt (p : List Ev) (row : List Int) (a b : Nat) : Bool := (List.range b).all fun i => !((evAt p i).strong && decide ((evAt p i).th = (evAt p a).th) && !decide ((i : Int) ∈ row))
theorem Wt (p : List Ev) (row : List Int) (a b : Nat) : Pt p row a (b + 1) = (Pt p row a b && !((evAt p b).strong && decide ((evAt p b).th = (evAt p a).th) && !decide ((b : Int) ∈ row))) := by
 simp only [Pt, lDp, lDh, lFn, List.all_nil, lEl]
theorem Ai3 {p : List Ev} {row : List Int} {a : Nat} (ha : a ≤ p.length) : Is p row a = Pt p row a a := by
 rw [lEw, Rv, Pt, lB0]
 constructor
 ·intro h i hi
  have hi := lAn.1 hi
  by_cases h1 : (evAt p i).strong = true
  ·by_cases h2 : (evAt p i).th = (evAt p a).th
   ·have := h i (by omega) (by omega) h1 (by rw [lB2]; exact h2)
    simp [this]
   ·simp [h2]
  ·simp [h1]
 ·intro h b hb nw h1 h2
  have h3 := h b (lAn.2 (by omega))
  rw [lB2] at h2
  rw [h1, h2] at h3
  simpa using h3
theorem Tf {M : Aa} {p : List Ev} {la : Option Addr} (h : rdS M 6 la p.length (p.flatMap Hf)) : ∀ b, b < p.length → ∃ pb po, la = some ⟨pb, po, none⟩ ∧ rd M pb (po + b * 6) 6 (Hf (evAt p b)) := fun b hb => by
 obtain ⟨pb, po, e, hat⟩ := Sl.at (enc := Hf) (fun _ => rfl) (by decide) h (by omega)
 refine ⟨pb, po, e, ?_⟩
 rw [D5 hb]
 exact hat b hb
theorem XOk.grow {p : List Ev} {e : Exec} (hx : XOk p e) (hn : e.fen.Nodup) (hs : ∀ y ∈ e.fen, y ∈ Ba p) {a : Int} (ha : a ∈ Ba p) (fh : a ∉ e.fen) : (e.fen ++ [a]).Nodup ∧ (∀ y ∈ e.fen ++ [a], y ∈ Ba p) ∧ XOk p { e with fen := e.fen ++ [a] } := by
 have h1 : (e.fen ++ [a]).Nodup := by
  rw [lCb]
  refine ⟨hn, by simp, fun x hx y hy h => ?_⟩
  rw [lAk] at hy
  subst h hy
  exact fh hx
 have h2 : ∀ y ∈ e.fen ++ [a], y ∈ Ba p := fun y hy => by
  rcases lBa.1 hy with h | h
  ·exact hs y h
  ·rw [lAk] at h; rw [h]; exact ha
 refine ⟨h1, h2, ⟨hx.fl, hx.dl, hx.ol, hx.fr, hx.oin, fun y hy => ?_, lBk (B6 h1 h2) (Bj _ _)⟩⟩
 obtain ⟨i, hi, _, rfl⟩ := B5.1 (h2 y hy)
 omega
section
variable {M : Aa}
theorem U6 (xs : List Int) (v : Value) (hv : Sl M 1 ei v xs) (hx : xs.length < 1000000) : Con Tryz.prog 154 #[v] M [] (Fe9 xs) :=
 (Il xs v hv hx).mono fun u M' G' ⟨_, b, cap, sp, h1, h2, h3⟩ => ⟨some (b, cap, sp), h2, h1, h3⟩
theorem U7 {C : Cx Tryz.prog} {k : List RItem} {p : List Ev} {mb n a : Nat} {la : Option Addr} {lc : Nat} {pv0 : Value} {cs : List Value} {R : Own} {row : List Int} {na : Option Addr} {nc : Nat} (hp : p.length ≤ 16) (ha : a < p.length)
  (au : ∀ b, b < p.length → ∃ pb po, la = some ⟨pb, po, none⟩ ∧ rd M pb (po + b * 6) 6 (Hf (evAt p b))) (bz : rdS M 1 na row.length (row.flatMap ei)) (e8 : row.length ≤ 1000)
  (key : EV C [0, 2, 3, 4, 5, 6] k [(0, pv mb 0), (2, vi n), (3, .slice na row.length nc), (4, vi a), (5, vb (Pt p row a a))] M ((mb, Cl 39 (pv0 :: .slice la p.length lc :: cs)) :: R)) :
  EV C [0, 2, 3, 4, 5, 6] (.code (.seq (.reg Ct1) (.block 2 (.loop Ac8))) :: k) [(0, pv mb 0), (2, vi n), (3, .slice na row.length nc), (4, vi a), (5, vb true)] M ((mb, Cl 39 (pv0 :: .slice la p.length lc :: cs)) :: R) := by
 repeat' first | refine st ?_ | refine rg ?_ | exact ⟨⟩ | fail
 refine JC (fun b : Nat => ([(0, pv mb 0), (2, vi n), (3, .slice na row.length nc), (4, vi a), (5, vb (Pt p row a b)), (6, vi b)], M, (mb, Cl 39 (pv0 :: .slice la p.length lc :: cs)) :: R)) (fun b => b ≤ a) (fun b => a - b) 0 rfl (lA8 _) ?env1 (lA0 _) ?_
 case env1 =>
  exact eE
 rintro b hb ih
 dsimp only at hb ih ⊢
 repeat' first | refine st ?_ | refine rg ?_ | (refine cX ?_ ?_ <;> intro h <;> try exact Ai h) | exact ⟨⟩ | fail
 ·have lg : b < a := by omega
  obtain ⟨pb, po, rfl, iu⟩ := au b (by omega)
  obtain ⟨pb', po', e, dq⟩ := au a ha
  cases e
  have j8 : rd M pb (po + b * 6 + 1) 5 [vi (evAt p b).op.kind, vi (evAt p b).op.loc, vi (evAt p b).op.v, vi (evAt p b).op.w, vi (evAt p b).op.ord] := iu.pt 1 5 (by omega) rfl
  have uO : rd M pb (po + b * 6 + 0) 1 [vi (evAt p b).th] := iu.pt 0 1 (by omega) rfl
  have uP : rd M pb (po + a * 6 + 0) 1 [vi (evAt p a).th] := dq.pt 0 1 (by omega) rfl
  simp only [lDd] at uO uP
  have cC := fun G => (show As _ _ _ (M.add G) _ from Pk (evAt p b).op)
  simp only [Uw] at cC
  have hY := fun G => Xv (M := M.add G) row b _ ⟨na, nc, rfl, bz.mono (JB _ _)⟩ (by omega)
  obtain ⟨sb, nH⟩ : ∃ sb, sb = (evAt p b).strong := ⟨_, rfl⟩
  obtain ⟨tb, nI⟩ : ∃ tb, tb = decide ((evAt p b).th = (evAt p a).th) := ⟨_, rfl⟩
  obtain ⟨rb, lA⟩ : ∃ rb, rb = decide ((b : Int) ∈ row) := ⟨_, rfl⟩
  rw [← nH] at cC
  rw [← lA] at hY
  have iR := Wt p row a b
  rw [← nH, ← nI, ← lA] at iR
  have ih2 := ih (b + 1) (by omega) (by omega)
  rw [iR] at ih2
  refine EV.any (t := Ct2) _ (lA0 _) ?_
  simp only [An, Aq, Al, Au, reduceIte, Nat.reduceEqDiff]
  repeat' first | ((refine ZE ?_ (fun lq aD hc => ?_) (fun lq aD => ?_); rotate_left) <;> (try (exfalso; simp at hc; done)) <;> try refine nz ?_) | ((first | refine zo (fun lq aD => ?_) | refine zl ?_ | refine lA9 _ (lAd (cC _) ?_) | refine lA9 _ (lAd (hY _) ?_) | fail); try refine nz ?_) | refine zf ?_ | with_reducible rfl | refine ZF ?_ | ((first | refine xm ?_ | refine xsA rfl ?_ | fail); try refine nz ?_) | exact ⟨⟩ | fail
  rw [← nI]
  cases hc : (sb && tb && !rb) with
  | true =>
   rw [hc, lBj, lF3] at ih2
   repeat' first | refine su ?_ | refine rg ?_ | (refine cX ?_ ?_ <;> intro h <;> try exact Ai h) | exact ⟨⟩ | fail
   refine JA ih2 ?_ (lA0 _)
   exact eE
  | false =>
   rw [hc, lBl, lEl] at ih2
   repeat' first | refine su ?_ | refine rg ?_ | (refine cX ?_ ?_ <;> intro h <;> try exact Ai h) | exact ⟨⟩ | fail
   refine JA ih2 ?_ (lA0 _)
   exact eE
 ·have nw : b = a := by omega
  subst nw
  refine JA key ?_ (lA0 _)
  exact eE
end
def Jz (p : List Ev) (x : SX) (F : Nat) : List Exec := S5 p x.exec F x.fen
def Yc (p : List Ev) (i : Nat) : Bool := (evAt p i).strong
def Cw6 (p : List Ev) (x : SX) (F : Nat) (a : Int) : List Exec := Jd (Ba p) (Is p) (fun r => F6 p { x.exec with fen := r }) F (x.fen ++ [a])
abbrev Bd0 (p : List Ev) (x : SX) (F n : Nat) : List Exec := Te (Yc p) (Is p) (Cw6 p x F) x.fen n
structure FenPre (p : List Ev) (x : SX) (F : Nat) : Prop where
 hx : XOk p x.exec
 hnd : x.fen.Nodup
 hsub : ∀ y ∈ x.fen, y ∈ Ba p
 hF : (Ba p).length < x.fen.length + F
 hin : ∀ e ∈ Jz p x F, e ∈ Ca p
 hcnt : x.cnt + (Jz p x F).length < 2 ^ 62
def Tg (ts : List (List OpV)) (ps lv : Value) (mb F : Nat) : Prop :=
 ∀ (M : Aa) (x : SX), Ee M 5 Bb ps ts → Sl M 6 Hf lv (Ad ts) → x.Ok (Ad ts) M → FenPre (Ad ts) x F →
  Con Tryz.prog 165 #[pv mb 0] M (x.G mb ps lv) (x.Post (Ad ts) (Jz (Ad ts) x F) mb ps lv M)
section
theorem Wu (ts : List (List OpV)) (ps lv : Value) (aM : A2 ts = 0) (mb F : Nat) (bf : Tg ts ps lv mb F) : Tg ts ps lv mb (F + 1) := by
 intro M x hs bB ok ⟨hx, hnd, hsub, hF, hin, hcnt⟩
 have aK := hs
 have bK := bB
 have cZ := Ck aM
 have lB := fun M x h1 h2 h3 h4 h5 h6 => Ws (M := M) ts ps lv h1 aM h2 mb x h3 h4 h5 h6
 unfold Tg at bf
 obtain ⟨vs, ac, cH, rfl, dw, aH, hk⟩ := hs
 obtain ⟨la, lc, rfl, aq⟩ := bB
 obtain ⟨na, nc, hfv, ma⟩ := ok.fen
 refine Con.enter Q77_ok (args := [pv mb 0]) (by simp [Q77]) fun w0 => ?_
 simp only [Q77, A9]
 generalize gY : Ad ts = p at *
 have af : p.length ≤ 16 := by omega
 have hG := fun r : SF => JO r mb (.slice vs ts.length ac) (.slice la p.length lc) hfv
 have dR : x.G mb (.slice vs ts.length ac) (.slice la p.length lc) = _ := hG x.sf
 have fH : Jz p x (F + 1) = Bd0 p x F p.length ++ if Je (Yc p) x.fen p.length = 0 then F6 p x.exec else [] := R2 _ _ _ _ _ _
 rw [fH] at hin hcnt ⊢
 rw [dR]
 repeat' first | refine st ?_ | refine rg ?_ | (refine xsA rfl ?_; try refine nx ?_) | exact ⟨⟩ | fail
 refine JC (fun z : Nat × Aa × SF => ([(0, pv mb 0), (2, vi (Je (Yc p) x.fen z.1)), (3, .slice na x.fen.length nc), (4, vi z.1)], z.2.1, (x.now z.2.2).G mb (.slice vs ts.length ac) (.slice la p.length lc)))
  (fun z => z.1 ≤ p.length ∧ M.le z.2.1 ∧ (x.now z.2.2).Ok p z.2.1 ∧ x.Found p (Bd0 p x F z.1) z.2.2) (fun z => p.length - z.1) (0, M, x.sf) rfl ⟨lA8 _, Aa.le_refl _, ok, SX.Found.refl x p⟩ ?env1 (by dsimp only; rw [hG]; exact lA0 _) ?_
 case env1 =>
  exact eE
 rintro ⟨a, N, r⟩ ⟨ha, aB, okr, bN⟩ ih
 dsimp only at ha aB okr bN ih ⊢
 simp only [hG] at ih ⊢
 have au := Tf (aq.mono aB)
 repeat' first | refine st ?_ | refine rg ?_ | (refine cX ?_ ?_ <;> intro h <;> try exact Ai h) | (refine xsA rfl ?_; try refine nx ?_) | exact ⟨⟩ | fail
 ·have aU : a < p.length := by omega
  obtain ⟨pb, po, nJ, dq⟩ := au a aU
  have gJ : rd N pb (po + a * 6 + 1) 5 [vi (evAt p a).op.kind, vi (evAt p a).op.loc, vi (evAt p a).op.v, vi (evAt p a).op.w, vi (evAt p a).op.ord] := dq.pt 1 5 (by omega) rfl
  have cC := fun G => (show As _ _ _ (N.add G) _ from Pk (evAt p a).op)
  simp only [Uw] at cC
  have sQ : x.fen.length ≤ 16 := by have := hx.fin.2; show x.exec.fen.length ≤ 16; omega
  have hY := fun G => Xv (M := N.add G) x.fen a _ ⟨na, nc, rfl, (ma.mono aB).mono (JB _ _)⟩ (by omega)
  have hps : Bd0 p x F (a + 1) = Bd0 p x F a ++ if Yc p a = true ∧ (a : Int) ∉ x.fen ∧ Is p x.fen a = true then Cw6 p x F a else [] := I5 (Yc p) (Is p) (Cw6 p x F) x.fen a
  have b0 := Lv (Yc p) x.fen a
  have bV := Yb (Yc p) x.fen a
  obtain ⟨pre, bS⟩ : ∃ t, Bd0 p x F p.length = Bd0 p x F (a + 1) ++ t := by
   have := Ps (Yc p) (Is p) (Cw6 p x F) x.fen (a + 1) (p.length - (a + 1))
   rwa [show a + 1 + (p.length - (a + 1)) = p.length by omega] at this
  obtain ⟨sb, nH⟩ : ∃ sb, sb = (evAt p a).strong := ⟨_, rfl⟩
  have nK : Yc p a = sb := nH.symm
  obtain ⟨rb, lA⟩ : ∃ rb, rb = decide ((a : Int) ∈ x.fen) := ⟨_, rfl⟩
  rw [← nH] at cC
  rw [← lA] at hY
  subst nJ
  repeat' first | refine su ?_ | refine rg ?_ | with_reducible assumption | (refine JE ?_ (fun hc K' hK => ?_) ?_; rotate_left) | ((first | refine As.call (hY _) ?_ | refine As.call (cC _) ?_ | fail); try refine nx ?_) | (refine cX ?_ ?_ <;> intro h <;> try exact Ai h) | refine ZF ?_ | (refine xm ?_; try refine nx ?_) | exact ⟨⟩ | fail
  ·have aP : ¬ (Yc p a = true ∧ (a : Int) ∉ x.fen) := by
    rw [nK]; rintro ⟨h1, h2⟩
    rcases h with h | h
    ·rw [h1] at h; cases h
    ·rw [lA] at h; exact h2 (by simpa using h)
   rw [if_neg fun hh => aP ⟨hh.1, hh.2.1⟩, lAa] at hps
   rw [if_neg aP] at b0
   have ih2 := ih (a + 1, N, r) ⟨by dsimp only; omega, aB, okr, by dsimp only; rw [hps]; exact bN⟩ (by dsimp only; omega)
   dsimp only at ih2
   rw [b0] at ih2
   refine JA ih2 ?_ (lA0 _)
   exact eE
  ·obtain ⟨bm, aR⟩ := h
   have nL : (a : Int) ∉ x.fen := by rw [lA] at aR; simpa using aR
   have bX : Yc p a = true ∧ (a : Int) ∉ x.fen := ⟨nK.trans bm, nL⟩
   rw [if_pos bX] at b0
   refine EV.seq ?_
   repeat' first | refine rg ?_ | exact ⟨⟩ | fail
   refine EV.seq ?_
   repeat' first | refine rg ?_ | exact ⟨⟩ | fail
   refine EV.seq ?_
   refine JA (U7 (n := Je (Yc p) x.fen (a + 1)) (row := x.fen) (nc := nc) af aU au (ma.mono aB) (by omega) ?_) ?_ (lA0 _)
   rotate_left
   ·rw [b0]
    exact eE
   rw [← Ai3 (by omega)]
   cases qA : Is p x.fen a with
   | false =>
    rw [if_neg fun hh => (by rw [qA] at hh; exact absurd hh.2.2 (by simp)), lAa] at hps
    have ih2 := ih (a + 1, N, r) ⟨by dsimp only; omega, aB, okr, by dsimp only; rw [hps]; exact bN⟩ (by dsimp only; omega)
    dsimp only at ih2
    repeat' first | refine st ?_ | refine rg ?_ | (refine cX ?_ ?_ <;> intro h <;> try exact Ai h) | exact ⟨⟩ | fail
    refine JA ih2 ?_ (lA0 _)
    exact eE
   | true =>
    rw [if_pos ⟨bX.1, bX.2, qA⟩] at hps
    repeat' first | refine st ?_ | refine rg ?_ | (refine cX ?_ ?_ <;> intro h <;> try exact Ai h) | exact ⟨⟩ | fail
    refine JK (U6 x.fen _ ⟨na, nc, rfl, (ma.mono aB).mono (JB _ _)⟩ (by omega)) ?_
    rintro v1 M1 G1 ⟨ov, aL, rfl, rfl⟩
    intro bb
    simp only [lB5, lC7, lAl]
    refine ⟨[vi a], Or.inr ⟨bb, 0, rfl, Ap 0 rfl rfl (by simp)⟩, by simp [Bp, Cb, Value.oneCell'], Or.inl ⟨ov, _, rfl, _, aL, _, PullL.p, ?_, ?_, ?_⟩⟩
    ·simp only [maxLen]; omega
    ·omega
    intro o2 an _
    simp only [lAl, lAa]
    repeat' first | (refine xw ?_; refine nx ?_) | exact ⟨⟩ | fail
    refine JG ((mb, Cl 39 (.slice vs ts.length ac :: .slice (some ⟨pb, po, none⟩) p.length lc :: Av x.fb x.frm.length x.frm.length :: Av x.db x.dn.length x.dn.length :: Av x.ob x.ord.length x.ord.length :: osv o2 (x.fen.length + 1) :: osv r.oo r.outs.length :: vi r.cnt :: vi 0 :: r.sm)) :: (x.fb, Cl 3 (x.frm.map vi)) :: (x.db, Cl 4 (x.dn.map vb)) :: (x.ob, Cl 34 x.ords) :: osg 34 r.oo r.vs) ?_
    generalize hR : N.add _ = N2
    have fC : N.le N2 := hR ▸ JB _ _
    have d4 : (x.fen ++ [(a : Int)]).length = x.fen.length + 1 := by simp
    have cI : Sl N2 1 ei (osv o2 (x.fen.length + 1)) (x.fen ++ [(a : Int)]) := by
     rw [← hR, ← d4]
     refine Ln (T := 3) (by rw [d4, lAu]; exact an) (fun q hq => ?_)
     rw [lAu] at hq
     simp only [lBo, lBa]
     first | exact .inr hq | exact .inl hq | (right; exact hq) | (left; exact hq)
    clear hR
    obtain ⟨x2, bi⟩ : ∃ x2 : SX, x2 = { x.now r with fen := x.fen ++ [(a : Int)], fenV := osv o2 (x.fen.length + 1) } := ⟨_, rfl⟩
    have bj : Jz p x2 F = Cw6 p x F a := by rw [bi]; rfl
    have aI : (a : Int) ∈ Ba p := B5.2 ⟨a, aU, bX.1, rfl⟩
    obtain ⟨q1, q2, q3⟩ := hx.grow hnd hsub aI nL
    have okx : x2.Ok p N2 := by
     have := okr.mono fC
     rw [bi]
     exact ⟨this.fl, this.dl, this.ol, this.ords, this.ord, cI, this.oo, this.vs, this.asc, this.out, this.sl⟩
    have bI := bf N2 x2 (aK.mono (Aa.le_trans aB fC)) (bK.mono (Aa.le_trans aB fC)) okx ⟨by rw [bi]; exact q3, by rw [bi]; exact q1, by rw [bi]; exact q2, by rw [bi]; show _ < (x.fen ++ [(a : Int)]).length + F; omega, fun e he => hin e (lD5 _ (by rw [bS, hps]; rw [bj] at he; exact lD5 _ (lDj _ he))), by
     rw [bj, bi]
     have h1 := bN.cnt
     rw [lA4, bS, hps, lA4, lA4] at hcnt
     show r.cnt + _ < _
     omega⟩
    rw [JR, bi] at bI
    refine EV.seq ?_
    repeat' first | refine rg ?_ | exact ⟨⟩ | fail
    refine Con.run bI ?_
    rintro v4 M4 G4 _ ⟨cO, r4, rfl, ok4, jh⟩
    rw [JR]
    simp only [SX.now]
    repeat' first | refine su ?_ | refine rg ?_ | (refine xw ?_; refine nx ?_) | exact ⟨⟩ | fail
    have ih2 := ih (a + 1, M4, r4) ⟨by dsimp only; omega, Aa.le_trans aB (Aa.le_trans fC cO), ⟨ok4.fl, ok4.dl, ok4.ol, ok4.ords, ok4.ord, ok.fen.mono (Aa.le_trans aB (Aa.le_trans fC cO)), ok4.oo, ok4.vs, ok4.asc, ok4.out, ok4.sl⟩, by dsimp only; rw [hps]; exact bN.trans ⟨jh.outs, jh.cnt⟩⟩ (by dsimp only; omega)
    dsimp only at ih2
    refine JA ih2 ?_ (lA0 _)
    exact eE
 all_goals have nM : a = p.length := by omega
 all_goals subst nM
 ·have h0 : Je (Yc p) x.fen p.length = 0 := by simpa using h
  rw [if_pos h0] at hin hcnt ⊢
  have aG : x.cnt + (Bd0 p x F p.length).length = r.cnt := bN.cnt.symm
  have iy := lB N (x.now r) (aK.mono aB) (bK.mono aB) okr hx (fun e he => hin e (lDj _ he)) (by rw [lA4] at hcnt; show r.cnt < _; omega)
  rw [hG] at iy
  refine Con.run iy ?_
  rintro v5 M5 G5 gG ⟨_, r5, rfl, ok5, qt⟩
  repeat' first | fail
  refine EV.done Q77_ok ?_
  (repeat first | refine nx ?_ | simp only [Q77])
  exact ⟨Aa.le_trans aB gG, r5, rfl, ok5, bN.trans qt⟩
 ·have h0 : Je (Yc p) x.fen p.length ≠ 0 := by simpa using h
  rw [if_neg h0, lAa]
  refine EV.done Q77_ok ?_
  (repeat first | refine nx ?_ | simp only [Q77])
  exact ⟨aB, r, (hG r).symm, okr, bN⟩
theorem Mx (ts : List (List OpV)) (ps lv : Value) (aM : A2 ts = 0) (mb : Nat) : ∀ F, Tg ts ps lv mb F
 | 0 => fun M x hs bB ok h => by
  have := B6 h.hnd h.hsub
  have := h.hF
  omega
 | F + 1 => Wu ts ps lv aM mb F (Mx ts ps lv aM mb F)
end
theorem Cw7 {M : Aa} {G : Own} {b : Nat} {T : TypeId} {xs : List Value} {i : Nat} {v : Value} (hi : xs[i]? = some v) [h : At G b T xs] : rd (M.add G) b i 1 [v] := by
 obtain ⟨h1, rfl⟩ := lCt.1 hi
 refine B3 h.mem ?_ (by omega)
 rw [lBi h1]; rfl
theorem Ar3 (xs : List Value) {i : Nat} (hi : i < xs.length) (v : Value) : xs.take i ++ (v :: xs.drop (i + 1)) = xs.set i v := by
 rw [lEt, if_pos hi]
section
variable {M : Aa}
theorem Th (ts : List (List OpV)) (ps lv : Value) (aM : A2 ts = 0) (mb : Nat) (x : SX) (hs : Ee M 5 Bb ps ts) (bB : Sl M 6 Hf lv (Ad ts)) (ok : x.Ok (Ad ts) M) (hx : XOk (Ad ts) x.exec) (hf : x.fen = []) (hfv : x.fenV = .slice none 0 0)
  (hin : ∀ e ∈ Db (Ad ts) x.exec, e ∈ Ca (Ad ts)) (hcnt : x.cnt + (Db (Ad ts) x.exec).length < 2 ^ 62) :
  Con Tryz.prog 153 #[pv mb 0] M (x.G mb ps lv) (x.Post (Ad ts) (Db (Ad ts) x.exec) mb ps lv M) := by
 have aK := hs
 have bK := bB
 have cZ := Ck aM
 have hp := Ho aM
 have bj : ∀ i, i < (Ad ts).length → Af x.exec i < (Ad ts).length := fun i hi => (hx.fr i hi).1
 have iq := Mx ts ps lv aM mb ((Ad ts).length + 1) M x hs bB ok
 have he : ({ x.exec with fen := [] } : Exec) = x.exec := by rw [← hf]; rfl
 have aL : Db (Ad ts) x.exec = if Gz (Ns (Ad ts) x.exec) (Gl (Ad ts) x.exec) = true then [] else Jz (Ad ts) x ((Ad ts).length + 1) := by
  unfold Db Jz
  rw [he, hf]
 rw [aL] at hin hcnt ⊢
 obtain ⟨a, c, cH, rfl, uM, aH, hk⟩ := hs
 obtain ⟨la, lc, rfl, aq⟩ := bB
 have hG := fun r : SF => JO r mb (.slice a ts.length c) (.slice la (Ad ts).length lc) hfv
 have dR : x.G mb (.slice a ts.length c) (.slice la (Ad ts).length lc) = _ := hG x.sf
 have hX := ok.isX (mb := mb) (pv := .slice a ts.length c) (lv := .slice la (Ad ts).length lc)
 have lS : (.agg x.xV.toArray : Value) = .agg #[Av x.fb x.frm.length x.frm.length, Av x.db x.dn.length x.dn.length, Av x.ob x.ord.length x.ord.length, .slice none 0 0] := by
  simp only [SX.xV, hfv]
 rw [lS, dR] at hX
 have ah := fun N => bK.mono (JB M N)
 refine Con.enter Q80_ok (args := [pv mb 0]) (by simp [Q80]) fun w0 => ?_
 simp only [Q80, A9]
 have af : (Ad ts).length ≤ 16 := by omega
 have cB := hx.fenIn af
 have fR : x.exec.fen.length ≤ 16 := by have := hx.fin.2; omega
 have hQ := hx.ordIn
 have aQ := hx.ordSz af
 rw [dR]
 have ez := (show As _ _ _ _ _ from Mv (Ad ts) _ (ah _) af hp.ord x.exec _ hX ok.fl ok.dl bj fR cB)
 have jJ := (show As _ _ _ _ _ from R0 (Ad ts) _ (ah _) af x.exec _ hX ok.fl bj ok.ol hQ aQ)
 have j8 : RelOk 16 (Ns (Ad ts) x.exec) := (unionR_ok (thrR_ok af) (unionR_ok (meetsR_ok af) (turnsR_ok cB))).close
 have iK : RelOk 16 (Gl (Ad ts) x.exec) := (seenR0_ok af hQ).close
 obtain ⟨bb, gF⟩ : ∃ bb, bb = Gz (Ns (Ad ts) x.exec) (Gl (Ad ts) x.exec) := ⟨_, rfl⟩
 have jK : ∀ G, As Tryz.prog 52 #[E0 (Ns (Ad ts) x.exec), E0 (Gl (Ad ts) x.exec)] (M.add G) (vb bb) := fun G => by
  rw [gF]; exact Mu _ _ j8 iK
 rw [← gF] at hin hcnt ⊢
 repeat' first | refine st ?_ | refine rg ?_ | (refine xw ?_; refine nx ?_) | exact ⟨⟩ | fail
 refine EV.any (t := Cs6) _ (lA0 _) ?_
 simp only [An, Aq, Al, Au, reduceIte, Nat.reduceEqDiff]
 repeat' first | ((first | refine zo (fun lq aD => ?_) | refine zl ?_ | fail); try refine nz ?_) | refine zq (fun lq tq aD aA => ?_) | ((first | with_reducible refine As.call ez ?_ | with_reducible refine As.call jJ ?_ | with_reducible refine As.call (jK _) ?_ | fail); try refine nz ?_) | (refine ZA (fun tq aA => ?_) (fun tq aA => ?_) <;> try refine nz ?_) | (refine ZB (fun tq aA => ?_) (fun tq aA => ?_) <;> try refine nz ?_) | exact zn | refine zf ?_ | ((first | refine xrA rfl ?_ | refine xsA rfl ?_ | refine lAd (Aa.le_refl _) (lAd (Ay ?_) ?_); focus ((repeat' first | exact lA0 _ | exact lAh _ | exact lAj _ _ | refine lAf _ ?_ | refine lAo ?_ _ | refine lAb ?_ | refine lAp _ ?_); done) | fail); try refine nz ?_) | exact ⟨⟩ | fail
 have a8 : (Ba (Ad ts)).length ≤ (Ad ts).length := Bj _ _
 rw [dR] at iq
 cases hb : bb with
 | true =>
  repeat' first | refine su ?_ | (refine cX ?_ ?_ <;> intro h <;> try exact Ai h) | fail
  refine EV.done Q80_ok ?_
  (repeat first | refine nx ?_ | simp only [Q80])
  exact ⟨Aa.le_refl _, x.sf, dR.symm, ok, SX.Found.refl x _⟩
 | false =>
  rw [hb, if_neg lFl] at hin hcnt
  repeat' first | refine rg ?_ | (refine cX ?_ ?_ <;> intro h <;> try exact Ai h) | exact ⟨⟩ | fail
  refine Con.run (iq ⟨hx, by rw [hf]; exact lCe, by rw [hf]; simp, by rw [hf, lC7]; omega, hin, hcnt⟩) ?_
  rintro v4 M4 G4 _ h4
  repeat' first | fail
  refine EV.done Q80_ok ?_
  (repeat first | refine nx ?_ | simp only [Q80])
  exact h4
end
def H1 (p : List Ev) (x : SX) : Nat → Nat → Nat → List Exec
 | 0, _, _ => Db p x.exec
 | n + 1, k, F => Jd (Nu p x.dn k p.length) (okV p x.exec) (fun r => Ec p { x.exec with ord := x.ord.set k r } n (k + 1)) F (x.ord[k]?.getD [])
structure OrdPre (p : List Ev) (x : SX) (n k F : Nat) : Prop where
 hx : XOk p x.exec
 hf : x.fen = []
 hfv : x.fenV = .slice none 0 0
 hkn : k + n = 3
 hrows : ∀ j, k < j → x.ord[j]?.getD [] = []
 hnd : (x.ord[k]?.getD []).Nodup
 hsub : ∀ y ∈ x.ord[k]?.getD [], y ∈ Nu p x.dn k p.length
 hF : 0 < n → (Nu p x.dn k p.length).length < (x.ord[k]?.getD []).length + F
 hin : ∀ e ∈ H1 p x n k F, e ∈ Ca p
 hcnt : x.cnt + (H1 p x n k F).length < 2 ^ 62
def My (ts : List (List OpV)) (ps lv : Value) (mb n k F : Nat) : Prop :=
 ∀ (M : Aa) (x : SX), Ee M 5 Bb ps ts → Sl M 6 Hf lv (Ad ts) → x.Ok (Ad ts) M → OrdPre (Ad ts) x n k F →
  Con Tryz.prog 129 #[pv mb 0, vi k] M (x.G mb ps lv) (x.Post (Ad ts) (H1 (Ad ts) x n k F) mb ps lv M)
theorem Ai4 : Pl [] = -1 := rfl
theorem Ai5 (l : List Int) (a : Int) : Pl (l ++ [a]) = a := by
 unfold Pl
 rw [lA4, lC3, Fl]
 simp [Ae]
section
variable {M : Aa}
abbrev Ff0 (mb b9 k cnt a : Nat) (last : Int) : Env := [(0, pv mb 0), (1, vi k), (4, vi cnt), (5, vi last), (6, pv b9 0), (8, vi a)]
theorem Zp {C : Cx Tryz.prog} {k' : List RItem} {ts : List (List OpV)} {ps lv : Value} {mb b9 n k F cnt a : Nat} {last : Int} {bits : List Value} {x : SX} {r : SF} (hs : Ee M 5 Bb ps ts) (bB : Sl M 6 Hf lv (Ad ts)) (ok : (x.now r).Ok (Ad ts) M) (cD : k < 3) (bf : My ts ps lv mb (n + 1) k F)
  (bS : ∀ ords : List Value, OrdPre (Ad ts) { x.now r with ord := x.ord.set k (x.ord[k]?.getD [] ++ [(a : Int)]), ords := ords } (n + 1) k F) (e8 : (x.ord[k]?.getD []).length ≤ 100)
  (key : ∀ M' r', M.le M' → (x.now r').Ok (Ad ts) M' → (x.now r).Found (Ad ts) (Jd (Nu (Ad ts) x.dn k (Ad ts).length) (okV (Ad ts) x.exec) (fun r => Ec (Ad ts) { x.exec with ord := x.ord.set k r } n (k + 1)) F (x.ord[k]?.getD [] ++ [(a : Int)])) r' →
   EV C [0, 1, 4, 5, 6, 7, 8, 9] k' (Ff0 mb b9 k cnt a last) M' ((b9, Cl 141 bits) :: (x.now r').G mb ps lv)) :
  EV C [0, 1, 4, 5, 6, 7, 8, 9] (.code (.seq (.reg Ap7) (.seq (.any Ac7) (.seq (.reg Ap8) (.reg Ap9)))) :: k') (Ff0 mb b9 k cnt a last) M ((b9, Cl 141 bits) :: (x.now r).G mb ps lv) := by
 have aK := hs
 have bK := bB
 obtain ⟨vs, ac, cH, rfl, dw, aH, hk⟩ := hs
 obtain ⟨la, lc, rfl, aq⟩ := bB
 have bC : x.ord.length = 3 := ok.ol
 have nN : x.ords.length = 3 := ok.ords
 have bo : k < x.ord.length := by omega
 have hP : k < x.ords.length := by omega
 have bz := ok.ord k hP bo
 obtain ⟨ra, rc, gK, qu, dZ⟩ := bz
 have hfv : x.fenV = .slice none 0 0 := (bS x.ords).hfv
 have erow : x.ord[k]?.getD [] = x.ord[k] := by rw [lA2 bo]; rfl
 change x.ords[k] = .slice ra x.ord[k].length rc at gK
 change rdS M 1 ra x.ord[k].length (x.ord[k].flatMap ei) at dZ
 have bt : x.ords[k]? = some (.slice ra x.ord[k].length rc) := by rw [lA2 hP, gK]
 have uQ : x.ord[k].length ≤ 100 := by rw [← erow]; exact e8
 have qv := fun G => U6 (M := M.add G) x.ord[k] _ ⟨ra, rc, rfl, dZ.mono (JB _ _)⟩ (by rw [erow] at e8; omega)
 have hG := fun r : SF => JO r mb (.slice vs ts.length ac) (.slice la (Ad ts).length lc) hfv
 rw [hG r]
 unfold My at bf
 generalize gY : Ad ts = p at *
 refine EV.seq ?_
 repeat' first | refine rg ?_ | (refine lA9 _ (lA9 _ (lA9 _ (lAd (Cw7 bt) ?_))); try refine nx ?_) | refine ZF ?_ | (refine xsA rfl ?_; try refine nx ?_) | exact ⟨⟩ | fail
 refine EV.seq ?_
 refine JH (fun ρ' M' G' => M' = M ∧ (∀ q ∈ [(0, pv mb 0), (1, vi k), (4, vi cnt), (5, vi last), (6, pv b9 0), (8, vi a), (9, .slice ra x.ord[k].length rc)], get ρ' q.1 = some q.2) ∧ ∃ o2 : Vec, Eo 1 o2 (x.ord[k].length + 1) (x.ord[k].map vi ++ [vi a]) ∧
  G' = (b9, Cl 141 bits) :: (mb, Cl 39 (.slice vs ts.length ac :: .slice la p.length lc :: Av x.fb x.frm.length x.frm.length :: Av x.db x.dn.length x.dn.length :: Av x.ob x.ord.length x.ord.length :: .slice none 0 0 :: osv r.oo r.outs.length :: vi r.cnt :: vi 0 :: r.sm)) :: (x.fb, Cl 3 (x.frm.map vi)) :: (x.db, Cl 4 (x.dn.map vb)) :: (x.ob, Cl 34 (x.ords.set k (osv o2 (x.ord[k].length + 1)))) :: (osg 34 r.oo r.vs ++ osg 3 o2 (x.ord[k].map vi ++ [vi a]))) ?_ ?_
 ·intro k2 kk
  refine EV.any (t := Ac7) [(mb, Cl 39 (.slice vs ts.length ac :: .slice la p.length lc :: Av x.fb x.frm.length x.frm.length :: Av x.db x.dn.length x.dn.length :: Av x.ob x.ord.length x.ord.length :: .slice none 0 0 :: osv r.oo r.outs.length :: vi r.cnt :: vi 0 :: r.sm))] eS ?_
  simp only [An, Aq, Al, Au, reduceIte, Nat.reduceEqDiff]
  repeat' first | ((first | refine zo (fun lq aD => ?_) | refine zl ?_ | fail); try refine nz ?_) | refine zq (fun lq tq aD aA => ?_) | ((with_reducible refine JK (qv _) ?_) ;  rintro v1 M1 G1 ⟨ov, aL, rfl, rfl⟩; try refine nz ?_) | (refine ZA (fun tq aA => ?_) (fun tq aA => ?_) <;> try refine nz ?_) | exact zn | ((first | with_reducible intro b | refine xsA rfl ?_ | refine lAd (Aa.le_refl _) (lAd (Ay ?_) ?_); focus ((repeat' first | exact lA0 _ | exact lAh _ | exact lAj _ _ | refine lAf _ ?_ | refine lAo ?_ _ | refine lAb ?_ | refine lAp _ ?_); done) | fail); try refine nz ?_) | exact ⟨⟩ | fail
  all_goals refine ⟨[vi a], Or.inr ⟨b, 0, rfl, Ap 0 rfl rfl (by simp)⟩, by simp [Bp, Cb, Value.oneCell'], Or.inl ⟨ov, _, rfl, _, aL, _, PullL.p, by simp only [maxLen]; omega, by omega, ?_⟩⟩
  all_goals intro o2 an _
  all_goals simp only [lAl, lAa, lAc]
  all_goals
   repeat' first | ((first | refine zo (fun lq aD => ?_) | refine zl ?_ | fail); try refine nz ?_) | refine zq (fun lq tq aD aA => ?_) | (refine ZB (fun tq aA => ?_) (fun tq aA => ?_) <;> try refine nz ?_) | exact zn | refine zf ?_ | refine ZF ?_ | ((first | refine xw ?_ | refine lAd (Aa.le_refl _) (lAd (Ay ?_) ?_); focus ((repeat' first | exact lA0 _ | exact lAh _ | exact lAj _ _ | refine lAf _ ?_ | refine lAo ?_ _ | refine lAb ?_ | refine lAp _ ?_); done) | fail); try refine nz ?_) | exact ⟨⟩ | fail
  all_goals rw [Ar3 _ hP]
  all_goals refine JI (kk _ M ((b9, Cl 141 bits) :: (mb, Cl 39 (.slice vs ts.length ac :: .slice la p.length lc :: Av x.fb x.frm.length x.frm.length :: Av x.db x.dn.length x.dn.length :: Av x.ob x.ord.length x.ord.length :: .slice none 0 0 :: osv r.oo r.outs.length :: vi r.cnt :: vi 0 :: r.sm)) :: (x.fb, Cl 3 (x.frm.map vi)) :: (x.db, Cl 4 (x.dn.map vb)) :: (x.ob, Cl 34 (x.ords.set k (osv o2 (x.ord[k].length + 1)))) :: (osg 34 r.oo r.vs ++ osg 3 o2 (x.ord[k].map vi ++ [vi a]))) ⟨rfl, ?_, o2, an, rfl⟩)
  all_goals
   exact eE
 rintro ρ2 M2 G2 ⟨rfl, hq, o2, an, rfl⟩
 refine JA ?_ hq (lA0 _)
 refine JG ((b9, Cl 141 bits) :: (mb, Cl 39 (.slice vs ts.length ac :: .slice la p.length lc :: Av x.fb x.frm.length x.frm.length :: Av x.db x.dn.length x.dn.length :: Av x.ob x.ord.length x.ord.length :: .slice none 0 0 :: osv r.oo r.outs.length :: vi r.cnt :: vi 0 :: r.sm)) :: (x.fb, Cl 3 (x.frm.map vi)) :: (x.db, Cl 4 (x.dn.map vb)) :: (x.ob, Cl 34 (x.ords.set k (osv o2 (x.ord[k].length + 1)))) :: osg 34 r.oo r.vs) ?_
 generalize hR : M2.add _ = N2
 have fC : M2.le N2 := hR ▸ JB _ _
 have d4 : (x.ord[k] ++ [(a : Int)]).length = x.ord[k].length + 1 := by simp
 have cI : SlC N2 1 ei (osv o2 (x.ord[k].length + 1)) (x.ord[k] ++ [(a : Int)]) := by
  rw [← hR, ← d4]
  refine Gf (T := 3) (by rw [d4, lAu]; exact an) rfl (fun q hq => ?_)
  rw [lAu] at hq
  exact hq
 clear hR
 have sR := bS (x.ords.set k (osv o2 (x.ord[k].length + 1)))
 rw [erow] at sR key
 obtain ⟨x2, bi⟩ : ∃ x2 : SX, x2 = { x.now r with ord := x.ord.set k (x.ord[k] ++ [(a : Int)]), ords := x.ords.set k (osv o2 (x.ord[k].length + 1)) } := ⟨_, rfl⟩
 have okx : x2.Ok p N2 := by
  have h := ok.mono fC
  rw [bi]
  refine ⟨h.fl, h.dl, by show (x.ord.set _ _).length = 3; rw [lBh]; exact h.ol, by show (x.ords.set _ _).length = 3; rw [lBh]; exact h.ords, fun j h1 h2 => ?_, h.fen, h.oo, h.vs, h.asc, h.out, h.sl⟩
  show SlC N2 1 ei (x.ords.set _ _)[j] (x.ord.set _ _)[j]
  by_cases hj : k = j
  ·subst hj
   rw [lDi, lDi]; exact cI
  ·rw [lFe hj, lFe hj]
   exact h.ord j (by change j < (x.ords.set _ _).length at h1; rwa [lBh] at h1) (by change j < (x.ord.set _ _).length at h2; rwa [lBh] at h2)
 have bI := bf N2 x2 (aK.mono fC) (bK.mono fC) okx (by rw [bi]; exact sR)
 have uR : H1 p x2 (n + 1) k F = Jd (Nu p x.dn k p.length) (okV p x.exec) (fun r => Ec p { x.exec with ord := x.ord.set k r } n (k + 1)) F (x.ord[k] ++ [(a : Int)]) := by
  rw [bi]
  unfold H1
  dsimp only [SX.now, SX.exec]
  simp only [List.set_set, List.getElem?_set_self bo, lAr]
  rfl
 rw [uR, JR, bi] at bI
 simp only [SX.now, lBh, hfv] at bI
 refine EV.seq ?_
 repeat' first | refine rg ?_ | exact ⟨⟩ | fail
 refine Con.callS bI ?_
 rintro v4 M4 G4 _ ⟨cO, r4, rfl, ok4, jh⟩
 rw [JR]
 simp only [SX.now, lBh, hfv, lAl]
 repeat' first | refine rg ?_ | refine ZF ?_ | (refine xsA rfl ?_; try refine nx ?_) | (refine xw ?_; refine nx ?_) | exact ⟨⟩ | fail
 refine ⟨by rw [lBh]; omega, ?_⟩
 rw [Ar3 _ (by rw [lBh]; exact hP), List.set_set, ← gK, List.set_getElem_self]
 have a8 := Aa.le_trans fC cO
 have kk := key M4 r4 a8 ⟨ok4.fl, ok4.dl, bC, nN, fun j h1 h2 => (ok.ord j h1 h2).mono a8, ok.fen.mono a8, ok4.oo, ok4.vs, ok4.asc, ok4.out, ok4.sl⟩ ⟨jh.outs, jh.cnt⟩
 rw [hG r4] at kk
 refine JD kk ?_
 exact eE
end
def U8 (p : List Ev) (dn : List Bool) (k : Nat) (i : Nat) : Bool := Ci dn i && decide ((evAt p i).op.loc = (k : Int))
def Wv (p : List Ev) (x : SX) (n k F : Nat) (a : Int) : List Exec := Jd (Nu p x.dn k p.length) (okV p x.exec) (fun r => Ec p { x.exec with ord := x.ord.set k r } n (k + 1)) F (x.ord[k]?.getD [] ++ [a])
abbrev Ar4 (p : List Ev) (x : SX) (n k F m : Nat) : List Exec := Te (U8 p x.dn k) (okV p x.exec) (Wv p x n k F) (x.ord[k]?.getD []) m
section
variable {M : Aa}
theorem Ww {C : Cx Tryz.prog} {k' : List RItem} {mb b9 k : Nat} {x : SX} {ps lv : Value} {ra : Option Addr} {rc : Nat} (cD : k < 3) (bC : x.ord.length = 3) (hfv : x.fenV = .slice none 0 0) {row : List Int} (bt : x.ords[k]? = some (.slice ra row.length rc)) (dZ : rdS M 1 ra row.length (row.flatMap ei)) (e8 : row.length ≤ 100) (hin : ∀ i, i < row.length → 0 ≤ Ae row i ∧ Ae row i < 16)
  (key : EV C [0, 1, 4, 5, 6, 7, 8, 9] k' [(0, pv mb 0), (1, vi k), (4, vi 0), (5, vi (Pl row)), (6, pv b9 0)] M ((b9, Cl 141 ((marks row).map vb)) :: x.G mb ps lv)) :
  EV C [0, 1, 4, 5, 6, 7, 8, 9] (.code (.seq (.reg Cp8) (.block 0 (.loop Ac6))) :: k') [(0, pv mb 0), (1, vi k), (4, vi 0), (5, vi (-1)), (6, pv b9 0)] M ((b9, Cl 141 (List.replicate 16 (vb false))) :: x.G mb ps lv) := by
 have dR : x.G mb ps lv = _ := JO x.sf mb ps lv hfv
 rw [dR] at key ⊢
 repeat' first | refine st ?_ | refine rg ?_ | exact ⟨⟩ | fail
 refine JC (fun i : Nat => ([(0, pv mb 0), (1, vi k), (4, vi 0), (5, vi (Pl (row.take i))), (6, pv b9 0), (7, vi i)], M, (b9, Cl 141 ((marks (row.take i)).map vb)) :: (mb, Cl 39 (ps :: lv :: Av x.fb x.frm.length x.frm.length :: Av x.db x.dn.length x.dn.length :: Av x.ob x.ord.length x.ord.length :: .slice none 0 0 :: osv x.sf.oo x.sf.outs.length :: vi x.sf.cnt :: vi 0 :: x.sf.sm)) :: (x.fb, Cl 3 (x.frm.map vi)) :: (x.db, Cl 4 (x.dn.map vb)) :: (x.ob, Cl 34 x.ords) :: osg 34 x.sf.oo x.sf.vs)) (fun i => i ≤ row.length) (fun i => row.length - i) 0 rfl (lA8 _) ?env1 ?sub1 ?_
 case env1 =>
  rw [lDc, Ai4]
  exact eE
 case sub1 =>
  simp only [lDc, Ai2, lEc]
  exact lA0 _
 rintro i hi ih
 dsimp only at hi ih ⊢
 repeat' first | refine st ?_ | refine rg ?_ | (refine lA9 _ (lA9 _ (lA9 _ (lAd (Cw7 bt) ?_))); try refine nx ?_) | (refine cX ?_ ?_ <;> intro h <;> try exact Ai h) | refine ZF ?_ | (refine xsA rfl ?_; try refine nx ?_) | exact ⟨⟩ | fail
 ·have aC : i < row.length := by omega
  have h0 := hin i aC
  obtain ⟨w, cU⟩ : ∃ w : Nat, Ae row i = w := ⟨(Ae row i).toNat, by omega⟩
  rw [cU] at h0
  have qw : w < 16 := by omega
  obtain ⟨rb, ro, rfl, hat⟩ := Sl.at (sz := 1) (enc := ei) (fun _ => rfl) (by decide) dZ (by omega)
  have hw := C2 hat i aC
  change rd M rb (ro + i) 1 [vi (Ae row i)] at hw
  rw [cU] at hw
  have ih2 := ih (i + 1) (by omega) (by omega)
  rw [Pr aC, Ai5, cU, ← Ai1 qw] at ih2
  have gM := Iu (row.take i)
  repeat' first | refine su ?_ | (refine EV.reg ?_; (conv => (arg 2; whnf)); (repeat first | refine nx ?_ | simp only [lA1, Iu])) | refine ZF ?_ | (refine xm ?_; (repeat first | refine nx ?_ | simp only [lA1, Iu])) | (refine xw ?_; (repeat first | refine nx ?_ | simp only [lA1, Iu])) | fail
  rw [Ao vb _ (by omega)]
  repeat' first | fail
  refine JA ih2 ?_ (lA0 _)
  exact eE
 ·have bO : i = row.length := by omega
  subst bO
  rw [lB1]
  refine JA key ?_ (lA0 _)
  exact eE
end
theorem XOk.growOrd {p : List Ev} {e : Exec} (hx : XOk p e) {k : Nat} {row : List Int} (hn : row.Nodup) (hs : ∀ y ∈ row, y ∈ Nu p e.dn k p.length) {a : Int} (ha : a ∈ Nu p e.dn k p.length) (fh : a ∉ row) : (row ++ [a]).Nodup ∧ (∀ y ∈ row ++ [a], y ∈ Nu p e.dn k p.length) ∧ XOk p { e with ord := e.ord.set k (row ++ [a]) } := by
 have h1 : (row ++ [a]).Nodup := by
  rw [lCb]
  refine ⟨hn, by simp, fun x hx y hy h => ?_⟩
  rw [lAk] at hy
  subst h hy
  exact fh hx
 have h2 : ∀ y ∈ row ++ [a], y ∈ Nu p e.dn k p.length := fun y hy => by
  rcases lBa.1 hy with h | h
  ·exact hs y h
  ·rw [lAk] at h; rw [h]; exact ha
 refine ⟨h1, h2, ⟨hx.fl, hx.dl, (lBh).trans hx.ol, hx.fr, fun l hl => ?_, hx.fin⟩⟩
 rcases List.mem_or_eq_of_mem_set hl with h | h
 ·exact hx.oin l h
 ·rw [h]
  refine ⟨fun y hy => ?_, lBk (B6 h1 h2) (Bj _ _)⟩
  obtain ⟨i, hi, _, rfl⟩ := B5.1 (h2 y hy)
  omega
theorem U9 {p : List Ev} {x : SX} {n k : Nat} (hr : x.ord[k]?.getD [] = []) : H1 p x n k (p.length + 1) = Ec p x.exec n k := by
 cases n with
 | zero => rfl
 | succ n => rw [H1, hr]; rfl
theorem Zv (ts : List (List OpV)) (ps lv : Value) (aM : A2 ts = 0) (mb F : Nat) : My ts ps lv mb 0 3 F := by
 intro M x hs bB ok ⟨hx, hf, hfv, _, _, _, _, _, hin, hcnt⟩
 have bL := Th ts ps lv aM mb x hs bB ok hx hf hfv hin hcnt
 refine Con.enter Q79_ok (args := [pv mb 0, vi 3]) (by simp [Q79]) fun w0 => ?_
 simp only [Q79, A9]
 repeat' first | refine st ?_ | refine rg ?_ | (refine cX ?_ ?_ <;> intro h <;> try exact Ai h) | exact ⟨⟩ | fail
 refine Con.run bL ?_
 rintro v4 M4 G4 _ h4
 repeat' first | fail
 (refine rt Q79_ok ?_; try with_reducible exact ⟨⟩)
 exact h4
theorem Zz (ts : List (List OpV)) (ps lv : Value) (aM : A2 ts = 0) (mb n k F : Nat) (eB : My ts ps lv mb n (k + 1) ((Ad ts).length + 1)) (bf : My ts ps lv mb (n + 1) k F) : My ts ps lv mb (n + 1) k (F + 1) := by
 intro M x hs bB ok ⟨hx, hf, hfv, hkn, hrows, hnd, hsub, hF, hin, hcnt⟩
 have aK := hs
 have bK := bB
 have cZ := Ck aM
 have cD : k < 3 := by omega
 have bC : x.ord.length = 3 := ok.ol
 have nN : x.ords.length = 3 := ok.ords
 have bo : k < x.ord.length := by omega
 have hP : k < x.ords.length := by omega
 obtain ⟨ra, rc, gK, qu, dZ⟩ := ok.ord k hP bo
 have erow : x.ord[k]?.getD [] = x.ord[k] := by rw [lA2 bo]; rfl
 have bt : x.ords[k]? = some (.slice ra x.ord[k].length rc) := by rw [lA2 hP, gK]
 have qx : x.ord[k].length ≤ 16 := by have := hx.ordSz (by omega : (Ad ts).length ≤ 16) k cD; rwa [show x.exec.ord[k]?.getD [] = x.ord[k] from erow] at this
 have qy : ∀ i, i < x.ord[k].length → 0 ≤ Ae x.ord[k] i ∧ Ae x.ord[k] i < 16 := fun i hi => by
  have := hx.ordIn k cD i (by rw [show x.exec.ord[k]?.getD [] = x.ord[k] from erow]; exact hi)
  rw [show x.exec.ord[k]?.getD [] = x.ord[k] from erow] at this
  omega
 have fH : H1 (Ad ts) x (n + 1) k (F + 1) = Ar4 (Ad ts) x n k F (Ad ts).length ++ if Je (U8 (Ad ts) x.dn k) (x.ord[k]?.getD []) (Ad ts).length = 0 then Ec (Ad ts) { x.exec with ord := x.ord.set k (x.ord[k]?.getD []) } n (k + 1) else [] := R2 _ _ _ _ _ _
 have ap : ({ x.exec with ord := x.ord.set k (x.ord[k]?.getD []) } : Exec) = x.exec := by rw [erow, List.set_getElem_self]; rfl
 rw [ap] at fH
 rw [fH] at hin hcnt ⊢
 obtain ⟨vs, ac, cH, rfl, dw, aH, hk⟩ := hs
 obtain ⟨la, lc, rfl, aq⟩ := bB
 refine Con.enter Q79_ok (args := [pv mb 0, vi k]) (by simp [Q79]) fun w0 => ?_
 simp only [Q79, A9]
 have af : (Ad ts).length ≤ 16 := by omega
 refine EV.seq ?_
 repeat' first | fail
 refine EV.seq ?_
 repeat' first | refine su ?_ | refine rg ?_ | (refine cX ?_ ?_ <;> intro h <;> try exact Ai h) | exact ⟨⟩ | fail
 refine EV.seq ?_
 repeat' first | refine rg ?_ | exact ⟨⟩ | fail
 refine EV.seq ?_
 repeat' first | refine rg ?_ | exact ⟨⟩ | fail
 refine EV.seq ?_
 repeat' first | refine rg ?_ | (with_reducible intro b; try refine nx ?_) | exact ⟨⟩ | fail
 obtain ⟨b9, rfl⟩ : ∃ x, x = b := ⟨_, rfl⟩
 refine EV.seq ?_
 refine JA (Ww (x := x) (k := k) cD bC hfv bt dZ (by omega) qy ?_) ?_ (lA0 _)
 rotate_left
 ·exact eE
 repeat' first | refine st ?_ | refine rg ?_ | exact ⟨⟩ | fail
 refine JC (fun z : Nat × Aa × SF => ([(0, pv mb 0), (1, vi k), (4, vi (Je (U8 (Ad ts) x.dn k) (x.ord[k]?.getD []) z.1)), (5, vi (Pl x.ord[k])), (6, pv b9 0), (8, vi z.1)], z.2.1, (b9, Cl 141 ((marks x.ord[k]).map vb)) :: (x.now z.2.2).G mb (.slice vs ts.length ac) (.slice la (Ad ts).length lc)))
  (fun z => z.1 ≤ (Ad ts).length ∧ M.le z.2.1 ∧ (x.now z.2.2).Ok (Ad ts) z.2.1 ∧ x.Found (Ad ts) (Ar4 (Ad ts) x n k F z.1) z.2.2) (fun z => (Ad ts).length - z.1) (0, M, x.sf) rfl ⟨lA8 _, Aa.le_refl _, ok, SX.Found.refl x _⟩ ?env1 (lA0 _) ?_
 case env1 =>
  exact eE
 rintro ⟨a, N, r⟩ ⟨ha, aB, okr, bN⟩ ih
 dsimp only at ha aB okr bN ih ⊢
 have hG := fun r : SF => JO r mb (.slice vs ts.length ac) (.slice la (Ad ts).length lc) hfv
 simp only [hG] at ih ⊢
 have au := Tf (aq.mono aB)
 repeat' first | refine st ?_ | refine rg ?_ | (refine cX ?_ ?_ <;> intro h <;> try exact Ai h) | refine ZF ?_ | (refine xsA rfl ?_; try refine nx ?_) | exact ⟨⟩ | fail
 ·have aU : a < (Ad ts).length := by omega
  obtain ⟨pb, po, nJ, dq⟩ := au a aU
  have gJ : rd N pb (po + a * 6 + 1) 5 [vi (evAt (Ad ts) a).op.kind, vi (evAt (Ad ts) a).op.loc, vi (evAt (Ad ts) a).op.v, vi (evAt (Ad ts) a).op.w, vi (evAt (Ad ts) a).op.ord] := dq.pt 1 5 (by omega) rfl
  have hlo : rd N pb (po + a * 6 + 1 + 1) 1 [vi (evAt (Ad ts) a).op.loc] := dq.pt 2 1 (by omega) rfl
  have bF : a < x.dn.length := by have := ok.dl; omega
  have bA : a < x.frm.length := by have := ok.fl; omega
  have gM : a < (marks x.ord[k]).length := by rw [Iu]; omega
  have nO := Tc gM
  have uS : ∀ {G : Own} [At G b9 141 ((marks x.ord[k]).map vb)], rd (N.add G) b9 a 1 [vb (decide ((a : Int) ∈ x.ord[k]))] := fun {G} h => by rw [← nO]; exact Cd (f := vb) gM
  have gB := fun G => (show As _ _ _ (N.add G) _ from Jx (evAt (Ad ts) a).op)
  have edn : Ci x.dn a = x.dn[a] := by rw [Ci, lA2 bF]; rfl
  have efr : Af x.exec a = x.frm[a] := by show x.frm[a]?.getD 0 = _; rw [lA2 bA]; rfl
  subst nJ
  repeat' first | refine su ?_ | refine rg ?_ | with_reducible assumption | (refine JE ?_ (fun hc K' hK => ?_) ?_; rotate_left) | ((first | refine lA9 _ (lAd (uS) ?_) | refine lA9 _ (lAd (Cd (f := vb) bF) ?_) | fail); try refine nx ?_) | (refine cX ?_ ?_ <;> intro h <;> try exact Ai h) | refine ZF ?_ | ((first | refine xm ?_ | refine xsA rfl ?_ | fail); try refine nx ?_) | exact ⟨⟩ | fail
  ·have aP : ¬ (U8 (Ad ts) x.dn k a = true ∧ (a : Int) ∉ x.ord[k]?.getD []) := by
    rw [erow, U8, edn]
    rintro ⟨h1, h2⟩
    simp only [lA6, decide_eq_true_eq] at h1
    rcases h with (h | h) | h
    ·rw [h1.1] at h; cases h
    ·exact h h1.2
    ·exact h2 h
   have hps : Ar4 (Ad ts) x n k F (a + 1) = Ar4 (Ad ts) x n k F a := by
    have := I5 (U8 (Ad ts) x.dn k) (okV (Ad ts) x.exec) (Wv (Ad ts) x n k F) (x.ord[k]?.getD []) a
    rwa [if_neg fun hh => aP ⟨hh.1, hh.2.1⟩, lAa] at this
   have b0 := Lv (U8 (Ad ts) x.dn k) (x.ord[k]?.getD []) a
   rw [if_neg aP] at b0
   have ih2 := ih (a + 1, N, r) ⟨by dsimp only; omega, aB, okr, by dsimp only; rw [hps]; exact bN⟩ (by dsimp only; omega)
   dsimp only at ih2
   rw [b0] at ih2
   refine JA ih2 ?_ (lA0 _)
   exact eE
  ·obtain ⟨⟨iC, fG⟩, lT⟩ := h
   have bX : U8 (Ad ts) x.dn k a = true ∧ (a : Int) ∉ x.ord[k]?.getD [] := ⟨by rw [U8, edn, iC, fG]; simp, by rw [erow]; exact lT⟩
   have hps : Ar4 (Ad ts) x n k F (a + 1) = Ar4 (Ad ts) x n k F a ++ if U8 (Ad ts) x.dn k a = true ∧ (a : Int) ∉ x.ord[k]?.getD [] ∧ okV (Ad ts) x.exec (x.ord[k]?.getD []) a = true then Wv (Ad ts) x n k F a else [] := I5 (U8 (Ad ts) x.dn k) (okV (Ad ts) x.exec) (Wv (Ad ts) x n k F) (x.ord[k]?.getD []) a
   have b0 := Lv (U8 (Ad ts) x.dn k) (x.ord[k]?.getD []) a
   have bV := Yb (U8 (Ad ts) x.dn k) (x.ord[k]?.getD []) a
   rw [if_pos bX] at b0
   have nP : okV (Ad ts) x.exec (x.ord[k]?.getD []) a = (!Cv (evAt (Ad ts) a).op || decide (x.frm[a] = Pl x.ord[k])) := by
    rw [okV, lB2, efr, erow]
   refine EV.seq ?_
   repeat' first | refine rg ?_ | exact ⟨⟩ | fail
   refine EV.seq ?_
   refine EV.seq ?_
   repeat' first | refine su ?_ | refine rg ?_ | with_reducible assumption | (refine JE ?_ (fun hc K' hK => ?_) ?_; rotate_left) | ((first | refine lA9 _ (lAd (Cd (f := vi) bA) ?_) | refine As.call (gB _) ?_ | fail); try refine nx ?_) | (refine cX ?_ ?_ <;> intro h <;> try exact Ai h) | refine ZF ?_ | ((first | refine xm ?_ | refine xsA rfl ?_ | fail); try refine nx ?_) | exact ⟨⟩ | fail
   ·have ae : okV (Ad ts) x.exec (x.ord[k]?.getD []) a = false := by rw [nP]; simp [h.1, h.2]
    rw [if_neg fun hh => (by rw [ae] at hh; exact absurd hh.2.2 (by simp)), lAa] at hps
    have ih2 := ih (a + 1, N, r) ⟨by dsimp only; omega, aB, okr, by dsimp only; rw [hps]; exact bN⟩ (by dsimp only; omega)
    dsimp only at ih2
    rw [b0] at ih2
    refine JA ih2 ?_ (lA0 _)
    exact eE
   ·have ae : okV (Ad ts) x.exec (x.ord[k]?.getD []) a = true := by
     rw [nP]
     rcases h with h | h <;> simp [h]
    rw [if_pos ⟨bX.1, bX.2, ae⟩] at hps
    obtain ⟨pre, bS⟩ : ∃ t, Ar4 (Ad ts) x n k F (Ad ts).length = Ar4 (Ad ts) x n k F (a + 1) ++ t := by
     have := Ps (U8 (Ad ts) x.dn k) (okV (Ad ts) x.exec) (Wv (Ad ts) x n k F) (x.ord[k]?.getD []) (a + 1) ((Ad ts).length - (a + 1))
     rwa [show a + 1 + ((Ad ts).length - (a + 1)) = (Ad ts).length by omega] at this
    have aI : (a : Int) ∈ Nu (Ad ts) x.dn k (Ad ts).length := B5.2 ⟨a, aU, bX.1, rfl⟩
    obtain ⟨q1, q2, q3⟩ := hx.growOrd hnd hsub aI bX.2
    have bn : (x.ord.set k (x.ord[k]?.getD [] ++ [(a : Int)]))[k]?.getD [] = x.ord[k]?.getD [] ++ [(a : Int)] := by rw [List.getElem?_set_self bo]; rfl
    refine JA (Zp (cnt := Je (U8 (Ad ts) x.dn k) (x.ord[k]?.getD []) (a + 1)) (a := a) (last := Pl x.ord[k]) (b9 := b9) (r := r) (aK.mono aB) (bK.mono aB) okr cD bf (fun ords => ?_) (by rw [erow]; omega) ?_) ?_ (by rw [hG]; exact lA0 _)
    rotate_left
    ·rintro M' r' ax ok' ce
     have ih2 := ih (a + 1, M', r') ⟨by dsimp only; omega, Aa.le_trans aB ax, ok', by dsimp only; rw [hps]; exact bN.trans ce⟩ (by dsimp only; omega)
     dsimp only at ih2
     rw [hG]
     repeat' first | refine su ?_ | refine rg ?_ | exact ⟨⟩ | fail
     refine JA ih2 ?_ (lA0 _)
     exact eE
    ·rw [b0]
     exact eE
    have iG : H1 (Ad ts) { x.now r with ord := x.ord.set k (x.ord[k]?.getD [] ++ [(a : Int)]), ords := ords } (n + 1) k F = Wv (Ad ts) x n k F a := by
     rw [H1, Wv]
     dsimp only [SX.now, SX.exec]
     rw [bn]
     simp only [List.set_set]
     rfl
    refine ⟨q3, hf, hfv, hkn, fun j hj => ?_, ?_, ?_, fun _ => ?_, ?_, ?_⟩
    ·show (x.ord.set k _)[j]?.getD [] = []
     rw [List.getElem?_set_ne (by omega)]; exact hrows j hj
    ·show ((x.ord.set k _)[k]?.getD []).Nodup
     rw [bn]; exact q1
    ·show ∀ y ∈ (x.ord.set k _)[k]?.getD [], _
     rw [bn]; exact q2
    ·show _ < ((x.ord.set k _)[k]?.getD []).length + F
     rw [bn, lA4, lC3]
     have := hF (by omega)
     show (Nu (Ad ts) x.dn k (Ad ts).length).length < _
     omega
    ·rw [iG]
     exact fun e he => hin e (lD5 _ (by rw [bS, hps]; exact lD5 _ (lDj _ he)))
    ·rw [iG]
     have h1 := bN.cnt
     rw [lA4, bS, hps, lA4, lA4] at hcnt
     show r.cnt + _ < _
     omega
 all_goals have nM : a = (Ad ts).length := by omega
 all_goals subst nM
 ·have h0 : Je (U8 (Ad ts) x.dn k) (x.ord[k]?.getD []) (Ad ts).length = 0 := by simpa using h
  rw [if_pos h0] at hin hcnt ⊢
  have bs : IntKind.i64.wrap ((k : Int) + 1) = ((k + 1 : Nat) : Int) := (w64 (by omega) (by omega)).trans (by omega)
  have lT : x.ord[k + 1]?.getD [] = [] := hrows (k + 1) (by omega)
  have lC : H1 (Ad ts) (x.now r) n (k + 1) ((Ad ts).length + 1) = Ec (Ad ts) x.exec n (k + 1) := U9 lT
  have hc := eB N (x.now r) (aK.mono aB) (bK.mono aB) okr ⟨hx, hf, hfv, by omega, fun j hj => hrows j (by omega), by rw [show (x.now r).ord[k + 1]?.getD [] = [] from lT]; exact lCe, by rw [show (x.now r).ord[k + 1]?.getD [] = [] from lT]; simp, fun _ => by
   rw [show (x.now r).ord[k + 1]?.getD [] = [] from lT]
   have : (Nu (Ad ts) (x.now r).dn (k + 1 : Nat) (Ad ts).length).length ≤ (Ad ts).length := Bj _ _
   simp only [lC7]; omega, by rw [lC]; exact fun e he => hin e (lDj _ he), by
   rw [lC]
   have := bN.cnt
   rw [lA4] at hcnt
   show r.cnt + _ < _; omega⟩
  rw [lC, hG] at hc
  rw [bs]
  refine Con.callS hc ?_
  rintro v5 M5 G5 gG ⟨_, r5, rfl, ok5, qt⟩
  refine EV.weaken ?_ (fun _ _ h => h) (lAj _ _)
  refine EV.done Q79_ok ?_
  (repeat first | refine nx ?_ | simp only [Q79])
  exact ⟨Aa.le_trans aB gG, r5, rfl, ok5, bN.trans qt⟩
 ·have h0 : Je (U8 (Ad ts) x.dn k) (x.ord[k]?.getD []) (Ad ts).length ≠ 0 := by simpa using h
  rw [if_neg h0, lAa]
  refine EV.weaken (G' := (x.now r).G mb (.slice vs ts.length ac) (.slice la (Ad ts).length lc)) ?_ (fun _ _ h => h) (by rw [hG]; exact lD8 _ _)
  refine EV.done Q79_ok ?_
  (repeat first | refine nx ?_ | simp only [Q79])
  exact ⟨aB, r, rfl, okr, bN⟩
theorem Wx (ts : List (List OpV)) (ps lv : Value) (mb n k : Nat) : My ts ps lv mb (n + 1) k 0 := by
 intro M x hs bB ok h
 have h1 := B6 h.hnd h.hsub
 have := h.hF (by omega)
 omega
theorem J0 (ts : List (List OpV)) (ps lv : Value) (aM : A2 ts = 0) (mb : Nat) : ∀ n k F, k + n = 3 → My ts ps lv mb n k F
 | 0, k, F, h => by
  obtain rfl : k = 3 := by omega
  exact Zv ts ps lv aM mb F
 | n + 1, k, 0, h => Wx ts ps lv mb n k
 | n + 1, k, F + 1, h => Zz ts ps lv aM mb n k F (J0 ts ps lv aM mb n (k + 1) _ (by omega)) (J0 ts ps lv aM mb (n + 1) k F h)
theorem Bd1 {p : List Ev} (hk : ∀ i, i < p.length → 0 ≤ (evAt p i).op.kind ∧ (evAt p i).op.kind ≤ 5) {i : Nat} (hi : i < p.length) {o : Int × Bool} (ho : o ∈ Hx p i) : o.1 < p.length ∧ ((evAt p i).reads = true → -1 ≤ o.1) := by
 rcases Pm.1 ho with ⟨h1, rfl⟩ | ⟨h1, f, hf, h2⟩
 ·refine ⟨by dsimp only; omega, fun h => ?_⟩
  rw [← Fr (hk i hi), h1] at h; cases h
 ·have := (K3.1 h2).1
  exact ⟨by omega, fun _ => by omega⟩
theorem exV_ok {p : List Ev} (hk : ∀ i, i < p.length → 0 ≤ (evAt p i).op.kind ∧ (evAt p i).op.kind ≤ 5) {pre : List (Int × Bool)} (hl : pre.length = p.length) (ho : ∀ i, (h : i < pre.length) → pre[i] ∈ Hx p i) : XOk p (exV pre) := by
 refine ⟨by simp [exV, Rt, hl], by simp [exV, dnV, hl], rfl, fun i hi => ?_, fun l h => ?_, fun _ h => absurd h lB4, lA8 _⟩
 ·have := Bd1 hk hi (ho i (by omega))
  rw [show (exV pre).frm[i]?.getD 0 = pre[i].1 from X3 (e := exV pre) (by omega) rfl]
  exact this
 ·obtain rfl : l = [] := by simpa [exV] using h
  exact ⟨fun _ h => absurd h lB4, lA8 _⟩
theorem Va (e : Exec) (n : Nat) : X2 e (n + 1) = (X2 e n && !(decide (0 ≤ Af e n) && !Ci e.dn (Af e n).toNat)) := by
 simp only [X2, lDp, lDh, lFn, List.all_nil, lEl]
theorem Yd {e : Exec} {n : Nat} : ∀ d, X2 e (n + d) = true → X2 e n = true
 | 0, h => h
 | d + 1, h => by
  rw [← lDa, Va, lA6] at h
  exact Yd d h.1
section
variable {M : Aa}
theorem Vb (ts : List (List OpV)) (ps lv : Value) (aM : A2 ts = 0) (mb : Nat) (x : SX) (hs : Ee M 5 Bb ps ts) (bB : Sl M 6 Hf lv (Ad ts)) (ok : x.Ok (Ad ts) M) (pre : List (Int × Bool)) (bS : pre.length = (Ad ts).length) (cE : x.exec = exV pre) (hfv : x.fenV = .slice none 0 0) (hopt : ∀ i, (h : i < pre.length) → pre[i] ∈ Hx (Ad ts) i)
  (hin : ∀ e ∈ En (Ad ts) pre, e ∈ Ca (Ad ts)) (hcnt : x.cnt + (En (Ad ts) pre).length < 2 ^ 62) :
  Con Tryz.prog 92 #[pv mb 0] M (x.G mb ps lv) (x.Post (Ad ts) (En (Ad ts) pre) mb ps lv M) := by
 have aK := hs
 have bK := bB
 have cZ := Ck aM
 have hp := Ho aM
 have gz := Kr aM
 have hx : XOk (Ad ts) x.exec := by rw [cE]; exact exV_ok gz bS hopt
 have af : (Ad ts).length ≤ 16 := by omega
 have bj : ∀ i, i < (Ad ts).length → Af x.exec i < (Ad ts).length := fun i hi => (hx.fr i hi).1
 have nQ : En (Ad ts) pre = if H0 (Ad ts) x.exec = true then [] else Ec (Ad ts) x.exec 3 0 := by rw [En, cE]
 have iJ : x.fen = [] := congrArg Exec.fen cE
 have mr : x.ord = [[], [], []] := congrArg Exec.ord cE
 have bA : x.frm.length = (Ad ts).length := ok.fl
 have bF : x.dn.length = (Ad ts).length := ok.dl
 rw [nQ] at hin hcnt ⊢
 obtain ⟨vs, ac, cH, rfl, dw, aH, hk⟩ := hs
 obtain ⟨la, lc, rfl, aq⟩ := bB
 have hG := fun r : SF => JO r mb (.slice vs ts.length ac) (.slice la (Ad ts).length lc) hfv
 have dR : x.G mb (.slice vs ts.length ac) (.slice la (Ad ts).length lc) = _ := hG x.sf
 have aP : ∀ w0 F k N, M.le N → H0 (Ad ts) x.exec = true → EV (Cx.fn Tryz.prog 92 103 w0 F M (x.Post (Ad ts) (if H0 (Ad ts) x.exec = true then [] else Ec (Ad ts) x.exec 3 0) mb (.slice vs ts.length ac) (.slice la (Ad ts).length lc) M)) [0, 2, 3, 4, 6, 9] (.code .ret :: k) [] N (x.G mb (.slice vs ts.length ac) (.slice la (Ad ts).length lc)) := fun w0 F k N hN hp => by
  rw [if_pos hp]
  (refine rt Q76_ok ?_; try with_reducible exact ⟨⟩)
  exact ⟨hN, x.sf, rfl, ok.mono hN, SX.Found.refl x _⟩
 refine Con.enter Q76_ok (args := [pv mb 0]) (by simp [Q76]) fun w0 => ?_
 simp only [Q76, A9]
 refine EV.seq ?_
 rw [dR]
 repeat' first | refine st ?_ | refine rg ?_ | exact ⟨⟩ | fail
 refine JC (fun a : Nat => ([(0, pv mb 0), (2, vi a)], M, x.G mb (.slice vs ts.length ac) (.slice la (Ad ts).length lc))) (fun a => a ≤ (Ad ts).length ∧ X2 x.exec a = true) (fun a => (Ad ts).length - a) 0 rfl ⟨lA8 _, rfl⟩ ?env1 (by dsimp only; rw [dR]; exact lA0 _) ?_
 case env1 =>
  exact eE
 rintro a ⟨ha, dd⟩ ih
 dsimp only at ha dd ih ⊢
 rw [dR] at *
 repeat' first | refine st ?_ | refine rg ?_ | (refine cX ?_ ?_ <;> intro h <;> try exact Ai h) | refine ZF ?_ | (refine xsA rfl ?_; try refine nx ?_) | exact ⟨⟩ | fail
 ·have aU : a < (Ad ts).length := by omega
  have fy : a < x.frm.length := by omega
  have efr : Af x.exec a = x.frm[a] := by show x.frm[a]?.getD 0 = _; rw [lA2 fy]; rfl
  have hu := bj a aU
  have iR := Va x.exec a
  rw [dd, lC1] at iR
  rw [efr] at hu iR
  generalize qz : x.frm[a] = fa at *
  have aH : ∀ {G : Own} [At G x.fb 3 (x.frm.map vi)], rd (M.add G) x.fb a 1 [vi fa] := fun {G} h => by rw [← qz]; exact Cd (f := vi) fy
  by_cases h0 : 0 ≤ fa
  ·obtain ⟨u, rfl⟩ : ∃ u : Nat, fa = u := ⟨fa.toNat, by omega⟩
   have sS : u < x.dn.length := by omega
   have edn : Ci x.exec.dn u = x.dn[u] := by rw [Ci]; show x.dn[u]?.getD false = _; rw [lA2 sS]; rfl
   rw [lB2, edn] at iR
   repeat' first | refine st ?_ | (refine EV.reg ?_; (conv => (arg 2; whnf)); (repeat first | refine nx ?_ | simp only [h0])) | with_reducible assumption | ((first | refine lA9 _ (lAd (Cd (f := vb) sS) ?_) | refine lA9 _ (lAd (aH) ?_) | fail); (repeat first | refine nx ?_ | simp only [h0])) | (refine JE ?_ (fun hc K' hK => ?_) ?_; rotate_left) | (refine cX ?_ ?_ <;> intro h <;> try exact Ai h) | refine ZF ?_ | (refine xsA rfl ?_; (repeat first | refine nx ?_ | simp only [h0])) | fail
   ·have aw : H0 (Ad ts) x.exec = true := by
     cases cP : X2 x.exec (Ad ts).length with
     | true =>
      have := Yd (e := x.exec) (n := a + 1) ((Ad ts).length - (a + 1)) (by rw [show a + 1 + ((Ad ts).length - (a + 1)) = (Ad ts).length by omega]; exact cP)
      rw [this, h] at iR
      simp at iR
     | false => rw [H0, cP]; rfl
    exact JA (aP _ _ _ _ (Aa.le_refl _) aw) (fun _ h => nomatch h) (lA0 _)
   ·have iC : x.dn[u] = true := by simpa using h
    refine JA (ih (a + 1) ⟨by omega, by rw [iR, iC]; simp⟩ (by omega)) ?_ (lA0 _)
    exact eE
  ·repeat' first | refine st ?_ | (refine EV.reg ?_; (conv => (arg 2; whnf)); (repeat first | refine nx ?_ | simp only [h0])) | (refine lA9 _ (lAd (aH) ?_); (repeat first | refine nx ?_ | simp only [h0])) | (refine JE ?_ (fun hc K' hK => ?_) ?_; rotate_left) | (refine cX ?_ ?_ <;> intro h <;> try exact Ai h) | (refine xsA rfl ?_; (repeat first | refine nx ?_ | simp only [h0])) | (exfalso; simp at hc; done) | exact false | fail
   refine JA (ih (a + 1) ⟨by omega, by rw [iR, decide_eq_false h0]; simp⟩ (by omega)) ?_ (lA0 _)
   exact eE
 ·have nM : a = (Ad ts).length := by omega
  subst nM
  clear ih
  have hX := ok.isX (mb := mb) (pv := .slice vs ts.length ac) (lv := .slice la (Ad ts).length lc)
  have lS : (.agg x.xV.toArray : Value) = .agg #[Av x.fb x.frm.length x.frm.length, Av x.db x.dn.length x.dn.length, Av x.ob x.ord.length x.ord.length, .slice none 0 0] := by
   simp only [SX.xV, hfv]
  have rA : x.G mb (.slice vs ts.length ac) (.slice la (Ad ts).length lc) = _ := hG x.sf
  rw [lS, rA] at hX
  have lk := Jl (Ad ts) _ (bK.mono (JB M _)) af x.exec _ hX ok.fl bj
  refine EV.any (t := Cc2) _ (lA0 _) ?_
  simp only [An, Aq, Al, Au, reduceIte, Nat.reduceEqDiff]
  repeat' first | ((first | refine zo (fun lq aD => ?_) | refine zl ?_ | fail); try refine nz ?_) | refine zq (fun lq tq aD aA => ?_) | ((with_reducible refine JK lk ?_) ;  rintro v1 M1 G1 ⟨rb, lb, kb, rfl, aG, rfl⟩; try refine nz ?_) | (refine ZB (fun tq aA => ?_) (fun tq aA => ?_) <;> try refine nz ?_) | exact zn | refine zf ?_ | ((first | refine xrA rfl ?_ | refine xsA rfl ?_ | fail); try refine nz ?_) | exact ⟨⟩ | fail
  refine JG ((mb, Cl 39 (.slice vs ts.length ac :: .slice la (Ad ts).length lc :: Av x.fb x.frm.length x.frm.length :: Av x.db x.dn.length x.dn.length :: Av x.ob x.ord.length x.ord.length :: .slice none 0 0 :: osv x.sf.oo x.sf.outs.length :: vi x.sf.cnt :: vi 0 :: x.sf.sm)) :: (x.fb, Cl 3 (x.frm.map vi)) :: (x.db, Cl 4 (x.dn.map vb)) :: (x.ob, Cl 34 x.ords) :: osg 34 x.sf.oo x.sf.vs) ?_
  generalize hR : M.add _ = N
  have aB : M.le N := hR ▸ JB _ _
  have gK : Sl N 1 ei (Av rb (Ad ts).length (Ad ts).length) (Bg (Ad ts) x.exec.frm).r := by
   rw [← hR, ← aG.r]
   exact ⟨_, _, rfl, by rw [Ax]; exact .inr ⟨rb, 0, rfl, B3 (T := 3) (cs := (Bg (Ad ts) x.exec.frm).r.map vi) (by simp) (by rw [lBr, lAx (by simp)]) (by simp)⟩⟩
  have hP : Sl N 1 eb (Av kb (Ad ts).length (Ad ts).length) (Bg (Ad ts) x.exec.frm).k := by
   rw [← hR, ← aG.k]
   exact ⟨_, _, rfl, by rw [Eh]; exact .inr ⟨kb, 0, rfl, B3 (T := 4) (cs := (Bg (Ad ts) x.exec.frm).k.map vb) (by simp) (by rw [lBr, lAx (by simp)]) (by simp)⟩⟩
  clear hR
  have hX := (ok.mono aB).isX (mb := mb) (pv := .slice vs ts.length ac) (lv := .slice la (Ad ts).length lc)
  rw [lS, rA] at hX
  have ah := fun G => (bK.mono aB).mono (JB N G)
  obtain ⟨told, fQ⟩ : ∃ b, b = Tb (Ad ts) x.exec := ⟨_, rfl⟩
  have uT := (Pq (Ad ts) _ (ah _) af x.exec _ hX ok.fl bj).mono fun u M' G' h => (show ∃ a1 a2 a3 b1 b2 b3, u = .tuple #[.slice a1 a2 a3, .slice b1 b2 b3, vb told] from by
   rw [fQ]
   rcases h with ⟨h1, rfl⟩ | ⟨h1, _, _, rfl, ⟨_, _, rfl, _⟩, ⟨_, _, rfl, _⟩⟩
   ·rw [h1]; exact ⟨_, _, _, _, _, _, rfl⟩
   ·rw [h1]; exact ⟨_, _, _, _, _, _, rfl⟩)
  refine EV.seq ?_
  refine EV.any (t := Cc3) _ (lA0 _) ?_
  simp only [An, Aq, Al, Au, reduceIte, Nat.reduceEqDiff]
  repeat' first | ((first | refine zo (fun lq aD => ?_) | refine zl ?_ | fail); try refine nz ?_) | refine zq (fun lq tq aD aA => ?_) | ((with_reducible refine JK uT ?_) ;  rintro v1 M1 G1 ⟨a1, a2, a3, b1, b2, b3, rfl⟩; try refine nz ?_) | (refine ZB (fun tq aA => ?_) (fun tq aA => ?_) <;> try refine nz ?_) | exact zn | refine zf ?_ | ((first | refine xrA rfl ?_ | refine xsA rfl ?_ | fail); try refine nz ?_) | exact ⟨⟩ | fail
  refine JA (ρ' := [(0, pv mb 0), (4, Av rb (Ad ts).length (Ad ts).length), (6, Av kb (Ad ts).length (Ad ts).length), (9, vb told)]) (G' := ((mb, Cl 39 (.slice vs ts.length ac :: .slice la (Ad ts).length lc :: Av x.fb x.frm.length x.frm.length :: Av x.db x.dn.length x.dn.length :: Av x.ob x.ord.length x.ord.length :: .slice none 0 0 :: osv x.sf.oo x.sf.outs.length :: vi x.sf.cnt :: vi 0 :: x.sf.sm)) :: (x.fb, Cl 3 (x.frm.map vi)) :: (x.db, Cl 4 (x.dn.map vb)) :: (x.ob, Cl 34 x.ords) :: osg 34 x.sf.oo x.sf.vs)) ?_ ?_ (lAj _ _)
  rotate_left
  ·exact eE
  refine EV.seq ?_
  refine EV.seq ?_
  obtain ⟨wb, ii⟩ : ∃ b, b = (List.range (Ad ts).length).all (Jc (Ad ts) x.exec) := ⟨_, rfl⟩
  obtain ⟨cb, iU⟩ : ∃ b, b = Bi (B8 (C3 (Uh (Ad ts)) (Hr (Ad ts) x.exec))) := ⟨_, rfl⟩
  have jM : H0 (Ad ts) x.exec = (!told || !wb || cb) := by rw [H0, dd, ii, iU, fQ]; rfl
  have ke := (show As _ _ _ _ _ from U5 (Ad ts) _ (ah _) af x.exec _ hX ok.dl _ _ (gK.mono (JB _ _)) (hP.mono (JB _ _)) aG)
  rw [← ii] at ke
  have gA := fun G => (show As _ _ _ (N.add G) _ from Hv (Ad ts) _ (ah G) af)
  have jH := (show As _ _ _ _ _ from Lu (Ad ts) _ (ah _) af x.exec _ hX ok.fl bj)
  have iQ := thrR_ok (p := Ad ts) af
  have fL := fromR_ok (p := Ad ts) (e := x.exec) af
  have cS := fun G => (show As _ _ _ (N.add G) _ from Fq _ _ iQ fL)
  have eI := fun G => (show As _ _ _ (N.add G) _ from F5 _ (unionR_ok iQ fL))
  have jI : ∀ G, As Tryz.prog 46 #[E0 (B8 (C3 (Uh (Ad ts)) (Hr (Ad ts) x.exec)))] (N.add G) (vb cb) := fun G => by
   rw [iU]; exact Iq _ (unionR_ok iQ fL).close
  have hb : told = false ∨ (told = true ∧ wb = false) ∨ (told = true ∧ wb = true) := by cases told <;> cases wb <;> simp
  refine EV.any (t := Cc4) _ (lA0 _) ?_
  simp only [An, Aq, Al, Au, reduceIte, Nat.reduceEqDiff]
  rcases hb with rfl | ⟨rfl, rfl⟩ | ⟨rfl, rfl⟩
  all_goals
   repeat' first | ((refine ZE ?_ (fun lq aD hc => ?_) (fun lq aD => ?_); rotate_left) <;> (try (exfalso; simp at hc; done)) <;> try refine nz ?_) | ((first | refine zo (fun lq aD => ?_) | refine zl ?_ | fail); try refine nz ?_) | refine zq (fun lq tq aD aA => ?_) | ((first | with_reducible refine As.call ke ?_ | with_reducible refine As.call (gA _) ?_ | with_reducible refine As.call jH ?_ | with_reducible refine As.call (cS _) ?_ | with_reducible refine As.call (eI _) ?_ | with_reducible refine As.call (jI _) ?_ | fail); try refine nz ?_) | (refine ZA (fun tq aA => ?_) (fun tq aA => ?_) <;> try refine nz ?_) | (refine ZB (fun tq aA => ?_) (fun tq aA => ?_) <;> try refine nz ?_) | exact zn | refine zf ?_ | refine ZC (fun tq aA => ?_) | ((refine ZD (fun tq aA h => ?_) (fun tq aA h => ?_)) <;> try (exfalso; simp at h; done)) | with_reducible rfl | ((first | refine xrA rfl ?_ | refine xsA rfl ?_ | refine lAd (Aa.le_refl _) (lAd (Ay ?_) ?_); focus ((repeat' first | exact lA0 _ | exact lAh _ | exact lAj _ _ | refine lAf _ ?_ | refine lAo ?_ _ | refine lAb ?_ | refine lAp _ ?_); done) | fail); try refine nz ?_) | exact false | exact ⟨⟩ | fail
  ·repeat' first | (refine cX ?_ ?_ <;> intro h <;> try exact Ai h) | fail
   exact JA (aP _ _ _ _ aB (by rw [jM]; rfl)) (fun _ h => nomatch h) (lA0 _)
  ·repeat' first | (refine cX ?_ ?_ <;> intro h <;> try exact Ai h) | fail
   exact JA (aP _ _ _ _ aB (by rw [jM]; rfl)) (fun _ h => nomatch h) (lA0 _)
  cases cb with
  | true =>
   repeat' first | (refine cX ?_ ?_ <;> intro h <;> try exact Ai h) | fail
   exact JA (aP _ _ _ _ aB (by rw [jM]; rfl)) (fun _ h => nomatch h) (lA0 _)
  | false =>
   have nR : H0 (Ad ts) x.exec = false := by rw [jM]; rfl
   rw [if_neg (by rw [nR]; exact lFl)] at hin hcnt
   have lf : x.ord[0]?.getD [] = [] := by rw [mr]; rfl
   have lC : H1 (Ad ts) x 3 0 ((Ad ts).length + 1) = Ec (Ad ts) x.exec 3 0 := U9 lf
   have hc := J0 ts _ _ aM mb 3 0 ((Ad ts).length + 1) rfl N x (aK.mono aB) (bK.mono aB) (ok.mono aB) ⟨hx, iJ, hfv, rfl, fun j hj => by
    rw [mr]
    match j, hj with
    | 1, _ => rfl
    | 2, _ => rfl
    | j + 3, _ => rfl, by rw [lf]; exact lCe, by rw [lf]; simp, fun _ => by
    rw [lf]
    have : (Nu (Ad ts) x.dn (0 : Nat) (Ad ts).length).length ≤ (Ad ts).length := Bj _ _
    simp only [lC7]; omega, by rw [lC]; exact hin, by rw [lC]; exact hcnt⟩
   rw [lC, rA] at hc
   repeat' first | refine su ?_ | refine rg ?_ | (refine cX ?_ ?_ <;> intro h <;> try exact Ai h) | exact ⟨⟩ | fail
   refine Con.run hc ?_
   rintro v4 M4 G4 _ ⟨cO, h4⟩
   repeat' first | fail
   refine EV.done Q76_ok ?_
   (repeat first | refine nx ?_ | simp only [Q76])
   rw [nR]
   exact ⟨Aa.le_trans aB cO, h4⟩
end
def SX.mid (x : SX) (fr : List Int) (dn : List Bool) (r : SF) : SX := { x with frm := fr, dn := dn, outs := r.outs, cnt := r.cnt, oo := r.oo, vs := r.vs, sm := r.sm }
theorem JV {x : SX} (fr : List Int) (dn : List Bool) (r : SF) (mb : Nat) (ps lv : Value) {na : Option Addr} {n nc : Nat} (h : x.fenV = .slice na n nc) : (x.mid fr dn r).G mb ps lv = (mb, Cl 39 (ps :: lv :: Av x.fb fr.length fr.length :: Av x.db dn.length dn.length :: Av x.ob x.ord.length x.ord.length :: .slice na n nc :: osv r.oo r.outs.length :: vi r.cnt :: vi 0 :: r.sm)) :: (x.fb, Cl 3 (fr.map vi)) :: (x.db, Cl 4 (dn.map vb)) :: (x.ob, Cl 34 x.ords) :: osg 34 r.oo r.vs := by
 rw [JR]
 show _ :: _ = _
 simp only [SX.mid, h]
def SX.PostC (x : SX) (p : List Ev) (l : List Exec) (at_ : Nat) (mb : Nat) (pv lv : Value) (M : Aa) : Value → Aa → Own → Prop :=
 fun _ M' G' => M.le M' ∧ ∃ fr dn r, fr.take at_ = x.frm.take at_ ∧ dn.take at_ = x.dn.take at_ ∧ G' = (x.mid fr dn r).G mb pv lv ∧ (x.mid fr dn r).Ok p M' ∧ x.Found p l r
structure ChoosePre (p : List Ev) (x : SX) (pre : List (Int × Bool)) (n : Nat) : Prop where
 hl : pre.length + n = p.length
 hf : x.frm.take pre.length = Rt pre
 hd : x.dn.take pre.length = dnV pre
 hopt : ∀ i, (h : i < pre.length) → pre[i] ∈ Hx p i
 ho : x.ord = [[], [], []]
 hfe : x.fen = []
 hfv : x.fenV = .slice none 0 0
 hin : ∀ e ∈ Ch p n pre, e ∈ Ca p
 hcnt : x.cnt + (Ch p n pre).length < 2 ^ 62
def Lw (ts : List (List OpV)) (ps lv : Value) (mb n : Nat) : Prop :=
 ∀ (M : Aa) (x : SX) (pre : List (Int × Bool)), Ee M 5 Bb ps ts → Sl M 6 Hf lv (Ad ts) → x.Ok (Ad ts) M → ChoosePre (Ad ts) x pre n →
  Con Tryz.prog 40 #[pv mb 0, vi pre.length] M (x.G mb ps lv) (x.PostC (Ad ts) (Ch (Ad ts) n pre) pre.length mb ps lv M)
theorem K6 {α : Type} {l : List α} {n : Nat} (h : n < l.length) (a : α) : (l.set n a).take (n + 1) = l.take n ++ [a] := by
 rw [lA7 (by rw [lBh]; exact h), lDi, lCx (lA5 n)]
section
variable {M : Aa}
theorem Pu {C : Cx Tryz.prog} {K : Value → Aa → Own → Prop} {ts : List (List OpV)} {ps lv : Value} {mb n b4 : Nat} {c4 : List Value} {x : SX} {fr : List Int} {dn : List Bool} {r : SF} {pre : List (Int × Bool)} {o : Int × Bool} (hs : Ee M 5 Bb ps ts) (bB : Sl M 6 Hf lv (Ad ts)) (bf : Lw ts ps lv mb n)
  (ok : (x.mid fr dn r).Ok (Ad ts) M) (hl : pre.length + (n + 1) = (Ad ts).length) (hf : fr.take pre.length = Rt pre) (hd : dn.take pre.length = dnV pre) (hopt : ∀ i, (h : i < pre.length) → pre[i] ∈ Hx (Ad ts) i) (ho : x.ord = [[], [], []]) (hfe : x.fen = []) (hfv : x.fenV = .slice none 0 0)
  (fj : o ∈ Hx (Ad ts) pre.length) (hin : ∀ e ∈ Ch (Ad ts) n (pre ++ [o]), e ∈ Ca (Ad ts)) (hcnt : r.cnt + (Ch (Ad ts) n (pre ++ [o])).length < 2 ^ 62)
  (hK : ∀ v M' fr' dn' r', M.le M' → fr'.take pre.length = Rt pre → dn'.take pre.length = dnV pre → (x.mid fr' dn' r').Ok (Ad ts) M' → (x.now r).Found (Ad ts) (Ch (Ad ts) n (pre ++ [o])) r' → K v M' ((b4, Cl 83 c4) :: (x.mid fr' dn' r').G mb ps lv)) :
  Dc C 40 #[pv mb 0, vi (pre.length + 1 : Nat)] M ((b4, Cl 83 c4) :: (x.mid (fr.set pre.length o.1) (dn.set pre.length o.2) r).G mb ps lv) K := by
 have bA : fr.length = (Ad ts).length := ok.fl
 have bF : dn.length = (Ad ts).length := ok.dl
 have hc := bf M (x.mid (fr.set pre.length o.1) (dn.set pre.length o.2) r) (pre ++ [o]) hs bB
  ⟨(lBh).trans bA, (lBh).trans bF, ok.ol, ok.ords, ok.ord, ok.fen, ok.oo, ok.vs, ok.asc, ok.out, ok.sl⟩
  ⟨by rw [lA4, lC3]; omega, by
   show (fr.set _ _).take _ = _
   rw [lA4, lC3, K6 (by omega), hf]; simp [Rt], by
   show (dn.set _ _).take _ = _
   rw [lA4, lC3, K6 (by omega), hd]; simp [dnV], fun i hi => by
   by_cases h : i < pre.length
   ·rw [lCq h]; exact hopt i h
   ·obtain rfl : i = pre.length := by simp at hi; omega
    rw [lCm (lA5 _)]
    simpa using fj, ho, hfe, hfv, hin, hcnt⟩
 rw [lA4, lC3] at hc
 refine Con.callA hc (G2 := [(b4, Cl 83 c4)]) (lBq (l₁ := [_])) ?_
 rintro v M' G' ax ⟨_, fr', dn', r', h1, h2, rfl, h4, h5⟩
 have e1 : fr'.take pre.length = Rt pre := by
  have := congrArg (List.take pre.length) h1
  rw [lDb, lDb, lBx (by omega)] at this
  rw [this, ← hf]
  exact lCx (lA5 _)
 have e2 : dn'.take pre.length = dnV pre := by
  have := congrArg (List.take pre.length) h2
  rw [lDb, lDb, lBx (by omega)] at this
  rw [this, ← hd]
  exact lCx (lA5 _)
 exact hK v M' fr' dn' r' ax e1 e2 h4 ⟨h5.outs, h5.cnt⟩
end
theorem Wy (ts : List (List OpV)) (ps lv : Value) (aM : A2 ts = 0) (mb : Nat) : Lw ts ps lv mb 0 := by
 intro M x pre hs bB ok ⟨hl, hf, hd, hopt, ho, hfe, hfv, hin, hcnt⟩
 have bK := bB
 have bA : x.frm.length = (Ad ts).length := ok.fl
 have bF : x.dn.length = (Ad ts).length := ok.dl
 have eg : pre.length = (Ad ts).length := hl
 rw [lAx (by omega)] at hf hd
 have cE : x.exec = exV pre := by
  show (⟨x.frm, x.dn, x.ord, x.fen⟩ : Exec) = _
  rw [hf, hd, ho, hfe]; rfl
 have cZ := Ck aM
 have hc := Vb ts ps lv aM mb x hs bB ok pre eg cE hfv hopt hin hcnt
 obtain ⟨la, lc, rfl, aq⟩ := bB
 have dR : x.G mb ps (.slice la (Ad ts).length lc) = _ := JO x.sf mb ps (.slice la (Ad ts).length lc) hfv
 refine Con.enter Q75_ok (args := [pv mb 0, vi pre.length]) (by simp [Q75]) fun w0 => ?_
 simp only [Q75, A9]
 rw [eg]
 rw [dR] at hc ⊢
 repeat' first | refine st ?_ | refine rg ?_ | (refine cX ?_ ?_ <;> intro h <;> try exact Ai h) | (refine xsA rfl ?_; try refine nx ?_) | exact ⟨⟩ | fail
 refine Con.run hc ?_
 rintro v4 M4 G4 _ ⟨cO, r, rfl, ok4, h4⟩
 repeat' first | fail
 (refine rt Q75_ok ?_; try with_reducible exact ⟨⟩)
 exact ⟨cO, x.frm, x.dn, r, rfl, rfl, rfl, ok4, h4⟩
theorem Wz {P : Program} {C : Cx P} {ρ : Env} {M : Aa} {G : Own} {KQ : Env → Prop} {l : QL} {s : Nat} {want : Bool} {body : QL} {m d : Nat} {last : A} {rest : QL} (e0 : l = .g s want body m d last rest) (hc : get ρ s = some (.bool (!want))) (h2 : ∀ l', l' = rest → J2 C l' ((d, .bool (!want)) :: ρ) M G KQ) : J2 C l ρ M G KQ := by
 refine Fe8 e0 hc false (fun l' _ h => absurd h (by cases want <;> simp)) (fun l' h => ?_)
 have := h2 l' h
 cases want <;> exact this
def W0 (p : List Ev) (i : Nat) (f : Int) (d : Nat) : List (Int × Bool) := (List.range d).flatMap fun d => if (evAt p i).op.kind < 3 ∧ d = 1 then [] else [(f, A1 (evAt p i).op && decide (d = 0))]
theorem K7 (p : List Ev) (i : Nat) (f : Int) (d : Nat) : W0 p i f (d + 1) = W0 p i f d ++ if (evAt p i).op.kind < 3 ∧ d = 1 then [] else [(f, A1 (evAt p i).op && decide (d = 0))] := by
 simp only [W0, lDp, lAy, lC4, lDt, lAa]
theorem An7 (p : List Ev) (i : Nat) (f : Int) : W0 p i f 2 = if (evAt p i).op.kind < 3 then [(f, A1 (evAt p i).op)] else [(f, A1 (evAt p i).op), (f, false)] := by
 rw [K7, K7]
 by_cases h : (evAt p i).op.kind < 3
 ·simp [W0, h]
 ·simp [W0, h]
abbrev goC (p : List Ev) (n : Nat) (pre : List (Int × Bool)) (o : Int × Bool) : List Exec := Ch p n (pre ++ [o])
section
variable {M : Aa}
theorem Vc {C : Cx Tryz.prog} {k' : List RItem} {ts : List (List OpV)} {ps lv : Value} {mb n b4 : Nat} {x : SX} {fr : List Int} {dn : List Bool} {r : SF} {pre : List (Int × Bool)} {f : Int} (hs : Ee M 5 Bb ps ts) (bB : Sl M 6 Hf lv (Ad ts)) (bf : Lw ts ps lv mb n) (cZ : (Ad ts).length ≤ 14)
  (ok : (x.mid fr dn r).Ok (Ad ts) M) (hl : pre.length + (n + 1) = (Ad ts).length) (hf : fr.take pre.length = Rt pre) (hd : dn.take pre.length = dnV pre) (hopt : ∀ i, (h : i < pre.length) → pre[i] ∈ Hx (Ad ts) i) (ho : x.ord = [[], [], []]) (hfe : x.fen = []) (hfv : x.fenV = .slice none 0 0)
  (fj : ∀ o ∈ W0 (Ad ts) pre.length f 2, o ∈ Hx (Ad ts) pre.length) (hin : ∀ e ∈ (W0 (Ad ts) pre.length f 2).flatMap (goC (Ad ts) n pre), e ∈ Ca (Ad ts)) (hcnt : r.cnt + ((W0 (Ad ts) pre.length f 2).flatMap (goC (Ad ts) n pre)).length < 2 ^ 62)
  (key : ∀ M' fr' dn' r', M.le M' → fr'.take pre.length = Rt pre → dn'.take pre.length = dnV pre → (x.mid fr' dn' r').Ok (Ad ts) M' → (x.now r).Found (Ad ts) ((W0 (Ad ts) pre.length f 2).flatMap (goC (Ad ts) n pre)) r' →
   EV C [0, 1, 4, 5, 6] k' [(0, pv mb 0), (1, vi pre.length), (4, pv b4 0), (5, vi f)] M' ((b4, Cl 83 [vi (evAt (Ad ts) pre.length).op.kind, vi (evAt (Ad ts) pre.length).op.loc, vi (evAt (Ad ts) pre.length).op.v, vi (evAt (Ad ts) pre.length).op.w, vi (evAt (Ad ts) pre.length).op.ord]) :: (x.mid fr' dn' r').G mb ps lv)) :
  EV C [0, 1, 4, 5, 6] (.code (.seq (.reg Ao5) (.block 2 (.loop Ab9))) :: k') [(0, pv mb 0), (1, vi pre.length), (4, pv b4 0), (5, vi f)] M ((b4, Cl 83 [vi (evAt (Ad ts) pre.length).op.kind, vi (evAt (Ad ts) pre.length).op.loc, vi (evAt (Ad ts) pre.length).op.v, vi (evAt (Ad ts) pre.length).op.w, vi (evAt (Ad ts) pre.length).op.ord]) :: (x.mid fr dn r).G mb ps lv) := by
 repeat' first | refine st ?_ | refine rg ?_ | exact ⟨⟩ | fail
 refine JC (fun z : Nat × Aa × List Int × List Bool × SF => ([(0, pv mb 0), (1, vi pre.length), (4, pv b4 0), (5, vi f), (6, vi z.1)], z.2.1, (b4, Cl 83 [vi (evAt (Ad ts) pre.length).op.kind, vi (evAt (Ad ts) pre.length).op.loc, vi (evAt (Ad ts) pre.length).op.v, vi (evAt (Ad ts) pre.length).op.w, vi (evAt (Ad ts) pre.length).op.ord]) :: (x.mid z.2.2.1 z.2.2.2.1 z.2.2.2.2).G mb ps lv))
  (fun z => z.1 ≤ 2 ∧ M.le z.2.1 ∧ z.2.2.1.take pre.length = Rt pre ∧ z.2.2.2.1.take pre.length = dnV pre ∧ (x.mid z.2.2.1 z.2.2.2.1 z.2.2.2.2).Ok (Ad ts) z.2.1 ∧ (x.now r).Found (Ad ts) ((W0 (Ad ts) pre.length f z.1).flatMap (goC (Ad ts) n pre)) z.2.2.2.2) (fun z => 2 - z.1) (0, M, fr, dn, r) rfl ⟨lA8 _, Aa.le_refl _, hf, hd, ok, ⟨rfl, rfl⟩⟩ ?env1 (lA0 _) ?_
 case env1 =>
  exact eE
 rintro ⟨d, N, fr2, dn2, r2⟩ ⟨eX, aB, fp, jN, ok2, hZ⟩ ih
 dsimp only at eX aB fp jN ok2 hZ ih ⊢
 have bA : fr2.length = (Ad ts).length := ok2.fl
 have bF : dn2.length = (Ad ts).length := ok2.dl
 have fy : pre.length < fr2.length := by omega
 have jD : pre.length < dn2.length := by omega
 obtain ⟨la, lc, rfl, aq⟩ := bB
 have hG := fun fr dn r => JV (x := x) fr dn r mb ps (.slice la (Ad ts).length lc) hfv
 have jO := fun G => (show As _ _ _ (N.add G) _ from Ir (evAt (Ad ts) pre.length).op)
 have gD := K7 (Ad ts) pre.length f d
 rw [hG]
 repeat' first | refine st ?_ | (refine EV.reg ?_; (conv => (arg 2; whnf)); (repeat first | refine nx ?_ | simp only [lA1, Ao vi fr2 fy])) | with_reducible assumption | (refine JE ?_ (fun hc K' hK => ?_) ?_; rotate_left) | (refine cX ?_ ?_ <;> intro h <;> try exact Ai h) | refine ZF ?_ | ((first | refine xiA rfl ?_ | refine xsA rfl ?_ | fail); (repeat first | refine nx ?_ | simp only [lA1, Ao vi fr2 fy])) | (refine xw ?_; (repeat first | refine nx ?_ | simp only [lA1, Ao vi fr2 fy])) | fail
 ·have iC : d = 1 := by omega
  rw [if_pos ⟨h.1, iC⟩, lAa] at gD
  have ih2 := ih (d + 1, N, fr2, dn2, r2) ⟨by dsimp only; omega, aB, fp, jN, ok2, by dsimp only; rw [gD]; exact hZ⟩ (by dsimp only; omega)
  dsimp only at ih2
  rw [hG] at ih2
  refine JA ih2 ?_ (lA0 _)
  exact eE
 ·have uU : d < 2 := by omega
  rw [if_neg (fun hh => h.elim (fun h => h hh.1) fun h => h (by omega))] at gD
  obtain ⟨t, ht⟩ : ∃ t, W0 (Ad ts) pre.length f 2 = W0 (Ad ts) pre.length f (d + 1) ++ t := by
   rcases (by omega : d = 0 ∨ d = 1) with rfl | rfl
   ·exact ⟨_, K7 _ _ _ 1⟩
   ·exact ⟨[], (lAa _).symm⟩
  rw [gD] at ht
  obtain ⟨wb, ii⟩ : ∃ b, b = A1 (evAt (Ad ts) pre.length).op := ⟨_, rfl⟩
  rw [← ii] at jO gD ht
  have uV : decide ((d : Int) = 0) = decide (d = 0) := by
   by_cases h0 : d = 0
   ·subst h0; rfl
   ·rw [decide_eq_false h0, decide_eq_false (by omega)]
  have ji : (f, wb && decide (d = 0)) ∈ W0 (Ad ts) pre.length f 2 := by rw [ht]; simp
  refine EV.any (t := Ao6) _ (lA0 _) ?_
  simp only [An, Aq, Al, Au, reduceIte, Nat.reduceEqDiff]
  repeat' first | ((refine ZE ?_ (fun lq aD hc => ?_) (fun lq aD => ?_); rotate_left) <;> (try (exfalso; simp at hc; done)) <;> try refine nz ?_) | ((first | refine zo (fun lq aD => ?_) | refine zl ?_ | refine lA9 _ (lAd (jO _) ?_) | fail); try refine nz ?_) | (refine ZB (fun tq aA => ?_) (fun tq aA => ?_) <;> try refine nz ?_) | exact zn | with_reducible rfl | refine ZF ?_ | ((first | refine xrA rfl ?_ | refine xsA rfl ?_ | refine xw ?_ | fail); try refine nz ?_) | exact ⟨⟩ | fail
  rw [uV]
  refine ⟨by rw [lA1]; omega, ?_⟩
  rw [Ao vb dn2 jD]
  repeat' first | (refine zl ?_; try refine nz ?_) | refine zq (fun lq tq aD aA => ?_) | refine zf ?_ | exact ⟨⟩ | fail
  repeat' first | refine rg ?_ | exact ⟨⟩ | fail
  have aT : IntKind.i64.wrap ((pre.length : Int) + 1) = ((pre.length + 1 : Nat) : Int) := (w64 (by omega) (by omega)).trans (by omega)
  rw [aT]
  have nS := hG (fr2.set pre.length f) (dn2.set pre.length (wb && decide (d = 0))) r2
  rw [lBh, lBh] at nS
  rw [← nS]
  refine Pu (o := (f, wb && decide (d = 0))) (hs.mono aB) (Sl.mono aB ⟨la, lc, rfl, aq⟩) bf ok2 hl fp jN hopt ho hfe hfv (fj _ ji) (fun e he => hin e (lB3.2 ⟨_, ji, he⟩)) ?_ ?_
  ·have h1 := hZ.cnt
   rw [ht, lAy, lAy, lA4, lA4, lC4, lDt, lAa] at hcnt
   change r2.cnt = r.cnt + _ at h1
   change r2.cnt + (goC (Ad ts) n pre (f, wb && decide (d = 0))).length < _
   omega
  ·intro v M' fr' dn' r' ax e1 e2 ok' ce
   repeat' first | refine su ?_ | refine rg ?_ | exact ⟨⟩ | fail
   have ih2 := ih (d + 1, M', fr', dn', r') ⟨by dsimp only; omega, Aa.le_trans aB ax, e1, e2, ok', by
    dsimp only
    rw [gD, lAy, lC4, lDt, lAa]
    exact SX.Found.trans (x := x.now r) hZ ⟨ce.outs, ce.cnt⟩⟩ (by dsimp only; omega)
   dsimp only at ih2
   refine JA ih2 ?_ (lA0 _)
   exact eE
 ·have rB : d = 2 := by omega
  subst rB
  have kk := key N fr2 dn2 r2 aB fp jN ok2 hZ
  rw [hG] at kk
  refine JA kk ?_ (lA0 _)
  exact eE
end
section
theorem W1 (ts : List (List OpV)) (ps lv : Value) (aM : A2 ts = 0) (mb n : Nat) (bf : Lw ts ps lv mb n) : Lw ts ps lv mb (n + 1) := by
 intro M x pre hs bB ok ⟨hl, hf, hd, hopt, ho, hfe, hfv, hin, hcnt⟩
 have aK := hs
 have bK := bB
 have cZ := Ck aM
 have gz := Kr aM
 have bA : x.frm.length = (Ad ts).length := ok.fl
 have bF : x.dn.length = (Ad ts).length := ok.dl
 obtain ⟨a, nT⟩ : ∃ a, a = pre.length := ⟨_, rfl⟩
 have ha : a < (Ad ts).length := by omega
 obtain ⟨la, lc, rfl, aq⟩ := bB
 have dR : x.G mb ps (.slice la (Ad ts).length lc) = _ := JO x.sf mb ps (.slice la (Ad ts).length lc) hfv
 have au := Tf aq
 obtain ⟨pb, po, nJ, dq⟩ := au a ha
 have gJ : rd M pb (po + a * 6 + 1) 5 [vi (evAt (Ad ts) a).op.kind, vi (evAt (Ad ts) a).op.loc, vi (evAt (Ad ts) a).op.v, vi (evAt (Ad ts) a).op.w, vi (evAt (Ad ts) a).op.ord] := dq.pt 1 5 (by omega) rfl
 have jO := fun G => (show As _ _ _ (M.add G) _ from Ir (evAt (Ad ts) a).op)
 have gB := fun G => (show As _ _ _ (M.add G) _ from Jx (evAt (Ad ts) a).op)
 have fy : a < x.frm.length := by omega
 have jD : a < x.dn.length := by omega
 rw [← nT]
 refine Con.enter Q75_ok (args := [pv mb 0, vi a]) (by simp [Q75]) fun w0 => ?_
 simp only [Q75, A9]
 rw [dR]
 subst nJ
 repeat' first | refine st ?_ | (refine EV.reg ?_; (conv => (arg 2; whnf)); (repeat first | refine nx ?_ | simp only [lA1, Ao vi x.frm fy, Ao vb x.dn jD])) | (refine cX ?_ ?_ <;> intro h <;> try exact Ai h) | (with_reducible intro b; (repeat first | refine nx ?_ | simp only [lA1, Ao vi x.frm fy, Ao vb x.dn jD])) | refine ZF ?_ | ((first | refine xm ?_ | refine xsA rfl ?_ | fail); (repeat first | refine nx ?_ | simp only [lA1, Ao vi x.frm fy, Ao vb x.dn jD])) | (refine xw ?_; (repeat first | refine nx ?_ | simp only [lA1, Ao vi x.frm fy, Ao vb x.dn jD])) | fail
 obtain ⟨b4, rfl⟩ : ∃ x, x = b := ⟨_, rfl⟩
 refine EV.any (t := Bk8) _ (lA0 _) ?_
 simp only [An, Aq, Al, Au, reduceIte, Nat.reduceEqDiff]
 repeat' first | ((first | refine zo (fun lq aD => ?_) | refine zl ?_ | refine lA9 _ (lAd (jO _) ?_) | fail); try refine nz ?_) | (refine ZB (fun tq aA => ?_) (fun tq aA => ?_) <;> try refine nz ?_) | exact zn | refine ZF ?_ | ((first | refine xrA rfl ?_ | refine xsA rfl ?_ | refine xw ?_ | fail); try refine nz ?_) | exact ⟨⟩ | fail
 refine ⟨by rw [lA1]; omega, ?_⟩
 rw [Ao vb x.dn jD]
 repeat' first | (refine zl ?_; try refine nz ?_) | refine zq (fun lq tq aD aA => ?_) | refine zf ?_ | exact ⟨⟩ | fail
 repeat' first | refine st ?_ | refine rg ?_ | (refine As.call (gB _) ?_; try refine nx ?_) | (refine cX ?_ ?_ <;> intro h <;> try exact Ai h) | (refine xrA rfl ?_; try refine nx ?_) | exact ⟨⟩ | fail
 ·have hop : Hx (Ad ts) pre.length = [(-2, A1 (evAt (Ad ts) a).op)] := by rw [← nT, Hx, if_pos h]
  have nQ : Ch (Ad ts) (n + 1) pre = Ch (Ad ts) n (pre ++ [(-2, A1 (evAt (Ad ts) a).op)]) := by rw [Ch, hop, lC4, lDt, lAa]
  rw [nQ] at hin hcnt ⊢
  subst nT
  have aT : IntKind.i64.wrap ((pre.length : Int) + 1) = ((pre.length + 1 : Nat) : Int) := (w64 (by omega) (by omega)).trans (by omega)
  have nS := JV (x := x) (x.frm.set pre.length (-2)) (x.dn.set pre.length (A1 (evAt (Ad ts) pre.length).op)) x.sf mb ps (.slice (some ⟨pb, po, none⟩) (Ad ts).length lc) hfv
  rw [lBh, lBh] at nS
  rw [aT, ← nS]
  refine Pu (x := x) (fr := x.frm) (dn := x.dn) (r := x.sf) (o := (-2, A1 (evAt (Ad ts) pre.length).op)) aK bK bf ok (by omega) hf hd hopt ho hfe hfv (by rw [hop]; exact lCk _) hin hcnt ?_
  intro v M' fr' dn' r' ax e1 e2 ok' ce
  refine EV.weaken ?_ (fun _ _ h => h) (lD8 _ _)
  (refine rt Q75_ok ?_; try with_reducible exact ⟨⟩)
  exact ⟨ax, fr', dn', r', e1.trans hf.symm, e2.trans hd.symm, rfl, ok', ce⟩
 ·have hop : Hx (Ad ts) pre.length = (List.range ((Ad ts).length + 1)).flatMap (Vh (Ad ts) pre.length) := by rw [← nT, Hx, if_neg (by rw [h]; simp)]
  have nQ : Ch (Ad ts) (n + 1) pre = ((List.range ((Ad ts).length + 1)).flatMap (Vh (Ad ts) pre.length)).flatMap (goC (Ad ts) n pre) := by rw [Ch, hop]
  have hG := fun fr dn r => JV (x := x) fr dn r mb ps (.slice (some ⟨pb, po, none⟩) (Ad ts).length lc) hfv
  have gU : ∀ m, m ≤ (Ad ts).length + 1 → ∃ t, (List.range ((Ad ts).length + 1)).flatMap (Vh (Ad ts) pre.length) = (List.range m).flatMap (Vh (Ad ts) pre.length) ++ t := fun m hm => by
   refine ⟨((List.range ((Ad ts).length + 1)).drop m).flatMap (Vh (Ad ts) pre.length), ?_⟩
   have h1 : (List.range ((Ad ts).length + 1)).take m = List.range m := by rw [List.take_range, lBx hm]
   rw [← h1, ← lAy, lEg]
  rw [nQ] at hin hcnt ⊢
  subst nT
  refine JC (fun z : Nat × Aa × List Int × List Bool × SF => ([(0, pv mb 0), (1, vi pre.length), (4, pv b4 0), (5, vi ((z.1 : Int) - 1))], z.2.1, (b4, Cl 83 [vi (evAt (Ad ts) pre.length).op.kind, vi (evAt (Ad ts) pre.length).op.loc, vi (evAt (Ad ts) pre.length).op.v, vi (evAt (Ad ts) pre.length).op.w, vi (evAt (Ad ts) pre.length).op.ord]) :: (x.mid z.2.2.1 z.2.2.2.1 z.2.2.2.2).G mb ps (.slice (some ⟨pb, po, none⟩) (Ad ts).length lc)))
   (fun z => z.1 ≤ (Ad ts).length + 1 ∧ M.le z.2.1 ∧ z.2.2.1.take pre.length = Rt pre ∧ z.2.2.2.1.take pre.length = dnV pre ∧ (x.mid z.2.2.1 z.2.2.2.1 z.2.2.2.2).Ok (Ad ts) z.2.1 ∧ x.Found (Ad ts) (((List.range z.1).flatMap (Vh (Ad ts) pre.length)).flatMap (goC (Ad ts) n pre)) z.2.2.2.2) (fun z => (Ad ts).length + 1 - z.1) (0, M, x.frm.set pre.length (-2), x.dn.set pre.length (A1 (evAt (Ad ts) pre.length).op), x.sf) rfl
   ⟨lA8 _, Aa.le_refl _, (lCx (lA5 _)).trans hf, (lCx (lA5 _)).trans hd, ⟨(lBh).trans bA, (lBh).trans bF, ok.ol, ok.ords, ok.ord, ok.fen, ok.oo, ok.vs, ok.asc, ok.out, ok.sl⟩, SX.Found.refl x _⟩ ?env1 (by dsimp only; rw [hG, lBh, lBh]; exact lA0 _) ?_
  case env1 =>
   exact eE
  rintro ⟨m, N, fr, dn, r⟩ ⟨hm, aB, fp, eX, ok2, bN⟩ ih
  dsimp only at hm aB fp eX ok2 bN ih ⊢
  rw [hG]
  repeat' first | refine st ?_ | refine rg ?_ | (refine cX ?_ ?_ <;> intro h <;> try exact Ai h) | (refine xsA rfl ?_; try refine nx ?_) | exact ⟨⟩ | fail
  ·have rM : m ≤ (Ad ts).length := by omega
   obtain ⟨t, ht⟩ := gU (m + 1) (by omega)
   obtain ⟨sk, jP⟩ : ∃ b, b = decide ((m : Int) - 1 = pre.length ∨ (0 < m ∧ (A1 (evAt (Ad ts) (m - 1)).op = false ∨ (evAt (Ad ts) (m - 1)).op.loc ≠ (evAt (Ad ts) pre.length).op.loc))) := ⟨_, rfl⟩
   have nU : Vh (Ad ts) pre.length m = if sk = true then [] else W0 (Ad ts) pre.length ((m : Int) - 1) 2 := by
    rw [An7, Vh, jP]
    by_cases hc : (m : Int) - 1 = pre.length ∨ (0 < m ∧ (A1 (evAt (Ad ts) (m - 1)).op = false ∨ (evAt (Ad ts) (m - 1)).op.loc ≠ (evAt (Ad ts) pre.length).op.loc))
    ·rw [if_pos hc, if_pos (decide_eq_true hc)]
    ·simp only [if_neg hc, decide_eq_false hc, lC5, if_false]
   refine JH (fun ρ' M' G' => M' = N ∧ (∀ q ∈ [(0, pv mb 0), (1, vi pre.length), (4, pv b4 0), (5, vi ((m : Int) - 1)), (88, vb sk)], get ρ' q.1 = some q.2) ∧ G' = ((b4, Cl 83 [vi (evAt (Ad ts) pre.length).op.kind, vi (evAt (Ad ts) pre.length).op.loc, vi (evAt (Ad ts) pre.length).op.v, vi (evAt (Ad ts) pre.length).op.w, vi (evAt (Ad ts) pre.length).op.ord]) :: (mb, Cl 39 (ps :: .slice (some ⟨pb, po, none⟩) (Ad ts).length lc :: Av x.fb fr.length fr.length :: Av x.db dn.length dn.length :: Av x.ob x.ord.length x.ord.length :: .slice none 0 0 :: osv r.oo r.outs.length :: vi r.cnt :: vi 0 :: r.sm)) :: (x.fb, Cl 3 (fr.map vi)) :: (x.db, Cl 4 (dn.map vb)) :: (x.ob, Cl 34 x.ords) :: osg 34 r.oo r.vs)) ?_ ?_
   ·intro k2 kk
    have rC := fun (i : Nat) G => (show As _ _ _ (N.add G) _ from Ir (evAt (Ad ts) i).op)
    refine EV.any (t := Bk9) _ (lA0 _) ?_
    simp only [An, Aq, Al, Au, reduceIte, Nat.reduceEqDiff]
    by_cases hA : (m : Int) - 1 = pre.length
    ·rw [show sk = true by rw [jP]; exact decide_eq_true (.inl hA), hA] at kk
     repeat' first | ((first | refine Wz (by first | with_reducible assumption | rfl) rfl (fun lq aD => ?_) | refine zo (fun lq aD => ?_) | refine zl ?_ | fail); (repeat first | refine nz ?_ | simp only [hA, decide_true, lBj, lBl])) | refine zf ?_ | fail
     refine kk _ _ _ ⟨rfl, ?_, rfl⟩
     exact eE
    by_cases h0 : m = 0
    ·subst h0
     have aK : sk = false := by rw [jP]; exact decide_eq_false (fun h1 => h1.elim hA fun h1 => absurd h1.1 (by omega))
     rw [aK] at kk
     have gg : decide ((0 : Int) ≤ ((0 : Nat) : Int) - 1) = false := by decide
     repeat' first | (refine Wz (by first | with_reducible assumption | rfl) rfl (fun lq aD => ?_); (repeat first | refine nz ?_ | simp only [decide_eq_false hA, gg, lBj, lBl, lFm])) | ((refine ZE ?_ (fun lq aD hc => ?_) (fun lq aD => ?_); rotate_left) <;> (try (exfalso; simp at hc; done)) <;> (repeat first | refine nz ?_ | simp only [decide_eq_false hA, gg, lBj, lBl, lFm])) | ((first | refine zo (fun lq aD => ?_) | refine zl ?_ | fail); (repeat first | refine nz ?_ | simp only [decide_eq_false hA, gg, lBj, lBl, lFm])) | refine zf ?_ | with_reducible rfl | fail
     refine kk _ _ _ ⟨rfl, ?_, rfl⟩
     exact eE
    ·obtain ⟨f, rfl⟩ : ∃ f, m = f + 1 := ⟨m - 1, by omega⟩
     have e1 : ((f + 1 : Nat) : Int) - 1 = f := by omega
     obtain ⟨pb2, po2, jQ, nR⟩ := au f (by omega)
     cases jQ
     have fL : rd N pb (po + f * 6 + 1) 5 [vi (evAt (Ad ts) f).op.kind, vi (evAt (Ad ts) f).op.loc, vi (evAt (Ad ts) f).op.v, vi (evAt (Ad ts) f).op.w, vi (evAt (Ad ts) f).op.ord] := (nR.pt 1 5 (by omega) rfl).mono aB
     have uW : rd N pb (po + f * 6 + 1 + 1) 1 [vi (evAt (Ad ts) f).op.loc] := (nR.pt 2 1 (by omega) rfl).mono aB
     have gb := rC f
     rw [e1] at jP kk hA ⊢
     rw [lEs] at jP
     have d9 : decide ((0 : Int) ≤ (f : Int)) = true := decide_eq_true (by omega)
     cases sT : A1 (evAt (Ad ts) f).op with
     | false =>
      rw [sT] at gb jP
      rw [show sk = true by rw [jP]; exact decide_eq_true (.inr ⟨by omega, .inl rfl⟩)] at kk
      repeat' first | (refine Wz (by first | with_reducible assumption | rfl) rfl (fun lq aD => ?_); (repeat first | refine nz ?_ | simp only [d9, decide_eq_false hA, lBj, lBl])) | ((refine ZE ?_ (fun lq aD hc => ?_) (fun lq aD => ?_); rotate_left) <;> (try (exfalso; simp at hc; done)) <;> (repeat first | refine nz ?_ | simp only [d9, decide_eq_false hA, lBj, lBl])) | ((first | refine zo (fun lq aD => ?_) | refine zl ?_ | refine lA9 _ (lAd (gb _) ?_) | fail); (repeat first | refine nz ?_ | simp only [d9, decide_eq_false hA, lBj, lBl])) | refine zf ?_ | with_reducible rfl | refine ZF ?_ | ((first | refine xm ?_ | refine xsA rfl ?_ | fail); (repeat first | refine nz ?_ | simp only [d9, decide_eq_false hA, lBj, lBl])) | fail
      refine kk _ _ _ ⟨rfl, ?_, rfl⟩
      exact eE
     | true =>
      rw [sT] at gb jP
      repeat' first | ((refine ZE ?_ (fun lq aD hc => ?_) (fun lq aD => ?_); rotate_left) <;> (try (exfalso; simp at hc; done)) <;> (repeat first | refine nz ?_ | simp only [d9, decide_eq_false hA, lBj, lBl])) | ((first | refine zo (fun lq aD => ?_) | refine zl ?_ | refine lA9 _ (lAd (gb _) ?_) | fail); (repeat first | refine nz ?_ | simp only [d9, decide_eq_false hA, lBj, lBl])) | refine zf ?_ | with_reducible rfl | refine ZF ?_ | ((first | refine xm ?_ | refine xiA rfl ?_ | refine xsA rfl ?_ | fail); (repeat first | refine nz ?_ | simp only [d9, decide_eq_false hA, lBj, lBl])) | fail
      have rD : sk = !decide ((evAt (Ad ts) f).op.loc = (evAt (Ad ts) pre.length).op.loc) := by
       rw [jP]
       by_cases iZ : (evAt (Ad ts) f).op.loc = (evAt (Ad ts) pre.length).op.loc
       ·rw [decide_eq_true iZ, decide_eq_false]
        ·rfl
        ·rintro (h1 | ⟨_, h1 | h1⟩)
         ·exact hA h1
         ·cases h1
         ·exact h1 iZ
       ·rw [decide_eq_false iZ, decide_eq_true (.inr ⟨by omega, .inr iZ⟩)]
        rfl
      rw [rD] at kk
      refine kk _ _ _ ⟨rfl, ?_, rfl⟩
      exact eE
   ·rintro ρ2 M2 G2 ⟨rfl, hq, rfl⟩
    refine JA ?_ hq (lA0 _)
    clear hq
    have eJ : ((List.range (m + 1)).flatMap (Vh (Ad ts) pre.length)).flatMap (goC (Ad ts) n pre) = ((List.range m).flatMap (Vh (Ad ts) pre.length)).flatMap (goC (Ad ts) n pre) ++ (Vh (Ad ts) pre.length m).flatMap (goC (Ad ts) n pre) := by
     rw [lDp, lAy, lC4, lDt, lAa, lAy]
    have hmx : ((m + 1 : Nat) : Int) - 1 = ((m : Int) - 1) + 1 := by omega
    cases sk with
    | true =>
     rw [if_pos rfl] at nU
     rw [nU, lDt, lAa] at eJ
     have ih2 := ih (m + 1, M2, fr, dn, r) ⟨by dsimp only; omega, aB, fp, eX, ok2, by dsimp only; rw [eJ]; exact bN⟩ (by dsimp only; omega)
     dsimp only at ih2
     rw [hG, hmx] at ih2
     repeat' first | refine su ?_ | refine rg ?_ | (refine cX ?_ ?_ <;> intro h <;> try exact Ai h) | exact ⟨⟩ | fail
     refine JA ih2 ?_ (lA0 _)
     exact eE
    | false =>
     rw [if_neg lFl] at nU
     rw [nU] at eJ
     rw [ht, lAy, eJ] at hin hcnt
     repeat' first | refine su ?_ | (refine cX ?_ ?_ <;> intro h <;> try exact Ai h) | fail
     rw [← hG fr dn r]
     refine JA (Vc (f := (m : Int) - 1) (b4 := b4) (aK.mono aB) (bK.mono aB) bf cZ ok2 (by omega) fp eX hopt ho hfe hfv (fun o an => ?_) (fun e he => hin e (lD5 _ (lDj _ he))) ?_ ?_) ?_ (lA0 _)
     ·rw [hop]
      exact lB3.2 ⟨m, lAn.2 (by omega), by rw [nU]; exact an⟩
     ·have h1 := bN.cnt
      rw [lA4, lA4] at hcnt
      omega
     ·intro M' fr' dn' r' ax e1 e2 ok' ce
      have ih2 := ih (m + 1, M', fr', dn', r') ⟨by dsimp only; omega, Aa.le_trans aB ax, e1, e2, ok', by dsimp only; rw [eJ]; exact bN.trans ce⟩ (by dsimp only; omega)
      dsimp only at ih2
      rw [hmx] at ih2
      repeat' first | refine su ?_ | refine rg ?_ | exact ⟨⟩ | fail
      refine JA ih2 ?_ (lA0 _)
      exact eE
     ·exact eE
  ·have uX : m = (Ad ts).length + 1 := by omega
   subst uX
   rw [← hG fr dn r]
   refine EV.weaken ?_ (fun _ _ h => h) (lD8 _ _)
   refine EV.done Q75_ok ?_
   (repeat first | refine nx ?_ | simp only [Q75])
   exact ⟨aB, fr, dn, r, fp.trans hf.symm, eX.trans hd.symm, rfl, ok2, bN⟩
theorem Mz (ts : List (List OpV)) (ps lv : Value) (aM : A2 ts = 0) (mb : Nat) : ∀ n, Lw ts ps lv mb n
 | 0 => Wy ts ps lv aM mb
 | n + 1 => W1 ts ps lv aM mb n (Mz ts ps lv aM mb n)
end
def Fe1 (M : Aa) (u : Value) (outs : List (List Int)) (n : Nat) : Prop :=
 ∃ sv a1 a2 a3 b1 b2 b3 c1 c2 c3 d1 d2 d3 e1 e2 e3 f1 f2 f3 g1 g2 g3 h1 h2 h3 i1 i2 i3 j1 j2 j3, u = .agg #[.slice a1 a2 a3, .slice b1 b2 b3, .slice c1 c2 c3, .slice d1 d2 d3, .slice e1 e2 e3, .slice f1 f2 f3, sv, vi n, vi 0, .slice g1 g2 g3, .slice h1 h2 h3, .slice i1 i2 i3, .slice j1 j2 j3] ∧ Ee M 1 ei sv outs
theorem Bd2 {α : Type} (n : Nat) (v : α) : (List.replicate n [v]).flatten = List.replicate n v := by
 induction n with
 | zero => rfl
 | succ n ih => rw [lE4, lD9, ih]; rfl
theorem Vd {G G' : Own} [h : SubS G G' []] : G.Perm G' := by simpa using h.p
section
variable {M : Aa}
theorem Ai6 (ts : List (List OpV)) (s : Value) (hs : Ee M 5 Bb s ts) (aM : A2 ts = 0) :
  Con Tryz.prog 14 #[.agg #[s], vi 0] M [] fun u M' _ => Fe1 M' u (K5 (Ad ts) (Z5 (Ad ts)) []) (Z5 (Ad ts)).length := by
 have aK := hs
 have cZ := Ck aM
 have hp := Ho aM
 have hm := Ks ts
 have gz := Kr aM
 obtain ⟨sa, sc, vs, rfl, ah, aH, hk⟩ := hs
 refine Con.enter Q72_ok (args := [.agg #[.slice sa ts.length sc], vi 0]) (by simp [Q72]) fun w0 => ?_
 simp only [Q72, A9]
 refine EV.seq (EV.reg ?_)
 (repeat first | refine nx ?_ | simp only [Bg9])
 intro b2 b4
 refine EV.seq (JH (fun ρ' M' G' => ∃ lv b5, M.le M' ∧ Sl M' 6 Hf lv (Ad ts) ∧ (∀ q ∈ [(4, pv b4 0), (5, pv b5 0)], get ρ' q.1 = some q.2) ∧ G' = [(b5, Cl 39 [.slice sa ts.length sc, lv, .slice none 0 0, .slice none 0 0, .slice none 0 0, .slice none 0 0, .slice none 0 0, vi 0, vi 0, .slice none 0 0, .slice none 0 0, .slice none 0 0, .slice none 0 0]), (b4, Cl 39 [.slice none 0 0, .slice none 0 0, .slice none 0 0, .slice none 0 0, .slice none 0 0, .slice none 0 0, .slice none 0 0, vi 0, vi 0, .slice none 0 0, .slice none 0 0, .slice none 0 0, .slice none 0 0])]) ?_ ?_)
 ·intro k2 kk
  refine EV.any (t := Bh0) [(b2, Cl 24 [.slice sa ts.length sc])] eS ?_
  simp only [An, Aq, Al, Au, reduceIte, Nat.reduceEqDiff]
  repeat' first | ((first | refine zo (fun lq aD => ?_) | refine zl ?_ | fail); try refine nz ?_) | refine zq (fun lq tq aD aA => ?_) | ((with_reducible refine Con.callS (G1 := []) (Mt ts _ aK aM) ?_) ;  rintro v1 M1 G1 bw ⟨la, lc, rfl, aq⟩; try refine nz ?_) | (refine ZA (fun tq aA => ?_) (fun tq aA => ?_) <;> try refine nz ?_) | exact zn | refine ZF ?_ | ((first | with_reducible intro b | refine xrA rfl ?_ | refine lAd (Aa.le_refl _) (lAd (Ay ?_) ?_); focus ((repeat' first | exact lA0 _ | exact lAh _ | exact lAj _ _ | refine lAf _ ?_ | refine lAo ?_ _ | refine lAb ?_ | refine lAp _ ?_); done) | fail); try refine nz ?_) | exact ⟨⟩ | fail
  all_goals refine ⟨fun q hq => by (rw [lAk] at hq; rw [hq]; simp), ?_⟩
  all_goals
   repeat' first | ((first | refine zo (fun lq aD => ?_) | refine zl ?_ | fail); try refine nz ?_) | refine zq (fun lq tq aD aA => ?_) | (refine ZA (fun tq aA => ?_) (fun tq aA => ?_) <;> try refine nz ?_) | (refine ZB (fun tq aA => ?_) (fun tq aA => ?_) <;> try refine nz ?_) | exact zn | refine zf ?_ | ((first | with_reducible intro b | refine xw ?_ | refine lAd (Aa.le_refl _) (lAd (Ay ?_) ?_); focus ((repeat' first | exact lA0 _ | exact lAh _ | exact lAj _ _ | refine lAf _ ?_ | refine lAo ?_ _ | refine lAb ?_ | refine lAp _ ?_); done) | fail); try refine nz ?_) | exact ⟨⟩ | fail
  all_goals refine JI (kk _ M1 [(b, Cl 39 [.slice sa ts.length sc, .slice la (Ad ts).length lc, .slice none 0 0, .slice none 0 0, .slice none 0 0, .slice none 0 0, .slice none 0 0, vi 0, vi 0, .slice none 0 0, .slice none 0 0, .slice none 0 0, .slice none 0 0]), (b4, Cl 39 [.slice none 0 0, .slice none 0 0, .slice none 0 0, .slice none 0 0, .slice none 0 0, .slice none 0 0, .slice none 0 0, vi 0, vi 0, .slice none 0 0, .slice none 0 0, .slice none 0 0, .slice none 0 0])] ⟨_, b, bw, ⟨la, lc, rfl, aq⟩, ?_, rfl⟩)
  all_goals
   exact eE
 rintro ρ2 M2 G2 ⟨lv, b5, bZ, bB, hq, rfl⟩
 refine JA ?_ hq (lA0 _)
 clear hq
 have bK := bB
 obtain ⟨la, lc, rfl, aq⟩ := bB
 refine EV.seq (JH (fun ρ' M' G' => ∃ fb db ob, M' = M2 ∧ (∀ q ∈ [(4, pv b4 0), (5, pv b5 0)], get ρ' q.1 = some q.2) ∧ G' = [(b5, Cl 39 [.slice sa ts.length sc, .slice la (Ad ts).length lc, Av fb (Ad ts).length (Ad ts).length, Av db (Ad ts).length (Ad ts).length, Av ob 3 3, .slice none 0 0, .slice none 0 0, vi 0, vi 0, .slice none 0 0, .slice none 0 0, .slice none 0 0, .slice none 0 0]), (fb, Cl 3 (List.replicate (Ad ts).length (vi 0))), (db, Cl 4 (List.replicate (Ad ts).length (vb false))), (ob, Cl 34 [.slice none 0 0, .slice none 0 0, .slice none 0 0]), (b4, Cl 39 [.slice none 0 0, .slice none 0 0, .slice none 0 0, .slice none 0 0, .slice none 0 0, .slice none 0 0, .slice none 0 0, vi 0, vi 0, .slice none 0 0, .slice none 0 0, .slice none 0 0, .slice none 0 0])]) ?_ ?_)
 ·intro k2 kk
  have kk2 := fun ρ' fb db ob G' hp hq => JF (G := G') (kk ρ' M2 _ ⟨fb, db, ob, rfl, hq, rfl⟩) hp
  refine EV.any (t := Bh1) [(b5, Cl 39 [.slice sa ts.length sc, .slice la (Ad ts).length lc, .slice none 0 0, .slice none 0 0, .slice none 0 0, .slice none 0 0, .slice none 0 0, vi 0, vi 0, .slice none 0 0, .slice none 0 0, .slice none 0 0, .slice none 0 0])] eS ?_
  simp only [An, Aq, Al, Au, reduceIte, Nat.reduceEqDiff]
  repeat' first | ((first | refine zo (fun lq aD => ?_) | refine zl ?_ | fail); try refine nz ?_) | refine zq (fun lq tq aD aA => ?_) | (refine ZA (fun tq aA => ?_) (fun tq aA => ?_) <;> try refine nz ?_) | (refine ZB (fun tq aA => ?_) (fun tq aA => ?_) <;> try refine nz ?_) | exact zn | refine zf ?_ | refine ZF ?_ | ((first | with_reducible intro b | refine xsA rfl ?_ | refine xw ?_ | refine lAd (Aa.le_refl _) (lAd (Ay ?_) ?_); focus ((repeat' first | exact lA0 _ | exact lAh _ | exact lAj _ _ | refine lAf _ ?_ | refine lAo ?_ _ | refine lAb ?_ | refine lAp _ ?_); done) | fail); try refine nz ?_) | exact ⟨⟩ | fail
  all_goals simp only [Bd2]
  all_goals
   refine kk2 _ _ _ _ _ ((lEo (l₁ := [_, _, _])).trans (lCh _ ?_)) ?_
   ·simp only [lAl, lAg]
    exact Vd
   exact eE
 rintro ρ3 M3 G3 ⟨fb, db, ob, rfl, hq, rfl⟩
 refine JA ?_ hq (lA0 _)
 obtain ⟨x0, cQ⟩ : ∃ x0 : SX, x0 = ⟨List.replicate (Ad ts).length 0, List.replicate (Ad ts).length false, [[], [], []], [], [], 0, fb, db, ob, [.slice none 0 0, .slice none 0 0, .slice none 0 0], .slice none 0 0, none, [], [.slice none 0 0, .slice none 0 0, .slice none 0 0, .slice none 0 0]⟩ := ⟨_, rfl⟩
 have ok0 : x0.Ok (Ad ts) M3 := by
  rw [cQ]
  refine ⟨lDf, lDf, rfl, rfl, fun k h1 h2 => ?_, ⟨none, 0, rfl, .inl ⟨rfl, rfl⟩⟩, ⟨rfl, rfl⟩, ⟨rfl, fun k h => absurd h (lBy _)⟩, List.Pairwise.nil, (fun y h => absurd h lB4), _, _, _, _, _, _, _, _, _, _, _, _, rfl⟩
  match k, h1 with
  | 0, _ => exact ⟨none, 0, rfl, lA5 _, .inl ⟨rfl, rfl⟩⟩
  | 1, _ => exact ⟨none, 0, rfl, lA5 _, .inl ⟨rfl, rfl⟩⟩
  | 2, _ => exact ⟨none, 0, rfl, lA5 _, .inl ⟨rfl, rfl⟩⟩
 have am := K4 gz hp hm (by omega : (Ad ts).length ≤ 16)
 have nG := X8 aM
 have hc := Mz ts _ _ aM b5 (Ad ts).length M3 x0 [] (aK.mono bZ) ⟨la, lc, rfl, aq⟩ ok0 ⟨lBg _, by rw [cQ]; rfl, by rw [cQ]; rfl, fun i h => absurd h (lBy _), by rw [cQ], by rw [cQ], by rw [cQ], fun e he => am.mem_iff.1 he, by
  have h1 := am.length_eq
  rw [cQ]
  change 0 + (Z5 (Ad ts)).length < _
  omega⟩
 have dR : x0.G b5 (.slice sa ts.length sc) (.slice la (Ad ts).length lc) = [(b5, Cl 39 [.slice sa ts.length sc, .slice la (Ad ts).length lc, Av fb (Ad ts).length (Ad ts).length, Av db (Ad ts).length (Ad ts).length, Av ob 3 3, .slice none 0 0, .slice none 0 0, vi 0, vi 0, .slice none 0 0, .slice none 0 0, .slice none 0 0, .slice none 0 0]), (fb, Cl 3 (List.replicate (Ad ts).length (vi 0))), (db, Cl 4 (List.replicate (Ad ts).length (vb false))), (ob, Cl 34 [.slice none 0 0, .slice none 0 0, .slice none 0 0])] := by
  rw [JR, cQ]
  simp only [lDf, lEc]
  rfl
 rw [dR] at hc
 change Con _ _ #[pv b5 0, vi 0] _ _ _ at hc
 repeat' first | refine st ?_ | refine rg ?_ | exact ⟨⟩ | fail
 refine Con.callS hc ?_
 rintro v4 M4 G4 _ ⟨cO, fr, dn, r, _, _, rfl, ok4, jh⟩
 have hcnt : r.cnt = (Z5 (Ad ts)).length := by
  have := jh.cnt
  rw [cQ] at this
  change r.cnt = 0 + (Z5 (Ad ts)).length at this
  omega
 have nV : r.outs = K5 (Ad ts) (Z5 (Ad ts)) [] := by
  have := jh.outs
  rw [cQ] at this
  exact this
 rw [JV fr dn r b5 (.slice sa ts.length sc) (.slice la (Ad ts).length lc) (na := none) (n := 0) (nc := 0) (by rw [cQ])]
 obtain ⟨g1, g2, g3, h1, h2, h3, i1, i2, i3, j1, j2, j3, i6⟩ := ok4.sl
 change r.sm = _ at i6
 rw [i6]
 repeat' first | refine st ?_ | refine rg ?_ | (refine xrA rfl ?_; try refine nx ?_) | (refine xw ?_; refine nx ?_) | exact ⟨⟩ | fail
 refine EV.frz (osg 34 r.oo r.vs) ?_
 have dd : Ee (M4.add (osg 34 r.oo r.vs)) 1 ei (osv r.oo r.outs.length) r.outs := by
  have h := ok4.vs
  refine ⟨_, _, r.vs, rfl, h.len, ?_, fun i a b => (h.at_ i a b).mono (JB _ _)⟩
  exact Ew (T := 34) ok4.oo (fun q hq => hq)
 generalize M4.add (osg 34 r.oo r.vs) = N4 at *
 (refine rt Q72_ok ?_; try with_reducible exact ⟨⟩)
 refine ⟨_, Ap 4 rfl rfl (by simp), ?_⟩
 rw [← hcnt, ← nV]
 exact ⟨_, _, _, _, _, _, _, _, _, _, _, _, _, _, _, _, _, _, _, _, _, _, _, _, _, _, _, _, _, _, _, rfl, dd⟩
end
section
variable {M : Aa}
theorem Z0 (xs ys : List (List Int)) (v w : Value) (hv : Ee M 1 ei v xs) (hw : Ee M 1 ei w ys) (hx : xs.length ≤ 281474976710656) (hy : ys.length ≤ 281474976710656) (bi : ∀ x ∈ xs, x.length ≤ 281474976710656) (dQ : ∀ x ∈ ys, x.length ≤ 281474976710656) :
  As Tryz.prog 15 #[v, w] M (vb (decide (xs = ys))) := by
 obtain ⟨a, c, vs, rfl, dw, hr, hk⟩ := hv
 obtain ⟨a2, c2, ws, rfl, cF, aW, bh⟩ := hw
 refine Con.enter Q61_ok (args := [.slice a xs.length c, .slice a2 ys.length c2]) (by simp [Q61]) fun w0 => ?_
 simp only [Q61, A9]
 repeat' first | refine st ?_ | refine rg ?_ | (refine cX ?_ ?_ <;> intro h <;> try exact Ai h) | exact ⟨⟩ | fail
 ·have hne : decide (xs = ys) = false := decide_eq_false fun e => h (by rw [e])
  (refine rt Q61_ok ?_; try with_reducible exact ⟨⟩)
  rw [hne]
 ·have hl : xs.length = ys.length := by omega
  refine JC (fun i : Nat => ([(0, .slice a xs.length c), (1, .slice a2 ys.length c2), (5, vi i)], M, [])) (fun i => i ≤ xs.length ∧ xs.take i = ys.take i) (fun i => xs.length - i) 0 rfl ⟨lA8 _, rfl⟩ ?env1 (lA0 _) ?_
  case env1 =>
   exact eE
  rintro i ⟨hi, he⟩ ih
  dsimp only at hi he ih ⊢
  repeat' first | refine st ?_ | refine rg ?_ | (refine cX ?_ ?_ <;> intro h <;> try exact Ai h) | exact ⟨⟩ | fail
  ·have aC : i < xs.length := by omega
   have bT : i < ys.length := by omega
   obtain ⟨b, o, rfl, hat⟩ := Ee.at hr dw hk (by omega)
   obtain ⟨b2, o2, rfl, aJ⟩ := Ee.at aW cF bh (by omega)
   obtain ⟨p1, p2, q1, q2⟩ := hat i aC
   obtain ⟨p3, p4, q3, q4⟩ := aJ i bT
   simp only [lAw] at q1 q3
   have fP := fun G => Pc (M := M.add G) xs[i] ys[i] _ _ ⟨p1, p2, rfl, q2.mono (JB _ _)⟩ ⟨p3, p4, rfl, q4.mono (JB _ _)⟩ (bi _ (lAm aC)) (dQ _ (lAm bT))
   refine EV.any (t := Bh2) [] (lAh _) ?_
   simp only [An, Aq, Al, Au, reduceIte, Nat.reduceEqDiff]
   repeat' first | ((first | refine zo (fun lq aD => ?_) | refine zl ?_ | refine lA9 _ (lAd (fP _) ?_) | fail); try refine nz ?_) | refine zf ?_ | refine ZF ?_ | (refine xn ?_; try refine nz ?_) | exact ⟨⟩ | fail
   repeat' first | refine st ?_ | refine rg ?_ | (refine cX ?_ ?_ <;> intro h <;> try exact Ai h) | exact ⟨⟩ | fail
   ·have hne : decide (xs = ys) = false := decide_eq_false fun e => by subst e; exact h rfl
    (refine rt Q61_ok ?_; try with_reducible exact ⟨⟩)
    rw [hne]
   ·have cR : xs[i] = ys[i] := by simpa using h
    refine JA (ih (i + 1) ⟨by omega, by rw [lA7 aC, lA7 bT, he, cR]⟩ (by omega)) ?_ (lA0 _)
    exact eE
  ·have bO : i = xs.length := by omega
   subst bO
   have gH : decide (xs = ys) = true := decide_eq_true (by rwa [lB1, hl, lB1] at he)
   repeat' first | fail
   (refine rt Q61_ok ?_; try with_reducible exact ⟨⟩)
   rw [gH]
end
section
variable {M : Aa}
theorem Pv (ts : List (List OpV)) (s : Value) (hs : Ee M 5 Bb s ts) (hb : Sized ts) :
  Con Tryz.prog 3 #[.agg #[s]] M [] fun u _ _ => u = vb true := by
 have aK := hs
 obtain ⟨a, c, vs, rfl, hl, aH, hk⟩ := hs
 refine Con.enter Q53_ok (args := [.agg #[.slice a ts.length c]]) (by simp [Q53]) fun w0 => ?_
 simp only [Q53, A9]
 repeat' first | refine st ?_ | refine rg ?_ | (with_reducible intro b; try refine nx ?_) | exact ⟨⟩ | fail
 obtain ⟨pb, rfl⟩ : ∃ x, x = b := ⟨_, rfl⟩
 refine Dc.frzS [(pb, Cl 24 [.slice a ts.length c])] ?_
 generalize hR : M.add _ = N
 have aB : M.le N := hR ▸ JB _ _
 have iu : rd N pb 0 1 [.slice a ts.length c] := hR ▸ B3 (T := 24) (cs := [.slice a ts.length c]) (by simp) rfl (by simp)
 clear hR
 replace aK := Ee.mono aB aK
 refine Con.callS (G1 := []) Bc6 ?_
 rintro v1 M1 G1 bw rfl
 have rE := iu.mono bw
 have bm := Ee.mono bw aK
 (refine nx ?_; try with_reducible exact ⟨⟩)
 repeat' first | refine st ?_ | refine rg ?_ | (refine cX ?_ ?_ <;> intro h <;> try exact Ai h) | (refine xm ?_; try refine nx ?_) | exact ⟨⟩ | fail
 refine Con.callS (G1 := []) (Kv ts _ bm hb) ?_
 rintro v2 M2 G2 bZ h2
 have jQ := rE.mono bZ
 have iH := Ee.mono bZ bm
 rcases h2 with ⟨hne, rfl⟩ | ⟨aM, s', outs, rfl, ho, aZ⟩
 ·simp only [wpS, wpA, J2, push_cast, lBd, reduceIte, Nat.reduceEqDiff, reduceCtorEq, Nat.reduceAdd, Nat.reduceSub, Nat.reduceMul, Int.reduceToNat, Nat.reduceLeDiff]
  repeat' first | refine st ?_ | refine rg ?_ | (refine xm ?_; try refine nx ?_) | exact ⟨⟩ | fail
  refine Con.callS (G1 := []) (Rh ts _ iH hb) ?_
  rintro v3 M3 G3 el rfl
  have rF := jQ.mono el
  have jR := fun G => Jy (M := M3.add G) ts _ ((iH.mono el).mono (JB _ _)) hb
  have gT : Mc ts = 0 := by rw [Mc, if_neg hne]
  rw [gT]
  (refine nx ?_; try with_reducible exact ⟨⟩)
  repeat' first | refine st ?_ | (refine EV.reg ?_; (conv => (arg 2; whnf)); (repeat first | refine nx ?_ | simp only [hne])) | (refine As.call (jR _) ?_; (repeat first | refine nx ?_ | simp only [hne])) | with_reducible assumption | (refine JE ?_ (fun hc K' hK => ?_) ?_; rotate_left) | (refine cX ?_ ?_ <;> intro h <;> try exact Ai h) | (refine xm ?_; (repeat first | refine nx ?_ | simp only [hne])) | fail
  (refine rt Q53_ok ?_; try with_reducible exact ⟨⟩)
  try simp
 ·obtain ⟨oa, oc, ovs, rfl, bC, cl, bh⟩ := aZ.sl
  (refine nx ?_; try with_reducible exact ⟨⟩)
  repeat' first | refine st ?_ | refine rg ?_ | (refine xm ?_; try refine nx ?_) | exact ⟨⟩ | fail
  refine Con.callS (G1 := []) (Rh ts _ iH hb) ?_
  rintro v3 M3 G3 el rfl
  have rF := jQ.mono el
  have sU := Ee.mono el iH
  have jR := fun G => Jy (M := M3.add G) ts _ (sU.mono (JB _ _)) hb
  rw [aM] at jR ⊢
  (refine nx ?_; try with_reducible exact ⟨⟩)
  repeat' first | refine st ?_ | refine rg ?_ | (refine As.call (jR _) ?_; try refine nx ?_) | (refine cX ?_ ?_ <;> intro h <;> try exact Ai h) | (refine xm ?_; try refine nx ?_) | exact ⟨⟩ | fail
  refine Con.callS (G1 := []) (Ai6 ts _ sU aM) ?_
  rintro v4 M4 G4 cO ⟨sv, a1, a2, a3, b1, b2, b3, c1, c2, c3, d1, d2, d3, e1, e2, e3, f1, f2, f3, g1, g2, g3, h1, h2, h3, i1, i2, i3, j1, j2, j3, rfl, dd⟩
  obtain ⟨ua, uc, us, rfl, bM, nW, sV⟩ := dd
  have iI := Ho aM
  have gz := Kr aM
  have eM := Ks ts
  have kh : (Ad ts).length ≤ 16 := by have := Ck aM; omega
  have hall := Ah4 gz iI eM kh
  have gH : K5 (Ad ts) (Z5 (Ad ts)) [] = outs := hall.uniq ho
  have iB : Mc ts = (Z5 (Ad ts)).length := by
   have h1 := (K4 gz iI eM kh).length_eq
   have h2 := X8 aM
   rw [Mc, if_pos aM, w64 (by omega) (by omega), h1]
  have nG := Ss iI eM (Sr aM) ho.nodup (fun x hx => (X5 ho).1 hx)
  have h9 : ∀ x ∈ outs, x.length ≤ 281474976710656 := fun x hx => by
   obtain ⟨r, a, b, c, rfl, hr⟩ := Ah9 iI ((X5 ho).1 hx)
   have := iI.len
   rw [lA4]; simp; omega
  rw [gH] at bM nW sV ⊢
  have rG := Aa.le_trans el cO
  have jY := fun G => Z0 (M := M4.add G) outs outs (.slice oa outs.length oc) (.slice ua outs.length uc) ((Ee.mono rG ⟨oa, oc, ovs, rfl, bC, cl, bh⟩).mono (JB _ _)) (Ee.mono (JB _ _) ⟨ua, uc, us, rfl, bM, nW, sV⟩) (by omega) (by omega) h9 h9
  rw [iB]
  simp only [decide_true] at jY
  repeat' first | refine st ?_ | refine rg ?_ | (refine As.call (jY _) ?_; try refine nx ?_) | with_reducible assumption | (refine JE ?_ (fun hc K' hK => ?_) ?_; rotate_left) | ((first | with_reducible intro b | refine xiA rfl ?_ | refine xsA rfl ?_ | fail); try refine nx ?_) | (refine xw ?_; refine nx ?_) | exact ⟨⟩ | fail
  (refine rt Q53_ok ?_; try with_reducible exact ⟨⟩)
  try simp
end
variable {P : Program} {f : FuncId} {args : Array Value}
def H2 (w : World) : Aa := fun b o => w.heap[b]? = some o
theorem Ai7 {w w' : World} {M0 M : Aa} {G : Own} (h : EV.St w [] M0 M G w') : w.keptBut w' (fun _ => False) := by
 refine ⟨h.os, h.output, fun i hi => ?_⟩
 have e := h.frame i hi (by simp)
 rw [e]
 cases w.heap[i]? with
 | none => rfl
 | some o => cases o <;> simp
theorem Con.at {w : World} {Φ : Value → Aa → Own → Prop} (h : Con P f args (H2 w) [] Φ) : Calls P f args w fun e w' => ∃ v, e = .returned v ∧ (∃ M' G', Φ v M' G') ∧ w.keptBut w' (fun _ => False) ∧ w.heap.size ≤ w'.heap.size := by
 intro cs
 obtain ⟨e, w', fr, ⟨v, he, M', G', h1, h2⟩, r⟩ := h.2 w (St.enter (G := []) (fun b o hb => hb) (by simp) (by simp) (by simp)) cs
 exact ⟨e, w', fr, ⟨v, he, ⟨M', G', h2⟩, Ai7 h1, h1.size⟩, r⟩
theorem Ve {H : Type} {enc : TypeId × Value → H} {f : Func} {s : ChangeSpec} {apart fresh jS : Bool} {W W' : World} {args : Array Value} {v : Value} {ds gs : List (DataW H)} {before pa pv : List MemPlace}
  (hW : DataW.Whole enc P f.params.toList s.vars apart W args.toList ds gs before)
  (aF : ∀ (b : Nat) (sp : Nat → Bool) (hd : Bool), DataW.TrodAll enc P W' b sp hd f.resultTypes.toList (v.resultList f.resultTypes.size) (s.fn H (ds ++ gs)).results [])
  (jj : ∀ sp : Nat → Bool, (∀ p ∈ before, sp p.block = true) → DataW.TrodAll enc P W' 0 sp true f.params.toList args.toList (s.fn H (ds ++ gs)).args pa)
  (nX : ∀ sp : Nat → Bool, (∀ p ∈ before, sp p.block = true) → DataW.TrodVars enc P W' sp s.vars (s.fn H (ds ++ gs)).vars pv)
  (hps : before = pa ++ pv) (hk : W.keptBut W' (fun _ => False)) :
  s.post enc P f apart fresh jS false W args v W' := by
 have d8 : ∀ p ∈ before, (fun b => decide (b < W.heap.size)) p.block = true := fun p hp => by simpa using hW.lt p hp
 exact ⟨ds, gs, before, [], pa, pv, hW, aF _ _ _, jj _ d8, nX _ d8, World.keptBut_mono (fun p hp => hp.elim) hk, fun h => by cases h⟩
section
variable {H : Type} {enc : TypeId × Value → H} {P : Program} {W : World} {base : Nat} {sp : Nat → Bool} {held : Bool}
theorem Pw {α β : Type} {f : α → Option β} : ∀ {l : List α} {r : List β}, l.mapM f = some r → r.length = l.length ∧ ∀ i (h : i < l.length), ∃ y, f l[i] = some y ∧ r[i]? = some y
 | [], r, h => by simp at h; subst h; simp
 | x :: l, r, h => by
  simp only [lEa, Option.bind_eq_bind, Option.pure_def, lA3] at h
  obtain ⟨y, hy, r', be, e⟩ := h
  cases e
  obtain ⟨h1, h2⟩ := Pw be
  refine ⟨by simp [h1], fun i hi => ?_⟩
  cases i with
  | zero => exact ⟨y, hy, rfl⟩
  | succ i => exact h2 i (by simpa using hi)
theorem Ye {a : Addr} {n : Nat} {cs : List Value} (h : W.cells? base a n = some cs) (hn : 0 < n) : ∃ b off, a = ⟨b, off, none⟩ ∧ rd (H2 W) b off n cs := by
 unfold World.cells? at h
 split at h
 ·obtain ⟨h1, h2⟩ := Pw h
  rw [lE1] at h1
  obtain ⟨ab, ao, sa⟩ := a
  have nY : sa = none := by
   obtain ⟨y, hy, _⟩ := h2 0 (by simpa using hn)
   simp only [lDk, World.cell?, Addr.add] at hy
   cases sa with
   | none => rfl
   | some s => exfalso; revert hy; simp; split <;> simp
  subst nY
  refine ⟨ab, ao, rfl, ?_⟩
  have fS : ∀ i, i < n → ∃ y, W.cell? ⟨ab, ao + i, none⟩ = some y ∧ cs[i]? = some y := fun i hi => by
   obtain ⟨y, hy, e⟩ := h2 i (by simpa using hi)
   rw [lDk, E3] at hy
   exact ⟨y, hy, e⟩
  cases hb : W.heap[ab]? with
  | none => obtain ⟨y, hy, _⟩ := fS 0 hn; simp [World.cell?, hb] at hy
  | some ob =>
   cases ob with
   | cells c T fz =>
    have hc : ∀ i, i < n → c[ao + i]? = cs[i]? := fun i hi => by
     obtain ⟨y, hy, e⟩ := fS i hi
     simp [World.cell?, hb] at hy
     rw [hy, e]
    have a8 : ao + n ≤ c.size := by
     obtain ⟨y, hy, e⟩ := fS (n - 1) (by omega)
     have h3 := hc (n - 1) (by omega)
     rw [e] at h3
     have := (lBs.1 h3).1
     omega
    refine ⟨c, T, fz, hb, a8, ?_⟩
    apply List.ext_getElem?
    intro i
    rw [List.getElem?_take]
    by_cases hi : i < n
    ·rw [if_pos hi, List.getElem?_drop, ← hc i hi]; simp
    ·rw [if_neg hi, lCy (by omega)]
   | _ => obtain ⟨y, hy, _⟩ := fS 0 hn; simp [World.cell?, hb] at hy
 ·cases h
theorem Bd3 {b off n k : Nat} {xs ys : List Value} (h1 : rd (H2 W) b off n xs) (h2 : rd (H2 W) b (off + n) k ys) : rd (H2 W) b off (n + k) (xs ++ ys) := by
 obtain ⟨c, T, fz, e1, l1, rfl⟩ := h1
 obtain ⟨c', T', fz', e2, l2, rfl⟩ := h2
 have : (Obj.cells c T fz) = Obj.cells c' T' fz' := Option.some.inj (e1.symm.trans e2)
 cases this
 refine ⟨c, T, fz, e1, by omega, ?_⟩
 rw [← lEn, List.take_add]
theorem Bd4 {α : Type} {e' : α → List Value} {sz b off : Nat} (cT : ∀ z, (e' z).length = sz) : ∀ (zs : List α), 0 < zs.length → (∀ i (h : i < zs.length), rd (H2 W) b (off + i * sz) sz (e' zs[i])) → rd (H2 W) b off (zs.length * sz) (zs.flatMap e') := by
 intro zs
 induction zs generalizing off with
 | nil => intro h; exact absurd h (by simp)
 | cons z zs ih =>
  intro _ hr
  have h0 := hr 0 (by simp)
  simp only [Nat.zero_mul, lDd, lAt] at h0
  cases hz : zs with
  | nil => simpa [hz] using h0
  | cons z' zs' =>
   have h1 := ih (off := off + sz) (by rw [hz]; simp) (fun i hi => by
    have := hr (i + 1) (by simpa using hi)
    rw [lEe] at this
    rw [show off + sz + i * sz = off + (i * sz + sz) by omega]
    simpa using this)
   have := Bd3 h0 h1
   rw [hz] at this
   simpa [lEe, lE3, Nat.add_left_comm] using this
theorem Qf {e : TypeId} {ds : List (DataW H)} (h : (DataW.weightsAll P e ds).all (· ≤ reachBytes) = true) : ∀ d ∈ ds, (d.weights P e).all (· ≤ reachBytes) = true := by
 induction ds with
 | nil => intro d hd; cases hd
 | cons d ds ih =>
  rw [DataW.weightsAll, lDh, lA6] at h
  intro d' hd
  rcases lBo.1 hd with rfl | hd
  ·exact h.1
  ·exact ih h.2 d' hd
theorem Yf {α : Type} {e' : α → List Value} {Q : α → Prop} {t e : TypeId} {sz m : Nat} {v : Value} {x : DataW H × List MemPlace} (ht : P.underlying t = some (.slice e)) (hc : P.cellsOf e = sz) (hpos : 0 < sz) (eV : 0 < P.bytesOf e) (cT : ∀ z, (e' z).length = sz)
  (h : DataW.trod enc P W base sp held m t [v] = some x) (hw : (x.1.weights P t).all (· ≤ reachBytes) = true)
  (d4 : ∀ m cs y, DataW.trod enc P W base sp held m e cs = some y → (y.1.weights P e).all (· ≤ reachBytes) = true → ∃ z, cs = e' z ∧ Q z) :
  ∃ (zs : List α) (a : Option Addr) (c : Nat), v = .slice a zs.length c ∧ rdS (H2 W) sz a zs.length (zs.flatMap e') ∧ zs.length ≤ reachBytes ∧ ∀ z ∈ zs, Q z := by
 cases m with
 | zero => simp [DataW.trod] at h
 | succ m =>
  unfold DataW.trod at h
  rw [ht] at h
  split at h <;> (try (cases h; done)) <;> (try (rename_i hu _ _; cases hu; done)) <;> (try (rename_i hu _; cases hu; done)) <;> (try (rename_i hu; cases hu; done))
  ·rename_i hv
   simp only [List.cons.injEq, and_true] at hv
   exact ⟨[], none, 0, hv, .inl ⟨by simp, rfl⟩, lA8 _, fun z hz => by cases hz⟩
  ·rename_i e0 a len cap hu hv
   cases hu
   simp only [List.cons.injEq, and_true] at hv
   subst hv
   split at h
   ·rename_i sW
    simp only [lA3] at h
    obtain ⟨elems, he, h⟩ := h
    obtain ⟨rest, _, h⟩ := Option.map_eq_some_iff.1 h
    subst h
    obtain ⟨rH, lJ⟩ := Pw he
    rw [lE1] at rH
    rw [hc] at lJ
    dsimp only at hw
    unfold DataW.weights at hw
    rw [ht] at hw
    dsimp only at hw
    rw [lFn, lA6, lDh, lA6] at hw
    obtain ⟨aT, dD, _⟩ := hw
    have uA : len ≤ reachBytes := by
     have h1 : (elems.length + rest.length) * P.bytesOf e ≤ reachBytes := by simpa using aT
     have h2 : elems.length * 1 ≤ (elems.length + rest.length) * P.bytesOf e := Nat.mul_le_mul (by omega) eV
     omega
    have hz : ∀ i : Fin len, ∃ z, W.cells? base (a.add (i.1 * sz)) sz = some (e' z) ∧ Q z := fun i => by
     obtain ⟨y, hy, dQ⟩ := lJ i.1 (by simp)
     rw [lDk] at hy
     simp only [lA3] at hy
     obtain ⟨cs, dV, hy⟩ := hy
     have lP : y ∈ elems := lC9 dQ
     obtain ⟨z, rfl, hq⟩ := d4 _ _ _ hy (Qf dD y.1 (lAi.2 ⟨y, lP, rfl⟩))
     exact ⟨z, dV, hq⟩
    obtain ⟨zs, hzs⟩ : ∃ zs, zs = List.ofFn fun i : Fin len => Classical.choose (hz i) := ⟨_, rfl⟩
    have aG : zs.length = len := by rw [hzs]; simp
    have hall : ∀ i (h : i < zs.length), W.cells? base (a.add (i * sz)) sz = some (e' zs[i]) ∧ Q zs[i] := fun i hi => by
     subst hzs
     simp only [List.getElem_ofFn]
     exact Classical.choose_spec (hz ⟨i, by simpa using hi⟩)
    refine ⟨zs, some a, cap, by rw [aG], ?_, by omega, fun z uY => ?_⟩
    ·by_cases h0 : zs.length = 0
     ·refine .inl ⟨by rw [h0]; simp, ?_⟩
      rw [lC2.1 h0]; rfl
     ·obtain ⟨b, off, fq, _⟩ := Ye (hall 0 (by omega)).1 hpos
      rw [Nat.zero_mul] at fq
      have nZ : a = ⟨b, off, none⟩ := by rw [← fq]; simp [Addr.add]
      refine .inr ⟨b, off, by rw [nZ], Bd4 cT zs (by omega) fun i hi => ?_⟩
      obtain ⟨b', off', n5, hr⟩ := Ye (hall i hi).1 hpos
      rw [nZ, E3] at n5
      cases n5
      exact hr
    ·obtain ⟨i, hi, rfl⟩ := List.mem_iff_getElem.1 uY
     exact (hall i hi).2
   ·cases h
theorem Cw8 {t : TypeId} {m : Nat} {cs : List Value} {x : DataW H × List MemPlace} (ht : P.underlying t = some (.int .i64)) (h : DataW.trod enc P W base sp held m t cs = some x) : ∃ n, cs = [vi n] := by
 cases m with
 | zero => simp [DataW.trod] at h
 | succ m =>
  unfold DataW.trod at h
  rw [ht] at h
  split at h <;> (try (cases h; done)) <;> (try (rename_i hu _ _; cases hu; done)) <;> (try (rename_i hu _; cases hu; done)) <;> (try (rename_i hu; cases hu; done))
  rename_i k1 k2 n1 hu
  cases hu
  split at h
  ·rename_i hk
   obtain ⟨rfl, _⟩ := hk
   exact ⟨n1, rfl⟩
  ·cases h
theorem W2 {W' : World} (hf : ∀ b, b < W.heap.size → W'.heap[b]? = W.heap[b]?) {p : MemPlace} (hp : p.block < W.heap.size) : W.sameAt W' p := by
 cases p with
 | cell b off => simp only [World.sameAt, World.cell?, hf b hp]
 | map b => exact hf b hp
theorem Na {W' : World} (K : Kids P (· < P.types.size)) (aQ : ∀ {t e : TypeId}, t < P.types.size → P.underlying t = some (.slice e) → 0 < P.cellsOf e) (hf : ∀ b, b < W.heap.size → W'.heap[b]? = W.heap[b]?) {sp' : Nat → Bool} :
  ∀ {ts : List TypeId} {vs : List Value} {ds : List (DataW H)} {ps : List MemPlace}, (∀ t ∈ ts, t < P.types.size) → DataW.TrodAll enc P W 0 (fun _ => true) true ts vs ds ps → (∀ p ∈ ps, p.block < W.heap.size) → (∀ p ∈ ps, sp' p.block = true) → DataW.TrodAll enc P W' 0 sp' true ts vs ds ps
 | [], [], [], ps, _, h, _, _ => h
 | t :: ts, v :: vs, d :: ds, ps, ik, h, hb, hs => by
  obtain ⟨p, q, ⟨m, h1⟩, h2, rfl⟩ := h
  refine ⟨p, q, ⟨m, DataW.trod_stays K aQ (fun h => by cases h) (ik t (by simp)) h1 (fun r hr => W2 hf (hb r (by simp [hr]))) (fun r hr => hs r (by simp [hr]))⟩, ?_, rfl⟩
  exact Na K aQ hf (fun t ht => ik t (by simp [ht])) h2 (fun r hr => hb r (by simp [hr])) (fun r hr => hs r (by simp [hr]))
theorem Con.at2 {f : FuncId} {args : Array Value} {Φ : Value → Aa → Own → Prop} (h : Con P f args (H2 W) [] Φ) : Calls P f args W fun e W' => ∃ v, e = .returned v ∧ (∃ M' G', Φ v M' G') ∧ W.keptBut W' (fun _ => False) ∧ ∀ b, b < W.heap.size → W'.heap[b]? = W.heap[b]? := by
 intro cs
 obtain ⟨e, w', fr, ⟨v, he, M', G', h1, h2⟩, r⟩ := h.2 W (St.enter (G := []) (fun b o hb => hb) (by simp) (by simp) (by simp)) cs
 exact ⟨e, w', fr, ⟨v, he, ⟨M', G', h2⟩, Ai7 h1, fun b hb => h1.frame b hb (by simp)⟩, r⟩
end
open Go.Proofs Go.ChangeShapes
theorem Px {α β : Type} (f : α → β) : ∀ zs : List α, zs.flatMap (fun z => [f z]) = zs.map f
 | [] => rfl
 | z :: zs => by rw [lC4, Px f zs]; rfl
section
variable {H : Type} {enc : TypeId × Value → H} {W : World} {sp : Nat → Bool} {held : Bool}
theorem Ai8 : (Tryz.prog).cellsOf 3 = 1 := by kernel_rfl
theorem Yg : (Tryz.prog).cellsOf 83 = 5 := by kernel_rfl
theorem Ai9 : (Tryz.prog).cellsOf 70 = 1 := by kernel_rfl
theorem Aj0 : (Tryz.prog).cellsOf 22 = 1 := by kernel_rfl
theorem Aj1 : (Tryz.prog).cellsOf 24 = 1 := by kernel_rfl
theorem An8 : 0 < (Tryz.prog).bytesOf 83 := of_decide_eq_true (by kernel_rfl)
theorem Aj2 : 0 < (Tryz.prog).bytesOf 70 := of_decide_eq_true (by kernel_rfl)
set_option maxRecDepth 100000 in
theorem Fe2 {m : Nat} {cs : List Value} {y : DataW H × List MemPlace} (h : DataW.trod enc Tryz.prog W 0 sp held m 83 cs = some y) : ∃ o : OpV, cs = Bb o ∧ True := by
 obtain ⟨xs, n, _, _, hl, lW, hf⟩ := DataW.trod_struct Tryz.underlying83 h
 rw [Yg] at hl
 have uZ : xs.length = 5 := lW
 have key : ∀ i : Nat, ∀ f : Field, i < 5 → (show Array Field from _)[i]? = some f → f.type = 3 → ∃ k, ((cs.drop f.offset).take 1) = [vi k] := fun i f hi e ht => by
  have h1 := hf i f e
  rw [ht, Ai8] at h1
  obtain ⟨y, hy⟩ : ∃ y, xs[i]? = some y := ⟨xs[i], lA2 (by omega)⟩
  rw [hy] at h1
  exact Cw8 Tryz.underlying3 h1
 obtain ⟨k0, e0⟩ := key 0 _ (by decide) rfl rfl
 obtain ⟨k1, e1⟩ := key 1 _ (by decide) rfl rfl
 obtain ⟨k2, e2⟩ := key 2 _ (by decide) rfl rfl
 obtain ⟨k3, e3⟩ := key 3 _ (by decide) rfl rfl
 obtain ⟨k4, e4⟩ := key 4 _ (by decide) rfl rfl
 match cs, hl with
 | [c0, c1, c2, c3, c4], _ =>
  refine ⟨⟨k0, k1, k2, k3, k4⟩, ?_, trivial⟩
  simp at e0 e1 e2 e3 e4
  simp [e0, e1, e2, e3, e4]
set_option maxRecDepth 100000 in
theorem Cw9 {m : Nat} {cs : List Value} {y : DataW H × List MemPlace} (hl : cs.length = 1) (h : DataW.trod enc Tryz.prog W 0 sp held m 70 cs = some y) (hw : (y.1.weights Tryz.prog 70).all (· ≤ reachBytes) = true) :
  ∃ z : Value × List OpV, cs = [z.1] ∧ Sl (H2 W) 5 Bb z.1 z.2 ∧ z.2.length ≤ reachBytes := by
 match cs, hl with
 | [v], _ =>
  obtain ⟨zs, a, c, rfl, h1, h2, _⟩ := Yf (e' := Bb) (Q := fun _ => True) Tryz.underlying70 Yg (by decide) An8 (fun _ => rfl) h hw (fun m cs y hy _ => Fe2 hy)
  exact ⟨(_, zs), rfl, ⟨a, c, rfl, h1⟩, h2⟩
set_option maxRecDepth 100000 in
theorem Qg {t e : TypeId} {m : Nat} {cs : List Value} {y : DataW H × List MemPlace} (ht : (Tryz.prog).underlying t = some (.slice e)) (h : DataW.trod enc Tryz.prog W 0 sp held m t cs = some y) : cs.length = 1 := by
 cases m with
 | zero => simp [DataW.trod] at h
 | succ m =>
  unfold DataW.trod at h
  rw [ht] at h
  split at h <;> (try (cases h; done)) <;> (try (rename_i hu _ _; cases hu; done)) <;> (try (rename_i hu _; cases hu; done)) <;> (try (rename_i hu; cases hu; done)) <;> rfl
set_option maxRecDepth 100000 in
theorem Aj3 {m : Nat} {cs : List Value} {y : DataW H × List MemPlace} (h : DataW.trod enc Tryz.prog W 0 sp held m 24 cs = some y) (hw : (y.1.weights Tryz.prog 24).all (· ≤ reachBytes) = true) :
  ∃ s ts, cs = [s] ∧ Ee (H2 W) 5 Bb s ts ∧ ts.length ≤ reachBytes ∧ ∀ t ∈ ts, t.length ≤ reachBytes := by
 obtain ⟨y0, n, rfl, hl, h0⟩ := ChangeShapes.trod_struct1 Tryz.underlying24 h
 rw [Aj1] at hl
 match cs, hl with
 | [s], _ =>
  unfold DataW.weights at hw
  rw [Tryz.underlying24] at hw
  simp only [lDu, lFj, DataW.weightsEach, lAa] at hw
  have h1 : DataW.trod enc Tryz.prog W 0 sp held n 22 [s] = some y0 := by
   have := h0
   rw [show (Tryz.prog).cellsOf (Field.type _) = 1 from Aj0] at this
   exact this
  obtain ⟨zs, a, c, rfl, h2, h3, h4⟩ := Yf (e' := fun z : Value × List OpV => [z.1]) (Q := fun z => Sl (H2 W) 5 Bb z.1 z.2 ∧ z.2.length ≤ reachBytes) Tryz.underlying22 Ai9 (by decide) Aj2 (fun _ => rfl) h1 hw (fun m cs y hy oP => Cw9 (Qg Tryz.underlying70 hy) hy oP)
  refine ⟨_, zs.map (·.2), rfl, ⟨a, c, zs.map (·.1), by simp, by simp, ?_, ?_⟩, by simpa using h3, ?_⟩
  ·have e : zs.flatMap (fun z : Value × List OpV => [z.1]) = zs.map (·.1) := Px _ zs
   rw [e] at h2
   rw [lA1]
   exact h2
  ·intro i hi aC
   simp only [lDm]
   exact (h4 _ (lAm _)).1
  ·intro t ht
   obtain ⟨z, hz, rfl⟩ := lAi.1 ht
   exact (h4 z hz).2
end
set_option maxRecDepth 100000 in
theorem Fk9 : Kids Tryz.prog (· < (Tryz.prog).types.size) := kids_rows (by kernel_rfl) (by kernel_rfl)
set_option maxRecDepth 100000 in
theorem An9 : ((List.range (Tryz.prog).types.size).all fun t => match (Tryz.prog).underlying t with | some (.slice e) => decide (0 < (Tryz.prog).cellsOf e) | _ => true) = true := by kernel_rfl
theorem Aj4 {t e : TypeId} (ht : t < (Tryz.prog).types.size) (h : (Tryz.prog).underlying t = some (.slice e)) : 0 < (Tryz.prog).cellsOf e := by
 have := lB0.1 An9 t (lAn.2 ht)
 rw [h] at this
 simpa using this
end Go.EV
