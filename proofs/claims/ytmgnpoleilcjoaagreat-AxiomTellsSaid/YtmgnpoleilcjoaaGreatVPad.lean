/- Part of the proof of a statement about executions of litmus programs: walks and laws. -/
import Derived.Test.YtmgnpoleilcjoaaGreatVPac
import Derived.Shelf.GgSortFunc.Insertion
import Derived.Shelf.SlSortCmp.NoneTotal
import Derived.Shelf.SlGeneric
import Derived.Ground.SlsfProg
set_option maxRecDepth 8000
set_option linter.unusedSimpArgs false
set_option linter.unusedVariables false
set_option linter.unusedSectionVars false
namespace Go.EV
open Go.Proofs
def Bl (p : List Ev) : List Int := Cy p.length fun i => decide ((evAt p i).op.kind = 3) || decide ((evAt p i).op.kind = 4)
def Kh (p : List Ev) : Nat → List Bool
 | 0 => List.replicate p.length false
 | i + 1 => (Kh p i).set i (decide ((evAt p i).op.kind = 1) || decide ((evAt p i).op.kind = 2))
def Ju (p : List Ev) (set : Nat) : Nat → List Bool
 | 0 => Kh p p.length
 | k + 1 => (Ju p set k).set (Ad (Bl p) k).toNat (set.testBit k)
def Ir (p : List Ev) (set : Nat) : List Bool := Ju p set (Bl p).length
def K2 (p : List Ev) : List (List Bool) := (List.range (2 ^ (Bl p).length)).map (Ir p)
theorem Jv (p : List Ev) : ∀ i, (Kh p i).length = p.length
 | 0 => by simp [Kh]
 | i + 1 => by simp [Kh, Jv p i]
theorem Jw (p : List Ev) (set : Nat) : ∀ k, (Ju p set k).length = p.length
 | 0 => Jv p _
 | k + 1 => by simp [Ju, Jw p set k]
theorem E3 (p : List Ev) (set : Nat) : (Ir p set).length = p.length := Jw p set _
theorem Cr6 {x : Nat} : BitVec.ofInt IntKind.i64.bits (x : Int) = (BitVec.ofNat 64 x : BitVec IntKind.i64.bits) := BitVec.ofInt_natCast 64 x
theorem At6 {x b : Nat} (hx : x < 2 ^ 62) (hb : b < 64) : decide (IntKind.i64.wrap ((BitVec.ofInt IntKind.i64.bits ((x : Int).fdiv (2 ^ min b IntKind.i64.bits)) &&& BitVec.ofInt IntKind.i64.bits 1).toNat : Int) = 1) = x.testBit b := by
 have e0 : min b IntKind.i64.bits = b := Nat.min_eq_left (show b ≤ 64 by omega)
 rw [e0]
 have e1 : (x : Int).fdiv (2 ^ b) = ((x / 2 ^ b : Nat) : Int) := by
  rw [Int.fdiv_eq_ediv_of_nonneg _ (by exact_mod_cast Nat.zero_le _)]; simp
 have hd : x / 2 ^ b < 2 ^ 64 := Nat.lt_of_le_of_lt (Nat.div_le_self _ _) (Nat.lt_trans hx (by decide))
 rw [e1, Cr6]
 have e : (BitVec.ofNat 64 (x / 2 ^ b) &&& BitVec.ofInt 64 1).toNat = (x / 2 ^ b) % 2 := by
  rw [BitVec.toNat_and, BitVec.toNat_ofNat, Nat.mod_eq_of_lt hd]
  show (x / 2 ^ b) &&& 1 = _
  exact Nat.and_one_is_mod _
 show decide (IntKind.i64.wrap ((BitVec.ofNat 64 (x / 2 ^ b) &&& BitVec.ofInt 64 1).toNat : Int) = 1) = _
 rw [e, w64 (by omega) (by omega)]
 rw [Nat.testBit_eq_decide_div_mod_eq]
 simp only [decide_eq_decide]
 omega
theorem At7 {b : Nat} (hb : b < 62) : IntKind.i64.wrap (1 * 2 ^ min b IntKind.i64.bits) = ((2 ^ b : Nat) : Int) := by
 have e0 : min b IntKind.i64.bits = b := Nat.min_eq_left (show b ≤ 64 by omega)
 rw [e0, Int.one_mul]
 have h : 2 ^ b < 2 ^ 62 := Nat.pow_lt_pow_right (by decide) hb
 rw [show ((2 : Int) ^ b) = ((2 ^ b : Nat) : Int) from by simp]
 generalize 2 ^ b = y at *
 exact w64 (by omega) (by omega)
def ElB (x : List Bool) (v : Value) (M : Aa) : Prop := SlC M 1 eb v x
section
variable {M : Aa}
theorem Qv (p : List Ev) {pb po pc b1 : Nat} (h1 : rd M b1 0 1 [.slice (some ⟨pb, po, none⟩) p.length pc]) (i : Nat) (hi : i < p.length) (hp : rd M pb (po + i * 6) 6 (A4 (evAt p i))) :
  Aq Tryz.prog 108 #[vi i, pv b1 0] M (vb (decide ((evAt p i).op.kind = 3) || decide ((evAt p i).op.kind = 4))) := by
 have jk := hp.pt 0 1 (by omega) rfl
 have aA : (i : Int) < p.length := by omega
 refine Con.enter Q15_ok (args := [vi i, pv b1 0]) (by simp [Q15]) fun w0 => ?_
 simp only [Q15, A5]
 repeat' first
   | refine EV.seq ?_
   | refine rg ?_
   | with_reducible assumption
   | (refine A0.merge ?_ (fun hc K' hK => ?_) ?_; rotate_left)
   | refine rt Q15_ok ?_
   | (refine And.intro (by omega) ?_)
   | ((first | refine xm ?_ | refine xn ?_ | fail); try refine nx ?_)
   | exact ⟨⟩
   | fail
 all_goals simp_all
set_option maxHeartbeats 4000000 in
theorem Uu (p : List Ev) (ax : p.length ≤ 32) {ps : Value} {pb : Nat} (hps : Sl M 6 A4 ps p) (h1 : rd M pb 0 1 [ps]) : Y5 Tryz.prog 107 #[] #[pv pb 0] M (K2 p) ElB := by
 intro ly I S M1 G hM aF hy xs hI
 have cT := h1.mono hM
 have eM := hps.mono hM
 obtain ⟨ea, ec, rfl, am⟩ := eM
 refine Con.enter Q14_ok (args := [yv ly, pv pb 0]) (by simp [Q14]) fun w0 => ?_
 simp only [Q14, A5]
 repeat' first
   | refine EV.seq ?_
   | refine rg ?_
   | (refine xn ?_; try refine nx ?_)
   | exact ⟨⟩
   | fail
 refine Con.callB (G1 := []) (Jq p _ ⟨ea, ec, rfl, am.mono (Aa.le_add _ _)⟩ (by omega) _ _ (fun i => decide ((evAt p i).op.kind = 3) || decide ((evAt p i).op.kind = 4)) ?_) (Aa.le_refl _) (List.Perm.refl _) ?_
 ·intro M' bR i hi
  obtain ⟨eb1, eo, rfl, hat⟩ := Sl.at (enc := A4) (fun _ => rfl) (by decide) am (by omega)
  have aj := Aa.le_trans (Aa.le_add M1 G) bR
  exact Qv p (cT.mono aj) i hi ((Sl.evAt hat i hi).mono aj)
 rintro v M' G' ⟨of, rfl, jH, rfl⟩
 change E6 1 of (Bl p).length ((Bl p).map vi) at jH
 have iE : Hm p (Bl p) := fun x hx => by
  obtain ⟨i, h1, _, rfl⟩ := Dm.1 hx; omega
 have az : (Bl p).length ≤ p.length := Bz _ _
 rw [show Cy p.length (fun i => decide ((evAt p i).op.kind = 3) || decide ((evAt p i).op.kind = 4)) = Bl p from rfl]
 have oX : ¬ (((Bl p).length : Int) < 0) := by omega
 have bL := At7 (b := (Bl p).length) (by omega)
 have uZ : 2 ^ (Bl p).length ≤ 2 ^ 32 := Nat.pow_le_pow_right (by decide) (by omega)
 repeat' first
   | fail
 refine EV.keep G ?_
 generalize hR : M1.add _ = N
 have aC : M1.le N := hR ▸ Aa.le_add _ _
 have bU : rdS N 1 (oad of) (Bl p).length ((Bl p).map vi) := hR ▸ D9 (T := 3) jH (fun q hq => by simpa using hq)
 have jw := cT.mono aC
 have gh := aF _ _ _ _ aC hI
 clear hR
 repeat' first
   | refine EV.seq ?_
   | refine EV.block ?_
   | (refine EV.reg ?_; (conv => (arg 2; whnf)); (repeat first | refine nx ?_ | simp only [oX, bL]))
   | fail
 have lf : (2 : Int) ^ (Bl p).length = ((2 ^ (Bl p).length : Nat) : Int) := by simp
 generalize oY : 2 ^ (Bl p).length = n2 at *
 refine EV.loopTo (fun x : Nat × Aa × Own => ([(0, yv ly), (1, pv pb 0), (3, osv of (Bl p).length), (15, vi n2), (16, vi x.1)], x.2.1, x.2.2))
  (fun x => x.1 ≤ n2 ∧ N.le x.2.1 ∧ I (xs ++ (List.range x.1).map (Ir p)) x.2.1 x.2.2) (fun x => n2 - x.1) (0, N, G) rfl ⟨Nat.zero_le _, Aa.le_refl _, by simpa using gh⟩ ?env1 (List.Sublist.refl _) ?_
 case env1 =>
  simp only [lf]
  exact eE
 rintro ⟨set, Mi, Gi⟩ ⟨gV, bN, gL⟩ ih
 dsimp only at gV bN gL ih ⊢
 repeat' first
   | refine EV.seq ?_
   | refine EV.skip ?_
   | refine EV.block ?_
   | refine rg ?_
   | (refine cX (fun h => ?_) (fun h => ?_) <;> try exact Ah h)
   | (refine EV.exit rfl ?_)
   | exact ⟨⟩
   | fail
 ·have u0 := jw.mono bN
  repeat' first
    | refine EV.seq ?_
    | refine EV.block ?_
    | (refine EV.reg ?_; (conv => (arg 2; whnf)); (repeat first | refine nx ?_ | simp only [A3]))
    | (with_reducible intro b; (repeat first | refine nx ?_ | simp only [A3]))
    | (refine And.intro (by omega) ?_)
    | (refine xn ?_; (repeat first | refine nx ?_ | simp only [A3]))
    | fail
  rename Nat => db
  refine EV.loopTo (fun i : Nat => ([(0, yv ly), (1, pv pb 0), (3, osv of (Bl p).length), (4, vi set), (5, Bg db p.length p.length), (15, vi n2), (16, vi set), (22, .slice ea p.length ec), (23, vi p.length), (24, vi i)], Mi, (db, Cl 4 ((Kh p i).map vb)) :: Gi))
   (fun i => i ≤ p.length) (fun i => p.length - i) 0 rfl (Nat.zero_le _) ?env2 ?sub2 ?_
  case env2 =>
   exact eE
  case sub2 =>
   simp only [Kh, List.map_replicate]
   exact List.Sublist.refl _
  intro i hi ih2
  dsimp only at hi ih2 ⊢
  repeat' first
    | refine EV.seq ?_
    | refine EV.skip ?_
    | refine EV.block ?_
    | refine rg ?_
    | (refine cX (fun h => ?_) (fun h => ?_) <;> try exact Ah h)
    | (refine EV.exit rfl ?_)
    | exact ⟨⟩
    | fail
  ·have aA : i < p.length := by omega
   obtain ⟨pb1, po, rfl, hat⟩ := Sl.at (enc := A4) (fun _ => rfl) (by decide) am (by omega)
   have eC := (Sl.evAt hat i aA).mono (Aa.le_trans aC bN)
   have bI := Jv p i
   have ih3 := ih2 (i + 1) (by omega) (by omega)
   rw [show Kh p (i + 1) = (Kh p i).set i (decide ((evAt p i).op.kind = 1) || decide ((evAt p i).op.kind = 2)) from rfl] at ih3
   generalize Kh p i = q at *
   clear ih ih2 hat
   repeat' first
     | refine EV.inBlock ?_
     | (refine EV.reg ?_; (conv => (arg 2; whnf)); (repeat first | refine nx ?_ | simp only [Ar, List.length_map, bI, aA]))
     | with_reducible assumption
     | (refine A0.merge ?_ (fun hc K' hK => ?_) ?_; rotate_left)
     | (with_reducible intro b; (repeat first | refine nx ?_ | simp only [Ar, List.length_map, bI, aA]))
     | (refine And.intro (by omega) ?_)
     | ((first | refine xm ?_ | refine xiA rfl ?_ | fail); (repeat first | refine nx ?_ | simp only [Ar, List.length_map, bI, aA]))
     | (refine xw ?_; (repeat first | refine nx ?_ | simp only [Ar, List.length_map, bI, aA]))
     | fail
   refine EV.toS ih3 ?_
   exact eE
  ·have bM : i = p.length := by omega
   subst bM
   clear ih2
   repeat' first
     | fail
   refine EV.loopTo (fun k : Nat => ([(0, yv ly), (1, pv pb 0), (3, osv of (Bl p).length), (4, vi set), (5, Bg db p.length p.length), (15, vi n2), (16, vi set), (43, osv of (Bl p).length), (44, vi (Bl p).length), (45, vi k)], Mi, (db, Cl 4 ((Ju p set k).map vb)) :: Gi))
    (fun k => k ≤ (Bl p).length) (fun k => (Bl p).length - k) 0 rfl (Nat.zero_le _) ?env3 (List.Sublist.refl _) ?_
   case env3 =>
    exact eE
   intro k hk ih2
   dsimp only at hk ih2 ⊢
   repeat' first
     | refine EV.seq ?_
     | refine EV.skip ?_
     | refine EV.block ?_
     | refine rg ?_
     | (refine cX (fun h => ?_) (fun h => ?_) <;> try exact Ah h)
     | (refine EV.exit rfl ?_)
     | exact ⟨⟩
     | fail
   ·have a8 : k < (Bl p).length := by omega
    have oZ : rdS Mi 1 (oad of) (Bl p).length ((Bl p).flatMap ei) := by rw [Ax]; exact bU.mono bN
    obtain ⟨wb, wo, s5, ge⟩ := Sl.at (sz := 1) (enc := ei) (fun _ => rfl) (by decide) oZ (by omega)
    have rF := B6 ge k a8
    have s6 := D5 iE a8
    have bI := Jw p set k
    have aZ : (Ad (Bl p) k).toNat < p.length := by omega
    have an := At6 (x := set) (b := k) (by omega) (by omega)
    have jI : ¬ ((k : Int) < 0) := by omega
    have ih3 := ih2 (k + 1) (by omega) (by omega)
    rw [show Ju p set (k + 1) = (Ju p set k).set (Ad (Bl p) k).toNat (set.testBit k) from rfl] at ih3
    generalize Ju p set k = q at *
    clear ih ih2 ge
    rw [s5]
    repeat' first
      | refine EV.inBlock ?_
      | (refine EV.reg ?_; (conv => (arg 2; whnf)); (repeat first | refine nx ?_ | simp only [Ar, List.length_map, bI, aZ, an, jI]))
      | (refine And.intro (by omega) ?_)
      | (refine xm ?_; (repeat first | refine nx ?_ | simp only [Ar, List.length_map, bI, aZ, an, jI]))
      | (refine xw ?_; (repeat first | refine nx ?_ | simp only [Ar, List.length_map, bI, aZ, an, jI]))
      | fail
    refine EV.toS ih3 ?_
    exact eE
   ·have dY : k = (Bl p).length := by omega
    subst dY
    clear ih2
    rw [show Ju p set (Bl p).length = Ir p set from rfl]
    have bI := E3 p set
    repeat' first
      | fail
    refine E7.keep Gi ?_
    have fV : ElB (Ir p set) (Bg db p.length p.length) (Mi.add [(db, Cl 4 ((Ir p set).map vb))]) := by
     refine ⟨some ⟨db, 0, none⟩, p.length, by rw [bI], by omega, Or.inr ⟨db, 0, rfl, ?_⟩⟩
     rw [H8, bI, Nat.mul_one]
     exact Fd bI
    refine Ky.run (hy (xs ++ (List.range set).map (Ir p)) (Ir p set) (List.mem_map.2 ⟨set, List.mem_range.2 (by omega), rfl⟩) _ Gi _ (Aa.le_trans aC (Aa.le_trans bN (Aa.le_add _ _))) (aF _ _ _ _ (Aa.le_add _ _) gL) (by simpa using fV)) ?_
    rintro v3 M3 G3 eL (⟨rfl, oT⟩ | ⟨rfl, oU⟩)
    ·simp only [wpS, wpA, Ka, push_cast, Int.cast_ofNat_Int, reduceIte, Nat.reduceEqDiff, reduceCtorEq, Nat.reduceAdd, Nat.reduceSub, Nat.reduceMul, Int.reduceToNat, Nat.reduceLeDiff]
     repeat' first
       | refine EV.skip ?_
       | refine EV.inBlock ?_
       | (refine EV.reg ?_; (conv => (arg 2; whnf)); (repeat first | refine nx ?_ | simp only [Bool.not_true]))
       | (refine cX (fun h => ?_) (fun h => ?_) <;> try exact Ah h)
       | fail
     have ih3 := ih (set + 1, M3, G3) ⟨by dsimp only; omega, Aa.le_trans bN (Aa.le_trans (Aa.le_add _ _) eL), by
      dsimp only
      rw [List.range_succ, List.map_append, List.map_singleton, ← List.append_assoc]; exact oT⟩ (by dsimp only; omega)
     dsimp only at ih3
     refine EV.toS ih3 ?_
     exact eE
    ·simp only [wpS, wpA, Ka, push_cast, Int.cast_ofNat_Int, reduceIte, Nat.reduceEqDiff, reduceCtorEq, Nat.reduceAdd, Nat.reduceSub, Nat.reduceMul, Int.reduceToNat, Nat.reduceLeDiff]
     repeat' first
       | (refine cX (fun h => ?_) (fun h => ?_) <;> try exact Ah h)
       | fail
     (refine rt Q14_ok ?_; try with_reducible exact ⟨⟩)
     exact Or.inr oU
 ·have gY : set = n2 := by omega
  refine EV.done Q14_ok ?_
  (repeat first | refine nx ?_ | simp only [Q14])
  left
  subst gY
  rw [K2, oY]; exact gL
theorem Xd (p : List Ev) (ax : p.length ≤ 32) {ps : Value} (hps : Sl M 6 A4 ps p) : Con Tryz.prog 78 #[ps] M [] (Its (K2 p) ElB) := by
 refine Con.enter Q13_ok (args := [ps]) (by simp [Q13]) fun w0 => ?_
 simp only [Q13, A5]
 have cH := hps
 obtain ⟨ea, ec, rfl, am⟩ := hps
 repeat' first
   | refine EV.seq ?_
   | refine rg ?_
   | (with_reducible intro b; try refine nx ?_)
   | exact ⟨⟩
   | fail
 refine EV.keep [] ?_
 generalize hR : M.add _ = N
 have aC : M.le N := hR ▸ Aa.le_add _ _
 (refine rt Q13_ok ?_; try with_reducible exact ⟨⟩)
 exact ⟨_, _, rfl, Uu p ax (cH.mono aC) (hR ▸ Bv (T := 74) (cs := [.slice ea p.length ec]) (by simp) rfl (by simp))⟩
end
end Go.EV

namespace Go.EV
open Go.Proofs
def Ia (p : List Ev) (ord : List (List Int)) (i : Nat) : List Int := -1 :: (ord[(evAt p i).op.loc.toNat]?.getD [])
def Fo (l : List Int) (i : Nat) : Int := Ad l (l.findIdx (fun y => decide ((i : Int) = y)) - 1)
def Bt (p : List Ev) (dn : List Bool) (ord : List (List Int)) (i : Nat) : List Int :=
 if (evAt p i).reads = false then [-2] else if dn[i]?.getD false then [Fo (Ia p ord i) i] else Ia p ord i
def Ck (p : List Ev) (dn : List Bool) (ord : List (List Int)) : Nat → Nat → List (List Int)
 | 0, _ => [[]]
 | k + 1, i => (Bt p dn ord i).flatMap fun w => (Ck p dn ord k (i + 1)).map (w :: ·)
def K3 (p : List Ev) (dn : List Bool) (ord : List (List Int)) : List (List Int) := Ck p dn ord p.length 0
structure OrdsOk (p : List Ev) (dn : List Bool) (ord : List (List Int)) : Prop where
 len : ord.length = 3
 bnd : ∀ l ∈ ord, l.length ≤ p.length
 mem : ∀ i, i < p.length → (evAt p i).reads = true → dn[i]?.getD false = true → (i : Int) ∈ ord[(evAt p i).op.loc.toNat]?.getD []
structure FromB (p : List Ev) (dn : List Bool) (ord : List (List Int)) (M : Aa) (l pb yb rb wb ob db fb : Nat) (ea da oa : Option Addr) (ec dc oc : Nat) (ovs : List Value) : Prop where
 hp : rd M pb 0 1 [.slice ea p.length ec]
 hy : rd M yb 0 1 [yv l]
 hr : rd M rb 0 1 [Bg fb p.length p.length]
 hw : rd M wb 0 1 [.func (.func 112) #[] #[pv pb 0, pv yb 0, pv rb 0, pv wb 0, pv ob 0, pv db 0]]
 ho : rd M ob 0 1 [.slice oa ord.length oc]
 hd : rd M db 0 1 [.slice da dn.length dc]
 pr : rdS M 6 ea p.length (p.flatMap A4)
 dr : rdS M 1 da dn.length (dn.flatMap eb)
 ol : ovs.length = ord.length
 orr : rdS M 1 oa ord.length ovs
 ok : ∀ i (h : i < ovs.length) (h' : i < ord.length), SlC M 1 ei ovs[i] ord[i]
section
variable {p : List Ev} {dn : List Bool} {ord : List (List Int)} {l pb yb rb wb ob db fb : Nat} {ea da oa : Option Addr} {ec dc oc : Nat} {ovs : List Value}
theorem FromB.mono {M M' : Aa} (h : FromB p dn ord M l pb yb rb wb ob db fb ea da oa ec dc oc ovs) (hM : M.le M') : FromB p dn ord M' l pb yb rb wb ob db fb ea da oa ec dc oc ovs :=
 ⟨h.hp.mono hM, h.hy.mono hM, h.hr.mono hM, h.hw.mono hM, h.ho.mono hM, h.hd.mono hM, h.pr.mono hM, h.dr.mono hM, h.ol, h.orr.mono hM, fun i a b => (h.ok i a b).mono hM⟩
theorem Ad3 {ord0 : List Int} {i : Nat} (hm : (i : Int) ∈ ord0) : ∃ k, (-1 :: ord0).findIdx (fun y => decide ((i : Int) = y)) = k + 1 ∧ k + 1 < (-1 :: ord0 : List Int).length := by
 have h1 : ((-1 :: ord0 : List Int)).findIdx (fun y => decide ((i : Int) = y)) = ord0.findIdx (fun y => decide ((i : Int) = y)) + 1 := by
  rw [List.findIdx_cons]
  have : decide ((i : Int) = -1) = false := decide_eq_false (by omega)
  rw [this]; rfl
 refine ⟨_, h1, ?_⟩
 have := List.findIdx_lt_length (p := fun y => decide ((i : Int) = y)).2 ⟨(i : Int), hm, decide_eq_true rfl⟩
 simp only [List.length_cons]; omega
theorem take_set {cur : List Int} {i : Nat} (hi : i < cur.length) (w : Int) : (cur.set i w).take (i + 1) = cur.take i ++ [w] := by
 rw [List.take_succ_eq_append_getElem (by simpa using hi), List.take_set_of_le (Nat.le_refl i)]
 simp
set_option maxHeartbeats 4000000 in
theorem Xe (hp : POk p) (bI : dn.length = p.length) (iV : OrdsOk p dn ord) {L : List (List Int)} {I : List (List Int) → Aa → Own → Prop} {S : Aa → Own → Prop} {M0 : Aa}
  (aF : ∀ xs M2 M3 G2, M2.le M3 → I xs M2 G2 → I xs M3 G2)
  (hy : ∀ xs x, x ∈ L → ∀ M2 G2 v, M0.le M2 → I xs M2 G2 → SlC M2 1 ei v x → Ky Tryz.prog l #[v] M2 G2 fun b M3 G3 => (b = .bool true ∧ I (xs ++ [x]) M3 G3) ∨ (b = .bool false ∧ S M3 G3)) :
  ∀ (k i : Nat) (cur : List Int) (xs : List (List Int)) (M : Aa) (G : Own), i + k = p.length → cur.length = p.length → M0.le M → FromB p dn ord M l pb yb rb wb ob db fb ea da oa ec dc oc ovs →
   (∀ m ∈ Ck p dn ord k i, cur.take i ++ m ∈ L) → I xs M G →
   Con Tryz.prog 112 #[vi i, pv pb 0, pv yb 0, pv rb 0, pv wb 0, pv ob 0, pv db 0] M ((fb, Cl 3 (cur.map vi)) :: G) fun v M' G' =>
    ∃ (cur' : List Int) (G1 : Own), G'.Perm ((fb, Cl 3 (cur'.map vi)) :: G1) ∧ cur'.length = p.length ∧ cur'.take i = cur.take i ∧
     ((v = .bool true ∧ I (xs ++ (Ck p dn ord k i).map (cur.take i ++ ·)) M' G1) ∨ (v = .bool false ∧ S M' G1)) := by
 have hb := hp.len
 intro k
 induction k with
 | zero =>
  intro i cur xs M G dp aO hM hB hL hI
  have hi : i = p.length := by omega
  subst hi
  have h1 := hB.hp
  have h2 := hB.hy
  have h3 := hB.hr
  refine Con.enter Q26_ok (args := [vi p.length, pv pb 0, pv yb 0, pv rb 0, pv wb 0, pv ob 0, pv db 0]) (by simp [Q26]) fun w0 => ?_
  simp only [Q26, A5]
  repeat' first
    | refine EV.seq ?_
    | (refine EV.reg ?_; (conv => (arg 2; whnf)); (repeat first | refine nx ?_ | simp only [decide_true]))
    | (refine cX (fun h => ?_) (fun h => ?_) <;> try exact Ah h)
    | (refine xn ?_; (repeat first | refine nx ?_ | simp only [decide_true]))
    | fail
  refine EV.any (t := Cg6) [] (List.nil_sublist _) ?_
  simp only [Ao, As, Am, Au, reduceIte, Nat.reduceEqDiff]
  repeat' first
    | ((first | refine zo (fun lq aB => ?_) | refine zl ?_ | fail); try refine nz ?_)
    | (refine Sa (by first | with_reducible assumption | rfl) (fun tq aE => ?_) (fun tq aE => ?_) <;> try refine nz ?_)
    | exact zn
    | ((first | refine xm ?_ | refine xn ?_ | fail); try refine nz ?_)
    | exact ⟨⟩
    | fail
  have bw : Sl (M.add ((fb, Cl 3 (cur.map vi)) :: G)) 1 ei (Bg fb p.length p.length) cur := ⟨some ⟨fb, 0, none⟩, p.length, by rw [aO], Or.inr ⟨fb, 0, rfl, by rw [Ax, Nat.mul_one, aO]; exact Fd aO⟩⟩
  refine Con.callB (G1 := []) (Fw cur _ bw (by omega)) (Aa.le_refl _) (List.Perm.refl _) ?_
  rintro v1 M1 G1 ⟨o1, rfl, bF, rfl⟩
  refine ⟨Aa.le_refl _, fun q hq => absurd hq List.not_mem_nil, ?_⟩
  repeat' first
    | (refine zl ?_; try refine nz ?_)
    | refine zq (fun lq tq aB aE => ?_)
    | (refine Ec (by first | with_reducible assumption | rfl) (fun tq aE => ?_) (fun tq aE => ?_) <;> try refine nz ?_)
    | exact zn
    | exact ⟨⟩
    | fail
  refine E7.frzS (osg 3 o1 (cur.map vi)) ?_
  have aJ : cur ∈ L := by
   have := hL [] (by simp [Ck])
   rwa [List.append_nil, List.take_of_length_le (by omega)] at this
  have bK : SlC (M.add (osg 3 o1 (cur.map vi))) 1 ei (osv o1 cur.length) cur := Hp bF rfl (fun q hq => hq)
  refine Ky.callS (hy xs cur aJ _ G _ (Aa.le_trans hM (Aa.le_add _ _)) (aF _ _ _ _ (Aa.le_add _ _) hI) bK) ?_
  rintro b M2 G2 bE dS
  repeat' first
    | ((first | refine zo (fun lq aB => ?_) | refine zl ?_ | fail); try refine nz ?_)
    | refine zq (fun lq tq aB aE => ?_)
    | refine zf ?_
    | exact ⟨⟩
    | fail
  (refine rt Q26_ok ?_; try with_reducible exact ⟨⟩)
  refine ⟨cur, G2, List.Perm.refl _, aO, rfl, ?_⟩
  simpa [Ck, List.take_of_length_le (Nat.le_of_eq aO)] using dS
 | succ k ihk =>
  intro i cur xs M G dp aO hM hB hL hI
  have hi : i < p.length := by omega
  have h1 := hB.hp
  have h2 := hB.hy
  have h3 := hB.hr
  have h4 := hB.hw
  have h5 := hB.ho
  have h6 := hB.hd
  obtain ⟨eb1, eo, rfl, hat⟩ := Sl.at (enc := A4) (fun _ => rfl) (by decide) hB.pr (by omega)
  have eC := Sl.evAt hat i hi
  have o4 := eC.pt 1 1 (by omega) rfl
  have u1 : (i : Int) < p.length := by omega
  have hne : decide ((i : Int) = p.length) = false := decide_eq_false (by omega)
  have s7 : i < cur.length := by omega
  have aq : IntKind.i64.wrap ((i : Int) + 1) = ((i + 1 : Nat) : Int) := w64 (by omega) (by omega)
  refine Con.enter Q26_ok (args := [vi i, pv pb 0, pv yb 0, pv rb 0, pv wb 0, pv ob 0, pv db 0]) (by simp [Q26]) fun w0 => ?_
  simp only [Q26, A5]
  cases hre : (evAt p i).reads with
  | false =>
   have ft : Bt p dn ord i = [-2] := by simp [Bt, hre]
   repeat' first
     | refine EV.seq ?_
     | refine EV.skip ?_
     | (refine EV.reg ?_; (conv => (arg 2; whnf)); (repeat first | refine nx ?_ | simp only [hne, hre, aq, Ar, List.length_map, aO, hi]))
     | (refine Aq.call (By (evAt p i)) ?_; (repeat first | refine nx ?_ | simp only [hne, hre, aq, Ar, List.length_map, aO, hi]))
     | (refine cX (fun h => ?_) (fun h => ?_) <;> try exact Ah h)
     | (refine And.intro (by omega) ?_)
     | ((first | refine xm ?_ | refine xn ?_ | fail); (repeat first | refine nx ?_ | simp only [hne, hre, aq, Ar, List.length_map, aO, hi]))
     | (refine xw ?_; (repeat first | refine nx ?_ | simp only [hne, hre, aq, Ar, List.length_map, aO, hi]))
     | fail
   have iW := take_set s7 (-2)
   refine Con.run (ihk (i + 1) (cur.set i (-2)) xs M G (by omega) (by rw [List.length_set]; exact aO) hM hB (fun m hm => ?_) hI) ?_
   ·rw [iW, List.append_assoc]
    refine hL _ ?_
    simp only [Ck, ft, List.flatMap_singleton]
    exact List.mem_map.2 ⟨m, hm, rfl⟩
   rintro v M' G' bR ⟨cur', G1, iL, b7, eW, aD⟩
   repeat' first
     | fail
   (refine rt Q26_ok ?_; try with_reducible exact ⟨⟩)
   rw [iW] at eW aD
   refine ⟨cur', G1, iL, b7, ?_, ?_⟩
   ·have := congrArg (List.take i) eW
    rw [List.take_take, Nat.min_eq_left (by omega)] at this
    rw [this, List.take_append_of_le_length (by rw [List.length_take]; omega), List.take_take, Nat.min_self]
   ·have e : (Ck p dn ord (k + 1) i).map (cur.take i ++ ·) = (Ck p dn ord k (i + 1)).map ((cur.take i ++ [-2]) ++ ·) := by
     simp only [Ck, ft, List.flatMap_singleton, List.map_map]
     apply List.map_congr_left; intro y _; simp
    rw [e]; exact aD
  | true =>
   have ft : Bt p dn ord i = if dn[i]?.getD false then [Fo (Ia p ord i) i] else Ia p ord i := by simp [Bt, hre]
   have bX := hp.loc i hi
   have dX := iV.len
   have hlo : (evAt p i).op.loc.toNat < ord.length := by omega
   obtain ⟨ob1, oo, rfl, bA⟩ := C7.at hB.orr hB.ol hB.ok (by omega)
   obtain ⟨db1, do1, rfl, gg⟩ := Sl.at (sz := 1) (enc := eb) (fun _ => rfl) (by decide) hB.dr (by omega)
   obtain ⟨la, lc, aW, cE, aS⟩ := bA _ hlo
   rw [Nat.mul_one] at aW
   rw [Ax] at aS
   have ld : rd M db1 (do1 + i) 1 [vb (dn[i]?.getD false)] := by
    have := gg i (by omega)
    rw [Nat.mul_one] at this
    rwa [List.getElem?_eq_getElem (by omega : i < dn.length)]
   have s8 : (evAt p i).op.loc < (ord.length : Int) := by omega
   have sW : (i : Int) < dn.length := by omega
   have cI : Ia p ord i = -1 :: ord[(evAt p i).op.loc.toNat] := by simp only [Ia]; rw [List.getElem?_eq_getElem hlo]; rfl
   have fB := iV.bnd _ (List.getElem_mem hlo)
   have nN := iV.mem i hi hre
   rw [show ord[(evAt p i).op.loc.toNat]?.getD [] = ord[(evAt p i).op.loc.toNat] from by rw [List.getElem?_eq_getElem hlo]; rfl] at nN
   generalize ord[(evAt p i).op.loc.toNat] = o0 at *
   repeat' first
     | refine EV.seq ?_
     | refine EV.skip ?_
     | (refine EV.reg ?_; (conv => (arg 2; whnf)); (repeat first | refine nx ?_ | simp only [hne, hre]))
     | (refine Aq.call (By (evAt p i)) ?_; (repeat first | refine nx ?_ | simp only [hne, hre]))
     | (refine cX (fun h => ?_) (fun h => ?_) <;> try exact Ah h)
     | (refine And.intro (by omega) ?_)
     | ((first | refine xm ?_ | refine xn ?_ | fail); (repeat first | refine nx ?_ | simp only [hne, hre]))
     | fail
   refine EV.any (t := Cg7) [] (List.nil_sublist _) ?_
   simp only [Ao, As, Am, Au, reduceIte, Nat.reduceEqDiff]
   repeat' first
     | ((first | refine zo (fun lq aB => ?_) | refine zl ?_ | fail); try refine nz ?_)
     | refine zq (fun lq tq aB aE => ?_)
     | (refine Sa (by first | with_reducible assumption | rfl) (fun tq aE => ?_) (fun tq aE => ?_) <;> try refine nz ?_)
     | (refine Ec (by first | with_reducible assumption | rfl) (fun tq aE => ?_) (fun tq aE => ?_) <;> try refine nz ?_)
     | exact zn
     | (refine And.intro (by omega) ?_)
     | ((first | with_reducible intro b | refine xm ?_ | refine xn ?_ | refine And.intro (Aa.le_refl _) (And.intro (A8 ?_) ?_); focus ((repeat' first | exact List.Sublist.refl _ | exact List.nil_sublist _ | exact List.sublist_append_left _ _ | refine List.Sublist.cons_cons _ ?_ | refine List.Sublist.append_left ?_ _ | refine List.sublist_append_of_sublist_right ?_ | refine List.Sublist.cons _ ?_); done) | fail); try refine nz ?_)
     | exact ⟨⟩
     | fail
   refine ⟨o0.map vi, Yt aS, Y6 _, Or.inl ⟨some (b, 1, []), 1, rfl, [vi (-1)], ⟨rfl, rfl, Nat.le_refl _, by decide⟩, (fb, Cl 3 (cur.map vi)) :: G, by simp [osg], by simp only [maxLen]; omega, by omega, fun o2 bD _ => ?_⟩⟩
   repeat' first
     | ((first | refine zo (fun lq aB => ?_) | refine zl ?_ | fail); try refine nz ?_)
     | refine zq (fun lq tq aB aE => ?_)
     | refine zf ?_
     | exact ⟨⟩
     | fail
   have iX : E6 1 o2 (1 + o0.length) ((Ia p ord i).map vi) := by rw [cI]; simpa using bD
   rw [show vi (-1) :: o0.map vi = (Ia p ord i).map vi from by rw [cI]; rfl]
   refine EV.frz (osg 3 o2 ((Ia p ord i).map vi)) ?_
   have lg : (Ia p ord i).length = 1 + o0.length := by rw [cI, List.length_cons]; omega
   have bK : SlC (M.add (osg 3 o2 ((Ia p ord i).map vi))) 1 ei (osv o2 (1 + o0.length)) (Ia p ord i) := Hp iX lg.symm (fun q hq => hq)
   generalize hN : M.add (osg 3 o2 ((Ia p ord i).map vi)) = N at *
   have aC : M.le N := hN ▸ Aa.le_add _ _
   have o5 := hB.mono aC
   have gh := aF _ _ _ _ aC hI
   have rG := ld.mono aC
   have u2 := h6.mono aC
   clear hN aW aS eC o4 h1 h2 h5 hat gg bA
   refine EV.seq (EV.thru (fun ρ' M' G' => ∃ ca cc, M' = N ∧ rdS N 1 ca (Bt p dn ord i).length ((Bt p dn ord i).map vi) ∧ (∀ q ∈ [(0, vi i), (1, pv pb 0), (2, pv yb 0), (3, pv rb 0), (4, pv wb 0), (5, pv ob 0), (6, pv db 0), (9, .slice ca (Bt p dn ord i).length cc)], get ρ' q.1 = some q.2) ∧ G' = (fb, Cl 3 (cur.map vi)) :: G) ?_ ?_)
   ·intro k' key
    cases hdn : dn[i]?.getD false with
    | false =>
     rw [hdn] at rG ft
     rw [if_neg (by simp)] at ft
     repeat' first
       | refine EV.seq ?_
       | refine EV.skip ?_
       | refine rg ?_
       | (refine cX (fun h => ?_) (fun h => ?_) <;> try exact Ah h)
       | (refine And.intro (by omega) ?_)
       | ((first | refine xm ?_ | refine xn ?_ | fail); try refine nx ?_)
       | exact ⟨⟩
       | fail
     obtain ⟨a9, c9, e9, _, o6⟩ := bK
     rw [e9]
     refine EV.reS (key _ _ _ ⟨a9, c9, rfl, ?_, ?_, rfl⟩)
     ·rw [ft]; rwa [Ax] at o6
     ·rw [ft]
      exact eE
    | true =>
     rw [hdn] at rG ft
     rw [if_pos rfl] at ft
     obtain ⟨k0, je, cG⟩ := Ad3 (nN hdn)
     rw [← cI] at je cG
     have o7 : Fm (fun y => decide ((i : Int) = y)) (Ia p ord i) = ((k0 + 1 : Nat) : Int) := by
      rw [Fm, dif_pos (by omega), je]
     have dt : Fo (Ia p ord i) i = Ad (Ia p ord i) k0 := by rw [Fo, je]; rfl
     repeat' first
       | refine EV.seq ?_
       | refine rg ?_
       | (refine Aq.call (Xc (Ia p ord i) _ (bK.sl.mono (Aa.le_add _ _)) (by omega) i) ?_; try refine nx ?_)
       | (refine cX (fun h => ?_) (fun h => ?_) <;> try exact Ah h)
       | (refine And.intro (by omega) ?_)
       | ((first | refine xm ?_ | refine xn ?_ | fail); try refine nx ?_)
       | exact ⟨⟩
       | fail
     obtain ⟨a9, c9, e9, u3, o6⟩ := bK
     cases o2 with
     | none => exact absurd iX.1 (by omega)
     | some ob2 =>
      obtain ⟨b2, cap2, sp2⟩ := ob2
      simp only [Value.slice.injEq, H4, Fr] at e9
      obtain ⟨ea9, en9, ec9⟩ := e9
      subst ea9 ec9
      simp only [Option.map_some, Cb, o7, Fr, H4]
      have dM : IntKind.i64.wrap (((k0 + 1 : Nat) : Int) - 1) = k0 := (w64 (by omega) (by omega)).trans (by omega)
      refine ⟨k0, by rw [dM], k0 + 1, rfl, by omega, by omega, Or.inl rfl, ?_⟩
      have eadd : (⟨b2, 0, none⟩ : Addr).add k0 = ⟨b2, 0 + k0, none⟩ := by
       unfold Addr.add; split
       ·rename_i h0; rw [h0]
       ·rfl
      rw [Nat.add_sub_cancel_left, eadd]
      have o8 : ¬ cap2 = k0 := by omega
      simp only [o8, if_false]
      refine EV.reS (key _ _ _ ⟨some ⟨b2, 0 + k0, none⟩, cap2 - k0, rfl, ?_, ?_, rfl⟩)
      ·rw [ft, dt]
       rcases o6 with ⟨h0, _⟩ | ⟨b', o', e', bj⟩
       ·omega
       ·cases e'
        refine Or.inr ⟨b2, 0 + k0, rfl, ?_⟩
        have cD : k0 < (Ia p ord i).length := by omega
        have := bj.pt (out := [vi (Ia p ord i)[k0]]) k0 1 (by omega) (by rw [Ax]; exact Jp vi _ cD)
        simp only [Ad, List.getElem?_eq_getElem (by omega : k0 < (Ia p ord i).length), Option.getD_some]
        exact this
      ·rw [ft]
       exact eE
   rintro ρ2 M2 G2 ⟨ca, cc, rfl, s9, hq, rfl⟩
   refine EV.to ?_ hq (List.Sublist.refl _)
   clear hq bK
   have sd : (Bt p dn ord i).length ≤ 33 := by
    rw [ft]; split
    ·simp
    ·rw [lg]; omega
   have lh : Ck p dn ord (k + 1) i = (Bt p dn ord i).flatMap fun w => (Ck p dn ord k (i + 1)).map (w :: ·) := rfl
   generalize Bt p dn ord i = ch at *
   repeat' first
     | refine EV.seq ?_
     | refine EV.block ?_
     | refine rg ?_
     | exact ⟨⟩
     | fail
   refine EV.loopTo (fun x : Nat × Aa × Own × List Int => ([(0, vi i), (1, pv pb 0), (2, pv yb 0), (3, pv rb 0), (4, pv wb 0), (5, pv ob 0), (6, pv db 0), (57, .slice ca ch.length cc), (58, vi ch.length), (59, vi x.1)], x.2.1, (fb, Cl 3 (x.2.2.2.map vi)) :: x.2.2.1))
    (fun x => x.1 ≤ ch.length ∧ M2.le x.2.1 ∧ x.2.2.2.length = p.length ∧ x.2.2.2.take i = cur.take i ∧ I (xs ++ ((ch.take x.1).flatMap fun w => (Ck p dn ord k (i + 1)).map (w :: ·)).map (cur.take i ++ ·)) x.2.1 x.2.2.1) (fun x => ch.length - x.1) (0, M2, G, cur) rfl ⟨Nat.zero_le _, Aa.le_refl _, aO, rfl, by simpa using gh⟩ ?env1 (List.Sublist.refl _) ?_
   case env1 =>
    exact eE
   rintro ⟨j, Mj, Gj, cj⟩ ⟨hj, jx, fu, jy, nO⟩ ih
   dsimp only at hj jx fu jy nO ih ⊢
   repeat' first
     | refine EV.seq ?_
     | refine EV.skip ?_
     | refine EV.block ?_
     | refine rg ?_
     | (refine cX (fun h => ?_) (fun h => ?_) <;> try exact Ah h)
     | (refine EV.exit rfl ?_)
     | exact ⟨⟩
     | fail
   ·have aM : j < ch.length := by omega
    obtain ⟨cb, co, rfl, li⟩ := Sl.at (sz := 1) (enc := ei) (fun _ => rfl) (by decide) (by rw [Ax]; exact s9) (by omega)
    have u4 := (B6 li j aM).mono jx
    have u5 := (o5.mono jx).hr
    have u6 := (o5.mono jx).hw
    have o9 : i < cj.length := by omega
    have jJ : Ad ch j = ch[j] := by simp only [Ad, List.getElem?_eq_getElem aM, Option.getD_some]
    clear li
    repeat' first
      | refine EV.seq ?_
      | (refine EV.reg ?_; (conv => (arg 2; whnf)); (repeat first | refine nx ?_ | simp only [aq, Ar, List.length_map, fu, hi]))
      | (refine And.intro (by omega) ?_)
      | ((first | refine xm ?_ | refine xn ?_ | fail); (repeat first | refine nx ?_ | simp only [aq, Ar, List.length_map, fu, hi]))
      | (refine xw ?_; (repeat first | refine nx ?_ | simp only [aq, Ar, List.length_map, fu, hi]))
      | fail
    have iW := take_set o9 (Ad ch j)
    rw [jy] at iW
    refine Con.run (ihk (i + 1) (cj.set i (Ad ch j)) (xs ++ ((ch.take j).flatMap fun w => (Ck p dn ord k (i + 1)).map (w :: ·)).map (cur.take i ++ ·)) Mj Gj (by omega) (by rw [List.length_set]; exact fu) (Aa.le_trans hM (Aa.le_trans aC jx)) (o5.mono jx) (fun m hm => ?_) nO) ?_
    ·rw [iW, List.append_assoc]
     refine hL _ ?_
     rw [lh]
     exact List.mem_flatMap.2 ⟨ch[j], List.getElem_mem aM, List.mem_map.2 ⟨m, hm, by rw [jJ]; rfl⟩⟩
    rintro v M' G' bR ⟨cur', G1, iL, b7, eW, aD⟩
    rw [iW] at eW aD
    have nP : cur'.take i = cur.take i := by
     have := congrArg (List.take i) eW
     rw [List.take_take, Nat.min_eq_left (by omega)] at this
     rw [this, List.take_append_of_le_length (by rw [List.length_take]; omega), List.take_take, Nat.min_self]
    have esum : xs ++ ((ch.take (j + 1)).flatMap fun w => (Ck p dn ord k (i + 1)).map (w :: ·)).map (cur.take i ++ ·) = (xs ++ ((ch.take j).flatMap fun w => (Ck p dn ord k (i + 1)).map (w :: ·)).map (cur.take i ++ ·)) ++ (Ck p dn ord k (i + 1)).map ((cur.take i ++ [Ad ch j]) ++ ·) := by
     rw [List.take_succ_eq_append_getElem aM, List.flatMap_append, List.map_append, ← List.append_assoc, List.flatMap_singleton, List.map_map, jJ]
     congr 1
     apply List.map_congr_left; intro y _; simp
    rcases aD with ⟨rfl, aD⟩ | ⟨rfl, aD⟩
    ·repeat' first
      | refine EV.skip ?_
      | refine EV.inBlock ?_
      | (refine EV.reg ?_; (conv => (arg 2; whnf)); (repeat first | refine nx ?_ | simp only [Bool.not_true]))
      | (refine cX (fun h => ?_) (fun h => ?_) <;> try exact Ah h)
      | fail
     have ih3 := ih (j + 1, M', G1, cur') ⟨by dsimp only; omega, Aa.le_trans jx bR, b7, nP, by rw [esum]; exact aD⟩ (by dsimp only; omega)
     dsimp only at ih3
     refine EV.permG ?_ iL
     refine EV.toS ih3 ?_
     exact eE
    ·repeat' first
      | refine EV.seq ?_
      | (refine EV.reg ?_; (conv => (arg 2; whnf)); (repeat first | refine nx ?_ | simp only [Bool.not_false]))
      | (refine cX (fun h => ?_) (fun h => ?_) <;> try exact Ah h)
      | fail
     (refine rt Q26_ok ?_; try with_reducible exact ⟨⟩)
     exact ⟨cur', G1, iL, b7, nP, Or.inr aD⟩
   ·have kl : j = ch.length := by omega
    subst kl
    rw [List.take_length] at nO
    (refine rt Q26_ok ?_; try with_reducible exact ⟨⟩)
    exact ⟨cj, Gj, List.Perm.refl _, fu, jy, Or.inl (lh ▸ nO)⟩
set_option maxHeartbeats 4000000 in
theorem Uv {M : Aa} (hp : POk p) (bI : dn.length = p.length) (iV : OrdsOk p dn ord) {ps ds os : Value} (hps : Sl M 6 A4 ps p) (dL : Sl M 1 eb ds dn) (gl : C7 M 1 ei os ord)
  (h1 : rd M pb 0 1 [ps]) (h2 : rd M ob 0 1 [os]) (h3 : rd M db 0 1 [ds]) : Y5 Tryz.prog 111 #[] #[pv pb 0, pv ob 0, pv db 0] M (K3 p dn ord) ElI := by
 intro ly I S M1 G hM aF hy xs hI
 have hb := hp.len
 have cT := h1.mono hM
 have fU := h2.mono hM
 have ki := h3.mono hM
 obtain ⟨ea, ec, rfl, am⟩ := hps
 obtain ⟨da, dc, rfl, kr⟩ := dL
 obtain ⟨oa, oc, ovs, rfl, bG, ai, ae⟩ := gl
 refine Con.enter Q25_ok (args := [yv ly, pv pb 0, pv ob 0, pv db 0]) (by simp [Q25]) fun w0 => ?_
 simp only [Q25, A5]
 refine EV.seq (EV.reg ?_)
 (repeat first | refine nx ?_ | simp only [Cg5])
 intro yb
 repeat' first
   | fail
 refine EV.seq ?_
 repeat' first
   | (refine EV.reg ?_; (conv => (arg 2; whnf)); (repeat first | refine nx ?_ | simp only [A3]))
   | (with_reducible intro b; (repeat first | refine nx ?_ | simp only [A3]))
   | (refine And.intro (by omega) ?_)
   | (refine xn ?_; (repeat first | refine nx ?_ | simp only [A3]))
   | (refine xw ?_; (repeat first | refine nx ?_ | simp only [A3]))
   | fail
 rename Nat => rb
 rename Nat => fb
 refine EV.seq ?_
 repeat' first
   | refine rg ?_
   | (with_reducible intro b; try refine nx ?_)
   | exact ⟨⟩
   | fail
 rename Nat => wb
 refine EV.seq ?_
 repeat' first
   | refine rg ?_
   | (refine xiA rfl ?_; try refine nx ?_)
   | (refine xw ?_; refine nx ?_)
   | exact ⟨⟩
   | fail
 have rH : b = b := rfl
 generalize b = rowb at *
 refine Dt.frzS [(wb, Cl 123 [.func (.func 112) #[] #[pv pb 0, pv yb 0, pv fb 0, pv wb 0, pv ob 0, pv db 0]]), (fb, Cl 34 [Bg rowb p.length p.length]), (yb, Cl 151 [yv ly])] ?_
 generalize hR : M1.add _ = N
 have aC : M1.le N := hR ▸ Aa.le_add _ _
 have dF := Aa.le_trans hM aC
 have hB : FromB p dn ord N ly pb yb fb wb ob db rowb ea da oa ec dc oc ovs :=
  ⟨cT.mono aC, hR ▸ Ap 2 rfl rfl (by simp), hR ▸ Ap 1 rfl rfl (by simp), hR ▸ Ap 0 rfl rfl (by simp), fU.mono aC, ki.mono aC, am.mono dF, kr.mono dF, bG, ai.mono dF, fun i a b => (ae i a b).mono dF⟩
 clear hR
 rw [show (List.replicate p.length (Value.int IntKind.i64 0)) = (List.replicate p.length (0 : Int)).map vi from by simp]
 refine Con.callS (Xe hp bI iV (L := K3 p dn ord) aF (fun xs x hx M2 G2 v h4 h5 h6 => hy xs x hx M2 G2 v (Aa.le_trans aC h4) h5 h6) p.length 0 (List.replicate p.length 0) xs N G (by omega) (by simp) (Aa.le_refl _) hB (fun m hm => by simpa [K3] using hm) (aF _ _ _ _ aC hI)) ?_
 rintro v M' G' bR ⟨cur', G1, iL, b7, eW, aD⟩
 refine EV.permG (G' := (rowb, Cl 3 (cur'.map vi)) :: G1) ?_ (by simpa using iL)
 refine EV.to (ρ' := []) (G' := G1) ?_ (fun _ h => absurd h List.not_mem_nil) (List.sublist_cons_self _ _)
 refine EV.done Q25_ok ?_
 (repeat first | refine nx ?_ | simp only [Q25])
 rcases aD with ⟨_, aD⟩ | ⟨_, aD⟩
 ·left; simpa [K3] using aD
 ·right; exact aD
theorem Xf {M : Aa} (hp : POk p) (bI : dn.length = p.length) (iV : OrdsOk p dn ord) {ps ds os : Value} (hps : Sl M 6 A4 ps p) (dL : Sl M 1 eb ds dn) (gl : C7 M 1 ei os ord) :
  Con Tryz.prog 80 #[ps, ds, os] M [] (Its (K3 p dn ord) ElI) := by
 have cH := hps
 have gm := dL
 have od := gl
 obtain ⟨ea, ec, rfl, am⟩ := hps
 obtain ⟨da, dc, rfl, kr⟩ := dL
 obtain ⟨oa, oc, ovs, rfl, bG, ai, ae⟩ := gl
 refine Con.enter Q24_ok (args := [.slice ea p.length ec, .slice da dn.length dc, .slice oa ord.length oc]) (by simp [Q24]) fun w0 => ?_
 simp only [Q24, A5]
 repeat' first
   | refine EV.seq ?_
   | refine rg ?_
   | (with_reducible intro b; try refine nx ?_)
   | exact ⟨⟩
   | fail
 refine EV.keep [] ?_
 generalize hR : M.add _ = N
 have aC : M.le N := hR ▸ Aa.le_add _ _
 (refine rt Q24_ok ?_; try with_reducible exact ⟨⟩)
 refine ⟨_, _, rfl, Uv hp bI iV (cH.mono aC) (gm.mono aC) (od.mono aC) ?_ ?_ ?_⟩
 ·exact hR ▸ Bv (T := 74) (cs := [.slice ea p.length ec]) (by simp) rfl (by simp)
 ·exact hR ▸ Bv (T := 26) (cs := [.slice oa ord.length oc]) (by simp) rfl (by simp)
 ·exact hR ▸ Bv (T := 35) (cs := [.slice da dn.length dc]) (by simp) rfl (by simp)
end
end Go.EV

namespace Go.EV
open Go.Proofs
def B3 (p : List Ev) (dn : List Bool) : Nat → Int → List (List (List Int))
 | 0, _ => [[]]
 | k + 1, loc => (C2 p (Av p dn loc)).flatMap fun l => (B3 p dn k (loc + 1)).map (l :: ·)
def Qw (p : List Ev) (dn : List Bool) : List (List (List Int)) := B3 p dn 3 0
def ElO (x : List (List Int)) (v : Value) (M : Aa) : Prop := C7 M 1 ei v x
theorem C7.ok1 {H : Aa} {vs : List Value} {xss : List (List Int)} (hl : vs.length = xss.length) (hk : ∀ i (h : i < vs.length) (h' : i < xss.length), SlC H 1 ei vs[i] xss[i]) : ok1 vs := by
 intro v hv
 obtain ⟨i, hi, rfl⟩ := List.getElem_of_mem hv
 obtain ⟨a, c, e, _⟩ := hk i hi (by omega)
 rw [e]; rfl
theorem I2 {p : List Ev} {dn : List Bool} : ∀ (k : Nat) (loc : Int) (x : List (List Int)), x ∈ B3 p dn k loc → x.length = k
 | 0, _, x, h => by simp [B3] at h; subst h; rfl
 | k + 1, loc, x, h => by
  simp only [B3, List.mem_flatMap, List.mem_map] at h
  obtain ⟨l, _, y, hy, rfl⟩ := h
  simp [I2 k _ y hy]
theorem Ki (p : List Ev) (dn : List Bool) (loc : Int) : Hm p (Av p dn loc) := fun x hx => by
 obtain ⟨i, h1, _, rfl⟩ := Dm.1 hx; omega
section
variable {M : Aa}
set_option maxHeartbeats 4000000 in
theorem K4 (p : List Ev) (dn : List Bool) (ax : p.length ≤ 32) (bI : dn.length = p.length) (k : Nat) (loc : Int) (hk : loc + k = 3) (h0 : 0 ≤ loc)
  (oe : ∀ k', k = k' + 1 → ∀ M' (ps ds : Value), Sl M' 6 A4 ps p → Sl M' 1 eb ds dn → Con Tryz.prog 79 #[ps, ds, vi (loc + 1)] M' [] (Its (B3 p dn k' (loc + 1)) ElO))
  {ps ds : Value} {lb pb db : Nat} (hps : Sl M 6 A4 ps p) (dL : Sl M 1 eb ds dn) (h1 : rd M lb 0 1 [vi loc]) (h2 : rd M pb 0 1 [ps]) (h3 : rd M db 0 1 [ds]) :
  Y5 Tryz.prog 109 #[] #[pv lb 0, pv pb 0, pv db 0] M (B3 p dn k loc) ElO := by
 intro ly I S M1 G hM aF hy xs hI
 have cT := h1.mono hM
 have fU := h2.mono hM
 have ki := h3.mono hM
 have eM := hps.mono hM
 have fe := dL.mono hM
 obtain ⟨ea, ec, rfl, am⟩ := hps
 obtain ⟨da, dc, rfl, kr⟩ := dL
 refine Con.enter Q32_ok (args := [yv ly, pv lb 0, pv pb 0, pv db 0]) (by simp [Q32]) fun w0 => ?_
 simp only [Q32, A5]
 refine EV.seq (EV.reg ?_)
 (repeat first | refine nx ?_ | simp only [Cg2])
 intro yb
 refine EV.frz [(yb, Cl 149 [yv ly])] ?_
 generalize hR : M1.add _ = N
 have aC : M1.le N := hR ▸ Aa.le_add _ _
 have lj : rd N yb 0 1 [yv ly] := hR ▸ Ap 0 rfl rfl (by simp)
 clear hR
 have jw := cT.mono aC
 have lk := fU.mono aC
 have rI := ki.mono aC
 have gh := aF _ _ _ _ aC hI
 cases k with
 | zero =>
  have ll : decide (loc = 3) = true := decide_eq_true (by omega)
  repeat' first
    | refine EV.seq ?_
    | (refine EV.reg ?_; (conv => (arg 2; whnf)); (repeat first | refine nx ?_ | simp only [ll]))
    | (refine cX (fun h => ?_) (fun h => ?_) <;> try exact Ah h)
    | (refine xm ?_; (repeat first | refine nx ?_ | simp only [ll]))
    | fail
  refine Ky.run (hy xs [] (by simp [B3]) N G _ aC gh ⟨none, 0, [], rfl, rfl, .inl ⟨rfl, rfl⟩, fun i h => absurd h (Nat.not_lt_zero _)⟩) ?_
  intro v M' G' bR hv
  repeat' first
    | fail
  (refine rt Q32_ok ?_; try with_reducible exact ⟨⟩)
  rcases hv with ⟨_, hv⟩ | ⟨_, hv⟩
  ·left; exact hv
  ·right; exact hv
 | succ k =>
  have ll : decide (loc = 3) = false := decide_eq_false (by omega)
  repeat' first
    | refine EV.seq ?_
    | refine EV.skip ?_
    | (refine EV.reg ?_; (conv => (arg 2; whnf)); (repeat first | refine nx ?_ | simp only [ll]))
    | (refine cX (fun h => ?_) (fun h => ?_) <;> try exact Ah h)
    | (refine xm ?_; (repeat first | refine nx ?_ | simp only [ll]))
    | fail
  refine EV.any (t := Cg3) [] (List.nil_sublist _) ?_
  simp only [Ao, As, Am, Au, reduceIte, Nat.reduceEqDiff]
  repeat' first
    | ((first | refine zo (fun lq aB => ?_) | refine zl ?_ | fail); try refine nz ?_)
    | (refine Sa (by first | with_reducible assumption | rfl) (fun tq aE => ?_) (fun tq aE => ?_) <;> try refine nz ?_)
    | exact zn
    | ((first | refine xm ?_ | refine xn ?_ | fail); try refine nz ?_)
    | exact ⟨⟩
    | fail
  refine Con.callS (G1 := []) (K1 p _ (eM.mono aC) (by omega) dn _ (fe.mono aC) bI loc) ?_
  rintro v M2 G2 bE ⟨_, ⟨ow, rfl, se, rfl⟩, rfl⟩
  refine ⟨bE, fun q hq => absurd hq List.not_mem_nil, ?_⟩
  repeat' first
    | (refine zl ?_; try refine nz ?_)
    | refine zq (fun lq tq aB aE => ?_)
    | (refine Ec (by first | with_reducible assumption | rfl) (fun tq aE => ?_) (fun tq aE => ?_) <;> try refine nz ?_)
    | exact zn
    | exact ⟨⟩
    | fail
  refine Dt.keep G ?_
  generalize hR : M2.add _ = N2
  have eN : M2.le N2 := hR ▸ Aa.le_add _ _
  have sf : SlC N2 1 ei (osv ow (Av p dn loc).length) (Av p dn loc) := hR ▸ Hp (T := 3) se rfl (fun q hq => by simp [hq])
  clear hR
  have fC := Aa.le_trans bE eN
  have cF : (Av p dn loc).length ≤ p.length := Bz _ _
  refine Con.callS (G1 := []) (Mw p (by omega) (eM.mono (Aa.le_trans aC fC)) sf (Ki p dn loc) (by omega)) ?_
  rintro v M3 G3 eL ⟨g, caps, rfl, bi⟩
  repeat' first
    | (refine zl ?_; try refine nz ?_)
    | refine zq (fun lq tq aB aE => ?_)
    | refine zf ?_
    | exact ⟨⟩
    | fail
  have lm := Aa.le_trans fC eL
  refine EV.toS (ρ' := [(0, yv ly), (1, pv lb 0), (2, pv pb 0), (3, pv db 0), (4, pv yb 0), (16, .func (.func g) #[] caps)]) (G' := G) ?_ ?env1
  case env1 =>
   exact eE
  refine EV.block ?_
  have gb := oe k rfl
  have nQ : B3 p dn (k + 1) loc = (C2 p (Av p dn loc)).flatMap fun l => (B3 p dn k (loc + 1)).map (l :: ·) := rfl
  have ln : IntKind.i64.wrap (loc + 1) = loc + 1 := w64 (by omega) (by omega)
  generalize C2 p (Av p dn loc) = ms at *
  generalize oh : B3 p dn k (loc + 1) = rs at *
  refine EV.over rfl rfl rfl bi (fun d ls M G' => ∃ G0, G'.Perm ((d, Obj.deferred (some [])) :: G0) ∧ I (xs ++ ls.flatMap fun l => rs.map (l :: ·)) M G0)
   (fun d c M G' => c = .ret ∧ ∃ G0, G'.Perm ((d, Obj.deferred (some [])) :: G0) ∧ S M G0) ?_ ?_ ?_ ?_ ?_
  ·rintro d ls M4 M5 G4 aj ⟨G0, hp, gn⟩
   exact ⟨G0, hp, aF _ _ _ _ aj gn⟩
  ·intro d
   exact ⟨G, List.Perm.refl _, by simpa using aF _ _ _ _ lm gh⟩
  ·intro l d r aW aS ls x v M4 G4 w1 F hx dZ ⟨G0, dQ, jz⟩ fV
   refine EV.permG ?_ (List.Perm.cons _ dQ)
   have gp := fV
   obtain ⟨xa, xc, rfl, oM, u7⟩ := fV
   refine EV.reg (sts := Aq9) ?_
   (repeat first | refine nx ?_ | simp only [Aq9])
   intro xb
   repeat' first
     | (refine xw ?_; refine nx ?_)
     | exact ⟨⟩
     | fail
   refine EV.frz [(xb, Cl 34 [.slice xa x.length xc])] ?_
   generalize hR : M4.add _ = N4
   have cO : M4.le N4 := hR ▸ Aa.le_add _ _
   have au : rd N4 xb 0 1 [.slice xa x.length xc] := hR ▸ Ap 0 rfl rfl (by simp)
   clear hR
   refine EV.rbegin aW ?_
   have d6 := Aa.le_trans lm (Aa.le_trans dZ cO)
   have om := jw.mono d6
   have ot := lk.mono d6
   have u8 := rI.mono d6
   have nR := lj.mono d6
   have ox := aF _ _ _ _ cO jz
   clear jw lk rI lj
   refine EV.block ?_
   repeat' first
     | refine EV.seq ?_
     | (refine EV.reg ?_; (conv => (arg 2; whnf)); (repeat first | refine nx ?_ | simp only [ln]))
     | ((first | refine xm ?_ | refine xn ?_ | fail); (repeat first | refine nx ?_ | simp only [ln]))
     | fail
   refine Con.callS (G1 := []) (gb N4 _ _ (eM.mono (Aa.le_trans aC d6)) (fe.mono (Aa.le_trans aC d6))) ?_
   rintro v5 M5 G5 jK ⟨g5, caps5, rfl, kA⟩
   repeat' first
     | refine EV.block ?_
     | fail
   refine EV.toS (ρ' := [(0, yv ly), (1, pv lb 0), (2, pv pb 0), (3, pv db 0), (4, pv yb 0), (5, pv xb 0), (22, .func (.func g5) #[] caps5)]) (G' := (l, Obj.loop { r with state := .busy }) :: (d, Obj.deferred (some [])) :: G0) ?_ ?env2
   case env2 =>
    exact eE
   refine EV.overI (l0 := l) (r0 := { r with state := .busy }) rfl (by simp) rfl rfl kA (fun zs M G' => ∃ G1, G'.Perm ((l, Obj.loop { r with state := .busy }) :: (d, Obj.deferred (some [])) :: G1) ∧ I ((xs ++ ls.flatMap fun l => rs.map (l :: ·)) ++ zs.map (x :: ·)) M G1)
    (fun c M G' => c = .ret ∧ ∃ G1, G'.Perm ((l, Obj.loop { r with state := .busy }) :: (d, Obj.deferred (some [])) :: G1) ∧ S M G1) ?_ ?_ ?_ ?_ ?_
   ·rintro zs M6 M7 G6 aj ⟨G1, hp, gn⟩
    exact ⟨G1, hp, aF _ _ _ _ aj gn⟩
   ·exact ⟨G0, List.Perm.refl _, by simpa using aF _ _ _ _ jK ox⟩
   ·intro l2 r2 cu fw zs z vz M6 G6 w2 F2 hz fW ⟨G1, gq, kB⟩ oy
    refine EV.permG ?_ (List.Perm.cons _ gq)
    have sg := nR.mono (Aa.le_trans jK fW)
    have u9 := au.mono (Aa.le_trans jK fW)
    have oz := (gp.mono (Aa.le_trans cO (Aa.le_trans jK fW)))
    have ua := I2 k (loc + 1) z (oh ▸ hz)
    obtain ⟨za, zc, zvs, rfl, rJ, sh, hzs⟩ := oy
    refine EV.reg (sts := Ar0) ?_
    (repeat first | refine nx ?_ | simp only [Ar0])
    refine EV.rbegin cu ?_
    refine EV.block (EV.seq ?_)
    refine EV.any (t := Cg4) [] (List.nil_sublist _) ?_
    simp only [Ao, As, Am, Au, reduceIte, Nat.reduceEqDiff]
    repeat' first
      | ((first | refine zo (fun lq aB => ?_) | refine zl ?_ | fail); try refine nz ?_)
      | refine zq (fun lq tq aB aE => ?_)
      | (refine Sa (by first | with_reducible assumption | rfl) (fun tq aE => ?_) (fun tq aE => ?_) <;> try refine nz ?_)
      | exact zn
      | ((first | with_reducible intro b | refine xm ?_ | refine xn ?_ | refine And.intro (Aa.le_refl _) (And.intro (A8 ?_) ?_); focus ((repeat' first | exact List.Sublist.refl _ | exact List.nil_sublist _ | exact List.sublist_append_left _ _ | refine List.Sublist.cons_cons _ ?_ | refine List.Sublist.append_left ?_ _ | refine List.sublist_append_of_sublist_right ?_ | refine List.Sublist.cons _ ?_); done) | fail); try refine nz ?_)
      | exact ⟨⟩
      | fail
    refine ⟨zvs, Yt sh, C7.ok1 rJ hzs, Or.inl ⟨some (b, 1, []), 1, rfl, [.slice xa x.length xc], ⟨rfl, rfl, Nat.le_refl _, by decide⟩, (l2, Obj.loop { r2 with state := .busy }) :: (l, Obj.loop { r with state := .busy }) :: (d, Obj.deferred (some [])) :: G1, by simp [osg], by simp only [maxLen]; omega, by omega, fun o2 bD _ => ?_⟩⟩
    repeat' first
      | (refine zl ?_; try refine nz ?_)
      | refine zq (fun lq tq aB aE => ?_)
      | (refine Ec (by first | with_reducible assumption | rfl) (fun tq aE => ?_) (fun tq aE => ?_) <;> try refine nz ?_)
      | exact zn
      | (refine And.intro (Aa.le_refl _) (And.intro (A8 ?_) ?_); focus ((repeat' first | exact List.Sublist.refl _ | exact List.nil_sublist _ | exact List.sublist_append_left _ _ | refine List.Sublist.cons_cons _ ?_ | refine List.Sublist.append_left ?_ _ | refine List.sublist_append_of_sublist_right ?_ | refine List.Sublist.cons _ ?_); done); try refine nz ?_)
      | exact ⟨⟩
      | fail
    have iX : E6 1 o2 (1 + z.length) (.slice xa x.length xc :: zvs) := by simpa using bD
    refine E7.frzS (osg 34 o2 (.slice xa x.length xc :: zvs)) ?_
    have aJ : x :: z ∈ B3 p dn (k + 1) loc := by rw [nQ]; exact List.mem_flatMap.2 ⟨x, hx, List.mem_map.2 ⟨z, hz, rfl⟩⟩
    have pA : ElO (x :: z) (osv o2 (1 + z.length)) (M6.add (osg 34 o2 (.slice xa x.length xc :: zvs))) := by
     refine ⟨oad o2, L6 o2, .slice xa x.length xc :: zvs, by rw [List.length_cons, Nat.add_comm], by simp [rJ], ?_, ?_⟩
     ·rw [List.length_cons, Nat.add_comm]; exact D9 iX (fun q hq => hq)
     ·intro i hi bk
      cases i with
      | zero => exact oz.mono (Aa.le_add _ _)
      | succ i => exact (hzs i (by simpa using hi) (by simpa using bk)).mono (Aa.le_add _ _)
    refine Ky.callS (hy _ (x :: z) aJ _ G1 _ (Aa.le_trans aC (Aa.le_trans d6 (Aa.le_trans jK (Aa.le_trans fW (Aa.le_add _ _))))) (aF _ _ _ _ (Aa.le_add _ _) kB) pA) ?_
    rintro v8 M8 G8 nS (⟨rfl, kt⟩ | ⟨rfl, pB⟩)
    ·repeat' first
      | ((first | refine zo (fun lq aB => ?_) | refine zl ?_ | fail); (repeat first | refine nz ?_ | simp only [Bool.not_true]))
      | refine zq (fun lq tq aB aE => ?_)
      | refine zf ?_
      | fail
     repeat' first
       | refine EV.skip ?_
       | refine EV.inBlock ?_
       | (refine cX (fun h => ?_) (fun h => ?_) <;> try exact Ah h)
       | fail
     refine EV.rend cu fw (List.Perm.refl _) ⟨G8, List.Perm.refl _, ?_⟩
     simpa only [List.map_append, List.map_singleton, List.append_assoc] using kt
    ·repeat' first
      | ((first | refine zo (fun lq aB => ?_) | refine zl ?_ | fail); (repeat first | refine nz ?_ | simp only [Bool.not_false]))
      | refine zq (fun lq tq aB aE => ?_)
      | refine zf ?_
      | fail
     repeat' first
       | (refine cX (fun h => ?_) (fun h => ?_) <;> try exact Ah h)
       | fail
     exact EV.rret (List.Perm.refl _) ⟨rfl, G8, List.Perm.refl _, pB⟩
   ·rintro M6 G6 fW ⟨G1, gq, kB⟩
    repeat' first
      | refine EV.inBlock ?_
      | fail
    refine EV.rend aW aS gq ⟨G1, List.Perm.refl _, ?_⟩
    rw [List.flatMap_append, List.flatMap_singleton, ← List.append_assoc]; exact kB
   ·rintro c M6 G6 fW ⟨rfl, G1, gq, pC⟩
    exact EV.rret gq ⟨rfl, G1, List.Perm.refl _, pC⟩
  ·rintro d M4 G4 dZ ⟨G0, dQ, jz⟩
   refine EV.inBlock ?_
   refine EV.doneM Q32_ok (ms := [d]) (by simpa [Me] using dQ) ?_
   (repeat first | refine nx ?_ | simp only [Q32])
   left; rw [nQ]; exact jz
  ·rintro d c M4 G4 dZ ⟨rfl, G0, dQ, pD⟩
   refine EV.retM Q32_ok (ms := [d]) (by simpa [Me] using dQ) ?_
   (repeat first | refine nx ?_ | simp only [Q32])
   right; exact pD
theorem Uw (p : List Ev) (dn : List Bool) (ax : p.length ≤ 32) (bI : dn.length = p.length) : ∀ (k : Nat) (loc : Int), loc + k = 3 → 0 ≤ loc → ∀ M (ps ds : Value), Sl M 6 A4 ps p → Sl M 1 eb ds dn →
  Con Tryz.prog 79 #[ps, ds, vi loc] M [] (Its (B3 p dn k loc) ElO) := by
 intro k
 induction k with
 | zero =>
  intro loc hk h0 M ps ds hps dL
  have cH := hps
  have gm := dL
  obtain ⟨ea, ec, rfl, am⟩ := hps
  obtain ⟨da, dc, rfl, kr⟩ := dL
  refine Con.enter Q31_ok (args := [.slice ea p.length ec, .slice da dn.length dc, vi loc]) (by simp [Q31]) fun w0 => ?_
  simp only [Q31, A5]
  repeat' first
    | refine EV.seq ?_
    | refine rg ?_
    | (with_reducible intro b; try refine nx ?_)
    | exact ⟨⟩
    | fail
  refine EV.keep [] ?_
  generalize hR : M.add _ = N
  have aC : M.le N := hR ▸ Aa.le_add _ _
  (refine rt Q31_ok ?_; try with_reducible exact ⟨⟩)
  refine ⟨_, _, rfl, K4 p dn ax bI 0 loc hk h0 (fun k' e => by cases e) (cH.mono aC) (gm.mono aC) ?_ ?_ ?_⟩
  ·exact hR ▸ Bv (T := 3) (cs := [vi loc]) (by simp) rfl (by simp)
  ·exact hR ▸ Bv (T := 74) (cs := [.slice ea p.length ec]) (by simp) rfl (by simp)
  ·exact hR ▸ Bv (T := 35) (cs := [.slice da dn.length dc]) (by simp) rfl (by simp)
 | succ k ih =>
  intro loc hk h0 M ps ds hps dL
  have cH := hps
  have gm := dL
  obtain ⟨ea, ec, rfl, am⟩ := hps
  obtain ⟨da, dc, rfl, kr⟩ := dL
  refine Con.enter Q31_ok (args := [.slice ea p.length ec, .slice da dn.length dc, vi loc]) (by simp [Q31]) fun w0 => ?_
  simp only [Q31, A5]
  repeat' first
    | refine EV.seq ?_
    | refine rg ?_
    | (with_reducible intro b; try refine nx ?_)
    | exact ⟨⟩
    | fail
  refine EV.keep [] ?_
  generalize hR : M.add _ = N
  have aC : M.le N := hR ▸ Aa.le_add _ _
  (refine rt Q31_ok ?_; try with_reducible exact ⟨⟩)
  refine ⟨_, _, rfl, K4 p dn ax bI (k + 1) loc hk h0 (fun k' e M' ps' ds' h1 h2 => by cases e; exact ih (loc + 1) (by omega) (by omega) M' ps' ds' h1 h2) (cH.mono aC) (gm.mono aC) ?_ ?_ ?_⟩
  ·exact hR ▸ Bv (T := 3) (cs := [vi loc]) (by simp) rfl (by simp)
  ·exact hR ▸ Bv (T := 74) (cs := [.slice ea p.length ec]) (by simp) rfl (by simp)
  ·exact hR ▸ Bv (T := 35) (cs := [.slice da dn.length dc]) (by simp) rfl (by simp)
end
end Go.EV

namespace Go.EV
open Go.Proofs
def Bk (p : List Ev) : List Int := Cy p.length fun i => (evAt p i).strong
def Is (p : List Ev) (dn : List Bool) (ord : List (List Int)) (frm : List Int) : List Exec :=
 if Dp p ⟨frm, dn, ord, []⟩ then ((C2 p (Bk p)).map fun f => (⟨frm, dn, ord, f⟩ : Exec)).filter fun e => decide (Cv p e = 0) else []
def Mx (p : List Ev) (dn : List Bool) (ord : List (List Int)) : List Exec := (K3 p dn ord).flatMap (Is p dn ord)
def K5 (p : List Ev) (dn : List Bool) : List Exec := (Qw p dn).flatMap (Mx p dn)
def Fx (p : List Ev) : List Exec := (K2 p).flatMap (K5 p)
theorem K6 {p : List Ev} : ∀ (n : Nat) (l m : List Int), l.length = n → m ∈ Cj p n l → m.Perm l
 | 0, l, m, hl, hm => by
  simp only [Cj, List.mem_singleton] at hm
  rw [hm, List.length_eq_zero_iff.1 hl]
 | n + 1, l, m, hl, hm => by
  simp only [Cj, List.mem_flatMap, List.mem_range] at hm
  obtain ⟨i, hi, hm⟩ := hm
  split at hm
  ·exact absurd hm List.not_mem_nil
  ·obtain ⟨m', kh, rfl⟩ := List.mem_map.1 hm
   have cw : i < l.length := by omega
   have ih := K6 n (l.eraseIdx i) m' (by rw [List.length_eraseIdx_of_lt cw]; omega) kh
   have e : Ad l i = l[i] := by simp only [Ad, List.getElem?_eq_getElem cw, Option.getD_some]
   rw [e]
   refine (List.Perm.cons _ ih).trans ?_
   have h1 : l.Perm (l[i] :: l.eraseIdx i) := by
    have h2 : l = l.take i ++ l[i] :: l.drop (i + 1) := by rw [List.getElem_cons_drop, List.take_append_drop]
    rw [List.eraseIdx_eq_take_drop_succ]
    conv => lhs; rw [h2]
    exact List.perm_middle
   exact h1.symm
theorem Ff {p : List Ev} {l m : List Int} (h : m ∈ C2 p l) : m.Perm l := K6 _ l m rfl h
theorem Hm.perm {p : List Ev} {l m : List Int} (h : Hm p l) (hp : m.Perm l) : Hm p m := fun x hx => h x (hp.mem_iff.1 hx)
theorem My (p : List Ev) : Hm p (Bk p) := fun x hx => by
 obtain ⟨i, h1, _, rfl⟩ := Dm.1 hx; omega
theorem Mz {p : List Ev} {dn : List Bool} : ∀ (k : Nat) (loc : Int) (x : List (List Int)), x ∈ B3 p dn k loc → ∀ j (h : j < x.length), x[j].Perm (Av p dn (loc + j))
 | 0, _, x, h => by simp [B3] at h; subst h; intro j hj; simp at hj
 | k + 1, loc, x, h => by
  simp only [B3, List.mem_flatMap, List.mem_map] at h
  obtain ⟨l, hl, y, hy, rfl⟩ := h
  intro j hj
  cases j with
  | zero => simpa using Ff hl
  | succ j =>
   have := Mz k (loc + 1) y hy j (by simpa using hj)
   simpa [Int.add_assoc, Int.add_comm 1] using this
theorem ordersP_ok {p : List Ev} {dn : List Bool} {ord : List (List Int)} (hp : POk p) (bI : dn.length = p.length) (h : ord ∈ Qw p dn) : OrdsOk p dn ord ∧ ∀ l ∈ ord, Hm p l ∧ l.length ≤ p.length := by
 have hl := I2 3 0 ord h
 have hm := Mz 3 0 ord h
 have hall : ∀ l ∈ ord, Hm p l ∧ l.length ≤ p.length := by
  intro l pE
  obtain ⟨j, hj, rfl⟩ := List.getElem_of_mem pE
  have := hm j hj
  exact ⟨(Ki p dn _).perm this, by rw [this.length_eq]; exact Bz _ _⟩
 refine ⟨⟨hl, fun l pE => (hall l pE).2, ?_⟩, hall⟩
 intro i hi hr hd
 have bX := hp.loc i hi
 have hj : (evAt p i).op.loc.toNat < ord.length := by omega
 rw [List.getElem?_eq_getElem hj, Option.getD_some]
 have := hm _ hj
 rw [this.mem_iff, Av, Dm]
 refine ⟨i, hi, ?_, rfl⟩
 have si : (evAt p i).op.kind ≠ 5 := by
  simp only [Ev.reads, Bool.and_eq_true, decide_eq_true_eq] at hr; exact hr.2
 simp only [Bool.and_eq_true, decide_eq_true_eq]
 exact ⟨⟨si, hd⟩, by omega⟩
theorem Pm {p : List Ev} {dn : List Bool} {ord : List (List Int)} : ∀ (k i : Nat) (x : List Int), x ∈ Ck p dn ord k i → x.length = k ∧ ∀ j (h : j < x.length), x[j] ∈ Bt p dn ord (i + j)
 | 0, _, x, h => by simp [Ck] at h; subst h; exact ⟨rfl, fun j hj => by simp at hj⟩
 | k + 1, i, x, h => by
  simp only [Ck, List.mem_flatMap, List.mem_map] at h
  obtain ⟨w, hw, y, hy, rfl⟩ := h
  obtain ⟨h1, h2⟩ := Pm k (i + 1) y hy
  refine ⟨by simp [h1], fun j hj => ?_⟩
  cases j with
  | zero => simpa using hw
  | succ j =>
   have := h2 j (by simpa using hj)
   simpa [Nat.add_assoc, Nat.add_comm 1] using this
theorem choices_ok {p : List Ev} {dn : List Bool} {ord : List (List Int)} (hin : ∀ l ∈ ord, Hm p l) {i : Nat} {w : Int} (h0 : 0 < p.length) (h : w ∈ Bt p dn ord i) : w < p.length ∧ ((evAt p i).reads = true → -1 ≤ w) := by
 have cI : ∀ y ∈ Ia p ord i, -1 ≤ y ∧ y < p.length := by
  intro y hy
  rcases List.mem_cons.1 hy with rfl | hy
  ·omega
  ·rcases hq : ord[(evAt p i).op.loc.toNat]? with _ | l
   ·rw [hq] at hy; exact absurd hy List.not_mem_nil
   ·rw [hq] at hy
    have := hin l (List.mem_of_getElem? hq) y hy
    omega
 unfold Bt at h
 split at h
 ·rename_i hr
  simp only [List.mem_singleton] at h
  subst h
  exact ⟨by omega, fun h2 => by rw [hr] at h2; cases h2⟩
 ·split at h
  ·simp only [List.mem_singleton] at h
   subst h
   have : -1 ≤ Fo (Ia p ord i) i ∧ Fo (Ia p ord i) i < p.length := by
    unfold Fo Ad
    rcases hq : (Ia p ord i)[(Ia p ord i).findIdx (fun y => decide ((i : Int) = y)) - 1]? with _ | y
    ·simp only [Option.getD_none]; omega
    ·simp only [Option.getD_some]; exact cI y (List.mem_of_getElem? hq)
   exact ⟨this.2, fun _ => this.1⟩
  ·exact ⟨(cI w h).2, fun _ => (cI w h).1⟩
theorem exec_ok {p : List Ev} {dn : List Bool} {ord : List (List Int)} {frm fen : List Int} (hp : POk p) (hd : dn ∈ K2 p) (ho : ord ∈ Qw p dn) (hf : frm ∈ K3 p dn ord) (hn : Hm p fen ∧ fen.length ≤ p.length) : XOk p ⟨frm, dn, ord, fen⟩ := by
 have bI : dn.length = p.length := by
  obtain ⟨set, _, rfl⟩ := List.mem_map.1 hd; exact E3 p set
 obtain ⟨bF, bD⟩ := ordersP_ok hp bI ho
 obtain ⟨gS, nT⟩ := Pm _ _ _ hf
 refine ⟨gS, bI, bF.len, ?_, bD, hn⟩
 intro i hi
 have kC : i < frm.length := by rw [gS]; exact hi
 have := nT i kC
 rw [Nat.zero_add] at this
 rw [show (⟨frm, dn, ord, fen⟩ : Exec).frm[i]?.getD 0 = frm[i] from by simp [kC]]
 exact choices_ok (fun l hl => (bD l hl).1) (by omega) this
theorem Kj {p : List Ev} {f : List Int} (h : f ∈ C2 p (Bk p)) : Hm p f ∧ f.length ≤ p.length := by
 have := Ff h
 exact ⟨(My p).perm this, by rw [this.length_eq]; exact Bz _ _⟩
end Go.EV

namespace Go.EV
open Go.Proofs
inductive TG (R : Nat → Nat → Prop) : Nat → Nat → Prop
 | one {a b : Nat} (h : R a b) : TG R a b
 | more {a b c : Nat} (h : R a b) (t : TG R b c) : TG R a c
namespace TG
theorem trans {R : Nat → Nat → Prop} {a b c : Nat} (h : TG R a b) (k : TG R b c) : TG R a c := by
 induction h with
 | one h => exact .more h k
 | more h _ ih => exact .more h (ih k)
theorem mono {R S : Nat → Nat → Prop} {a b : Nat} (h : TG R a b) (hk : ∀ a b, R a b → S a b) : TG S a b := by
 induction h with
 | one h => exact .one (hk _ _ h)
 | more h _ ih => exact .more (hk _ _ h) ih
theorem flat {R S : Nat → Nat → Prop} {a b : Nat} (h : TG R a b) (hk : ∀ a b, R a b → TG S a b) : TG S a b := by
 induction h with
 | one h => exact hk _ _ h
 | more h _ ih => exact (hk _ _ h).trans ih
theorem last {R : Nat → Nat → Prop} {a b : Nat} (h : TG R a b) : ∃ c, R c b ∧ (c = a ∨ TG R a c) := by
 induction h with
 | one h => exact ⟨_, h, .inl rfl⟩
 | more h _ ih =>
  obtain ⟨c, h1, h2⟩ := ih
  refine ⟨c, h1, .inr ?_⟩
  rcases h2 with rfl | h2
  ·exact .one h
  ·exact .more h h2
theorem first {R : Nat → Nat → Prop} {a b : Nat} (h : TG R a b) : ∃ c, R a c ∧ (c = b ∨ TG R c b) := by
 cases h with
 | one h => exact ⟨_, h, .inl rfl⟩
 | more h t => exact ⟨_, h, .inr t⟩
theorem iff {R S : Nat → Nat → Prop} (h1 : ∀ a b, R a b → TG S a b) (h2 : ∀ a b, S a b → TG R a b) {a b : Nat} : TG R a b ↔ TG S a b := ⟨fun h => h.flat h1, fun h => h.flat h2⟩
theorem congr {R S : Nat → Nat → Prop} (h : ∀ a b, R a b ↔ S a b) {a b : Nat} : TG R a b ↔ TG S a b := iff (fun a b k => .one ((h a b).1 k)) (fun a b k => .one ((h a b).2 k))
theorem map {R S : Nat → Nat → Prop} (f : Nat → Nat) {a b : Nat} (h : TG R a b) (hk : ∀ a b, R a b → S (f a) (f b)) : TG S (f a) (f b) := by
 induction h with
 | one h => exact .one (hk _ _ h)
 | more h _ ih => exact .more (hk _ _ h) ih
theorem of_trans {R : Nat → Nat → Prop} (ht : ∀ a b c, R a b → R b c → R a c) {a b : Nat} (h : TG R a b) : R a b := by
 induction h with
 | one h => exact h
 | more h _ ih => exact ht _ _ _ h ih
end TG
theorem Jx {r : Rel} {a b : Nat} (h : r.length ≤ a) : A1 r a b = false := by
 simp [A1, List.getElem?_eq_none h]
theorem Na {r : Rel} {a m x y : Nat} : A1 (orR r a m) x y = (A1 r x y || (decide (x = a ∧ a < r.length) && m.testBit y)) := by
 simp only [A1, orR, List.getElem?_set]
 by_cases h : a = x
 ·subst h
  by_cases h2 : a < r.length
  ·simp [h2, Nat.testBit_or]
  ·simp [h2, List.getElem?_eq_none (Nat.le_of_not_lt h2)]
 ·have h' : ¬ x = a := fun e => h e.symm
  simp [h, h']
theorem Ez {r : Rel} {a b x y : Nat} : A1 (Lv r a b) x y = true ↔ A1 r x y = true ∨ (x = a ∧ a < r.length ∧ y = b) := by
 rw [Lv, Na]
 simp only [Bool.or_eq_true, Bool.and_eq_true, decide_eq_true_eq, Nat.testBit_two_pow]
 constructor
 ·rintro (h | ⟨⟨h1, h2⟩, h3⟩)
  ·exact .inl h
  ·exact .inr ⟨h1, h2, h3.symm⟩
 ·rintro (h | ⟨h1, h2, h3⟩)
  ·exact .inl h
  ·exact .inr ⟨⟨h1, h2⟩, h3.symm⟩
theorem Nb {n a b : Nat} : A1 (List.replicate n 0) a b = false := by
 simp only [A1, List.getElem?_replicate]
 split <;> simp
theorem RelOk.has {n : Nat} {r : Rel} (h : RelOk n r) {a b : Nat} (k : A1 r a b = true) : a < n ∧ b < n := by
 constructor
 ·apply Decidable.byContradiction; intro hn
  rw [Jx (by rw [h.len]; omega)] at k; cases k
 ·apply Decidable.byContradiction; intro hn
  have := h.lt a
  have h2 : (r[a]?.getD 0).testBit b = false := Nat.testBit_lt_two_pow (Nat.lt_of_lt_of_le this (Nat.pow_le_pow_right (by decide) (by omega)))
  rw [A1, h2] at k; cases k
theorem Qx {r : Rel} {a m : Nat} : (orR r a m).length = r.length := by simp [orR]
theorem Fg (r : Rel) (k : Nat) : ∀ a, (closeRow r k a).length = r.length
 | 0 => rfl
 | a + 1 => by
  simp only [closeRow]
  split
  ·rw [Qx, Fg r k a]
  ·exact Fg r k a
theorem Gl (r : Rel) : ∀ k, (closeGo r k).length = r.length
 | 0 => rfl
 | k + 1 => by rw [closeGo, Fg, Gl r k]
theorem K7 (r : Rel) (k : Nat) : ∀ m, m ≤ r.length → ∀ a b, A1 (closeRow r k m) a b = (A1 r a b || (decide (a < m) && A1 r a k && A1 r k b))
 | 0, _, a, b => by simp [closeRow]
 | m + 1, hm, a, b => by
  have ih := K7 r k m (by omega)
  have hk : A1 (closeRow r k m) m k = A1 r m k := by
   rw [ih]; simp
  have bw : ∀ y, ((closeRow r k m)[k]?.getD 0).testBit y = A1 r k y := by
   intro y
   have := ih k y
   rw [A1] at this
   rw [this]
   cases h1 : A1 r k y <;> cases h2 : A1 r k k <;> simp
  rw [closeRow, hk]
  by_cases h : A1 r m k = true
  ·rw [if_pos h, Na, ih, bw, Fg]
   by_cases ha : a = m
   ·subst ha
    have : a < r.length := by omega
    simp [h, this]
   ·have : (decide (a < m + 1)) = decide (a < m) := by rw [decide_eq_decide]; omega
    simp [ha, this]
  ·have h' : A1 r m k = false := by simpa using h
   rw [if_neg h, ih]
   by_cases ha : a = m
   ·subst ha; simp [h']
   ·have : (decide (a < m + 1)) = decide (a < m) := by rw [decide_eq_decide]; omega
    rw [this]
theorem Hq {n : Nat} {r : Rel} (h : r.length = n) (k a b : Nat) : A1 (closeGo r (k + 1)) a b = (A1 (closeGo r k) a b || (A1 (closeGo r k) a k && A1 (closeGo r k) k b)) := by
 rw [closeGo, K7 _ _ _ (by rw [Gl]; omega)]
 by_cases ha : a < r.length
 ·simp [ha]
 ·rw [Jx (a := a) (b := b) (by rw [Gl]; omega), Jx (a := a) (b := k) (by rw [Gl]; omega)]
  simp
theorem E4 {n : Nat} {r : Rel} (h : RelOk n r) {a b : Nat} : A1 (Ch r) a b = true ↔ TG (fun x y => A1 r x y = true) a b := by
 have up : ∀ k a b, A1 r a b = true → A1 (closeGo r k) a b = true := by
  intro k
  induction k with
  | zero => intro a b h; exact h
  | succ k ih => intro a b fD; rw [Hq h.len, ih a b fD]; simp
 have dn : ∀ k a b, A1 (closeGo r k) a b = true → TG (fun x y => A1 r x y = true) a b := by
  intro k
  induction k with
  | zero => intro a b h; exact .one h
  | succ k ih =>
   intro a b fD
   rw [Hq h.len] at fD
   simp only [Bool.or_eq_true, Bool.and_eq_true] at fD
   rcases fD with fD | ⟨h1, h2⟩
   ·exact ih a b fD
   ·exact (ih a k h1).trans (ih k b h2)
 have tr : ∀ k a c b, c < k → A1 (closeGo r k) a c = true → A1 (closeGo r k) c b = true → A1 (closeGo r k) a b = true := by
  intro k
  induction k with
  | zero => intro a c b hc; omega
  | succ k ih =>
   intro a c b hc h1 h2
   rw [Hq h.len] at h1 h2 ⊢
   simp only [Bool.or_eq_true, Bool.and_eq_true] at h1 h2 ⊢
   by_cases aY : c = k
   ·subst aY
    right
    refine ⟨?_, ?_⟩
    ·rcases h1 with h1 | ⟨h1, _⟩ <;> exact h1
    ·rcases h2 with h2 | ⟨_, h2⟩ <;> exact h2
   ·have bq : c < k := by omega
    rcases h1 with h1 | ⟨h1, cT⟩ <;> rcases h2 with h2 | ⟨h2, fU⟩
    ·exact .inl (ih a c b bq h1 h2)
    ·exact .inr ⟨ih a c k bq h1 h2, fU⟩
    ·exact .inr ⟨h1, ih k c b bq cT h2⟩
    ·exact .inr ⟨h1, fU⟩
 refine ⟨dn _ a b, fun ht => ?_⟩
 have nP : TG (fun x y => A1 (Ch r) x y = true) a b := ht.mono fun a b => up _ a b
 refine nP.of_trans (R := fun x y => A1 (Ch r) x y = true) (fun a c b h1 h2 => ?_)
 have ae : RelOk n (Ch r) := h.close
 exact tr _ a c b (by rw [h.len]; exact (ae.has h1).2) h1 h2
theorem Gm {r : Rel} : Bp r = true ↔ ∃ a, A1 r a a = true := by
 unfold Bp
 rw [List.any_eq_true]
 constructor
 ·rintro ⟨a, _, h⟩; exact ⟨a, h⟩
 ·rintro ⟨a, h⟩
  refine ⟨a, ?_, h⟩
  rw [List.mem_range]
  apply Decidable.byContradiction; intro hn
  rw [Jx (by omega)] at h; cases h
end Go.EV

namespace Go.EV
open Go.Proofs
theorem D6 {r : Rel} {a b : Nat} : (Lv r a b).length = r.length := Qx
theorem Fy (p : List Ev) : ∀ i, (C6 p i).length = p.length
 | 0 => by simp [C6]
 | i + 1 => by
  simp only [C6]
  split
  ·rw [D6, Fy p i]
  ·exact Fy p i
theorem Kk (r : Rel) (fen : List Int) : ∀ k, (Hd r fen k).length = r.length
 | 0 => rfl
 | k + 1 => by rw [Hd, D6, Kk r fen k]
theorem Pn (p : List Ev) (a b : Nat) : ∀ i, i ≤ p.length - 1 → (A1 (C6 p i) a b = true ↔ a < i ∧ b = a + 1 ∧ (evAt p b).th = (evAt p a).th)
 | 0, _ => by simp [C6, Nb]
 | i + 1, hi => by
  have ih := Pn p a b i (by omega)
  simp only [C6]
  split
  ·rename_i h
   rw [Ez, ih, Fy]
   constructor
   ·rintro (⟨h1, h2, h3⟩ | ⟨rfl, h1, rfl⟩)
    ·exact ⟨by omega, h2, h3⟩
    ·exact ⟨by omega, rfl, h⟩
   ·rintro ⟨h1, h2, h3⟩
    by_cases ha : a = i
    ·subst ha; exact .inr ⟨rfl, by omega, h2⟩
    ·exact .inl ⟨by omega, h2, h3⟩
  ·rename_i h
   rw [ih]
   constructor
   ·rintro ⟨h1, h2, h3⟩; exact ⟨by omega, h2, h3⟩
   ·rintro ⟨h1, h2, h3⟩
    by_cases ha : a = i
    ·subst ha; subst h2; exact absurd h3 h
    ·exact ⟨by omega, h2, h3⟩
theorem Po {r : Rel} {fen : List Int} {a b : Nat} (hin : ∀ k, k < fen.length → 0 ≤ Ad fen k ∧ Ad fen k < r.length) : ∀ k, k ≤ fen.length - 1 →
  (A1 (Hd r fen k) a b = true ↔ A1 r a b = true ∨ ∃ j, j < k ∧ Ad fen j = a ∧ Ad fen (j + 1) = b)
 | 0, _ => by simp [Hd]
 | k + 1, hk => by
  have ih := Po (r := r) (a := a) (b := b) hin k (by omega)
  have h1 := hin k (by omega)
  have h2 := hin (k + 1) (by omega)
  simp only [Ad] at h1 h2 ih ⊢
  rw [Hd, Ez, ih, Kk]
  constructor
  ·rintro ((h | ⟨j, q1, q2, q3⟩) | ⟨q1, q2, q3⟩)
   ·exact .inl h
   ·exact .inr ⟨j, by omega, q2, q3⟩
   ·exact .inr ⟨k, by omega, by omega, by omega⟩
  ·rintro (h | ⟨j, q1, q2, q3⟩)
   ·exact .inl (.inl h)
   ·by_cases hj : j = k
    ·subst hj; exact .inr ⟨by omega, by omega, by omega⟩
    ·exact .inl (.inr ⟨j, by omega, q2, q3⟩)
def Sb1 (p : List Ev) (a b : Nat) : Prop := b = a + 1 ∧ b < p.length ∧ (evAt p b).th = (evAt p a).th
def Fo1 (fen : List Int) (a b : Nat) : Prop := ∃ j, j + 1 < fen.length ∧ Ad fen j = a ∧ Ad fen (j + 1) = b
def Rf (e : Exec) (n a b : Nat) : Prop := b < n ∧ Ae e b = a
theorem Hm.num {p : List Ev} {l : List Int} (h : Hm p l) {k : Nat} (hk : k < l.length) : 0 ≤ Ad l k ∧ Ad l k < p.length := h.at hk
theorem Pp {p : List Ev} {fen : List Int} (hf : Hm p fen) {a b : Nat} : A1 (Hl p fen) a b = true ↔ Sb1 p a b ∨ Fo1 fen a b := by
 have hl : (C6 p (p.length - 1)).length = p.length := Fy _ _
 rw [Hl, Po (fun k hk => by rw [hl]; exact hf.num hk) _ (Nat.le_refl _), Pn _ _ _ _ (Nat.le_refl _)]
 unfold Sb1 Fo1
 constructor
 ·rintro (⟨h1, h2, h3⟩ | ⟨j, h1, h2, h3⟩)
  ·exact .inl ⟨h2, by omega, h3⟩
  ·exact .inr ⟨j, by omega, h2, h3⟩
 ·rintro (⟨h1, h2, h3⟩ | ⟨j, h1, h2, h3⟩)
  ·exact .inl ⟨by omega, h1, h3⟩
  ·exact .inr ⟨j, by omega, h2, h3⟩
theorem I3 {q : Rel} {e : Exec} : ∀ r, (Dn q e r).length = q.length
 | 0 => rfl
 | r + 1 => by
  simp only [Dn]
  split
  ·rw [D6, I3 r]
  ·exact I3 r
theorem Nc {q : Rel} {e : Exec} {a b : Nat} (dt : ∀ i : Nat, i < q.length → Ae e i < q.length) : ∀ r, r ≤ q.length → (A1 (Dn q e r) a b = true ↔ A1 q a b = true ∨ Rf e r a b)
 | 0, _ => by simp [Dn, Rf]
 | r + 1, hr => by
  have ih := Nc (a := a) (b := b) dt r (by omega)
  have := dt r (by omega)
  unfold Rf at ih ⊢
  simp only [Dn]
  split
  ·rename_i h0
   rw [Ez, ih, I3]
   constructor
   ·rintro ((h | ⟨h1, h2⟩) | ⟨h1, h2, rfl⟩)
    ·exact .inl h
    ·exact .inr ⟨by omega, h2⟩
    ·exact .inr ⟨by omega, by omega⟩
   ·rintro (h | ⟨h1, h2⟩)
    ·exact .inl (.inl h)
    ·by_cases hb : b = r
     ·subst hb; exact .inr ⟨by omega, by omega, rfl⟩
     ·exact .inl (.inr ⟨by omega, h2⟩)
  ·rename_i h0
   rw [ih]
   constructor
   ·rintro (h | ⟨h1, h2⟩)
    ·exact .inl h
    ·exact .inr ⟨by omega, h2⟩
   ·rintro (h | ⟨h1, h2⟩)
    ·exact .inl h
    ·by_cases hb : b = r
     ·subst hb; omega
     ·exact .inr ⟨by omega, h2⟩
theorem Pq {p : List Ev} {e : Exec} (hx : XOk p e) : Bp (Sd p e) = true ↔ ∃ a, TG (fun a b => Sb1 p a b ∨ Fo1 e.fen a b ∨ Rf e p.length a b) a a := by
 have aX : (Hl p e.fen).length = p.length := (stepsP_ok hx.fin.1).len
 have ae := roundGo_ok (stepsP_ok hx.fin.1) hx _ (Nat.le_refl _)
 rw [Gm]
 refine exists_congr fun a => ?_
 rw [Sd, E4 ae]
 refine TG.congr fun x y => ?_
 rw [Nc (fun i hi => by rw [aX] at hi ⊢; exact (hx.fr i hi).1) _ (by rw [aX]; exact Nat.le_refl _), Pp hx.fin.1, or_assoc]
theorem K8 (p : List Ev) (w c : Nat) : ∀ (a s : Nat), (Ex p w a s).testBit c = true ↔ s.testBit c = true ∨ (c < a ∧ (∀ x, c ≤ x → x < a → (evAt p x).th = (evAt p w).th) ∧ (evAt p c).op.kind = 5 ∧ (evAt p c).rel = true)
 | 0, s => by simp [Ex]
 | a + 1, s => by
  simp only [Ex]
  split
  ·rename_i cx
   rw [K8 p w c a]
   have hs : (if (evAt p a).op.kind = 5 ∧ (evAt p a).rel = true then s ||| 2 ^ a else s).testBit c = true ↔ s.testBit c = true ∨ (c = a ∧ (evAt p c).op.kind = 5 ∧ (evAt p c).rel = true) := by
    split
    ·rename_i h
     simp only [Nat.testBit_or, Bool.or_eq_true, Nat.testBit_two_pow, decide_eq_true_eq]
     constructor
     ·rintro (h1 | rfl)
      ·exact .inl h1
      ·exact .inr ⟨rfl, h⟩
     ·rintro (h1 | ⟨rfl, _⟩)
      ·exact .inl h1
      ·exact .inr rfl
    ·rename_i h
     constructor
     ·exact .inl
     ·rintro (h1 | ⟨rfl, h2⟩)
      ·exact h1
      ·exact absurd h2 h
   rw [hs]
   constructor
   ·rintro ((h | ⟨rfl, h⟩) | ⟨h1, h2, h3⟩)
    ·exact .inl h
    ·exact .inr ⟨by omega, fun x q1 q2 => by rw [show x = c by omega]; exact cx, h⟩
    ·refine .inr ⟨by omega, fun x q1 q2 => ?_, h3⟩
     by_cases hx : x = a
     ·rw [hx]; exact cx
     ·exact h2 x q1 (by omega)
   ·rintro (h | ⟨h1, h2, h3⟩)
    ·exact .inl (.inl h)
    ·by_cases hc : c = a
     ·exact .inl (.inr ⟨hc, h3⟩)
     ·exact .inr ⟨by omega, fun x q1 q2 => h2 x q1 (by omega), h3⟩
  ·rename_i cx
   constructor
   ·exact .inl
   ·rintro (h | ⟨h1, h2, h3⟩)
    ·exact h
    ·exact absurd (h2 a (by omega) (by omega)) cx
def Lw (p : List Ev) : Prop := ∀ a b, a ≤ b → b < p.length → (evAt p a).th ≤ (evAt p b).th
theorem Lw.between {p : List Ev} (h : Lw p) {a b x : Nat} (hb : b < p.length) (h1 : a ≤ x) (h2 : x ≤ b) (he : (evAt p a).th = (evAt p b).th) : (evAt p x).th = (evAt p b).th := by
 have q1 := h a x h1 (by omega)
 have q2 := h x b h2 hb
 omega
def Sf (p : List Ev) (w c : Nat) : Prop := (evAt p c).rel = true ∧ (c = w ∨ (c < w ∧ (evAt p c).th = (evAt p w).th ∧ (evAt p c).op.kind = 5))
def Ab1 (p : List Ev) (r c : Nat) : Prop := (evAt p c).acq = true ∧ (c = r ∨ (r < c ∧ c < p.length ∧ (evAt p c).th = (evAt p r).th ∧ (evAt p c).op.kind = 5))
theorem Nd {p : List Ev} (hm : Lw p) {w c : Nat} (hw : w < p.length) : (Fa p w).testBit c = true ↔ Sf p w c := by
 rw [Fa, K8]
 unfold Sf
 constructor
 ·rintro (h | ⟨h1, h2, h3, h4⟩)
  ·split at h
   ·rename_i hr
    rw [Nat.testBit_two_pow, decide_eq_true_eq] at h
    subst h; exact ⟨hr, .inl rfl⟩
   ·simp at h
  ·exact ⟨h4, .inr ⟨h1, h2 c (Nat.le_refl _) h1, h3⟩⟩
 ·rintro ⟨h1, rfl | ⟨h2, h3, h4⟩⟩
  ·left; rw [if_pos h1]; simp
  ·right
   exact ⟨h2, fun x q1 q2 => hm.between hw q1 (by omega) h3, h4, h1⟩
theorem Pr (p : List Ev) (r c : Nat) : ∀ (f b s : Nat), (Jt p r f b s).testBit c = true ↔ s.testBit c = true ∨ (b ≤ c ∧ c < b + f ∧ (∀ x, b ≤ x → x ≤ c → (evAt p x).th = (evAt p r).th) ∧ (evAt p c).op.kind = 5 ∧ (evAt p c).acq = true)
 | 0, b, s => by
  simp only [Jt]
  constructor
  ·exact .inl
  ·rintro (h | ⟨h1, h2, _⟩)
   ·exact h
   ·omega
 | f + 1, b, s => by
  simp only [Jt]
  split
  ·rename_i cx
   rw [Pr p r c f]
   have hs : (if (evAt p b).op.kind = 5 ∧ (evAt p b).acq = true then s ||| 2 ^ b else s).testBit c = true ↔ s.testBit c = true ∨ (c = b ∧ (evAt p c).op.kind = 5 ∧ (evAt p c).acq = true) := by
    split
    ·rename_i h
     simp only [Nat.testBit_or, Bool.or_eq_true, Nat.testBit_two_pow, decide_eq_true_eq]
     constructor
     ·rintro (h1 | rfl)
      ·exact .inl h1
      ·exact .inr ⟨rfl, h⟩
     ·rintro (h1 | ⟨rfl, _⟩)
      ·exact .inl h1
      ·exact .inr rfl
    ·rename_i h
     constructor
     ·exact .inl
     ·rintro (h1 | ⟨rfl, h2⟩)
      ·exact h1
      ·exact absurd h2 h
   rw [hs]
   constructor
   ·rintro ((h | ⟨rfl, h⟩) | ⟨h1, h2, h3, h4⟩)
    ·exact .inl h
    ·exact .inr ⟨by omega, by omega, fun x q1 q2 => by rw [show x = c by omega]; exact cx, h⟩
    ·refine .inr ⟨by omega, by omega, fun x q1 q2 => ?_, h4⟩
     by_cases hx : x = b
     ·rw [hx]; exact cx
     ·exact h3 x (by omega) q2
   ·rintro (h | ⟨h1, h2, h3, h4⟩)
    ·exact .inl (.inl h)
    ·by_cases hc : c = b
     ·exact .inl (.inr ⟨hc, h4⟩)
     ·exact .inr ⟨by omega, by omega, fun x q1 q2 => h3 x (by omega) q2, h4⟩
  ·rename_i cx
   constructor
   ·exact .inl
   ·rintro (h | ⟨h1, h2, h3, h4⟩)
    ·exact h
    ·exact absurd (h3 b (by omega) h1) cx
theorem Zg {p : List Ev} (hm : Lw p) {r c : Nat} (hr : r < p.length) : (I0 p r).testBit c = true ↔ Ab1 p r c := by
 rw [I0, Pr]
 unfold Ab1
 constructor
 ·rintro (h | ⟨h1, h2, h3, h4, h5⟩)
  ·split at h
   ·rename_i hr
    rw [Nat.testBit_two_pow, decide_eq_true_eq] at h
    subst h; exact ⟨hr, .inl rfl⟩
   ·simp at h
  ·exact ⟨h5, .inr ⟨by omega, by omega, h3 c h1 (Nat.le_refl _), h4⟩⟩
 ·rintro ⟨h1, rfl | ⟨h2, h3, h4, h5⟩⟩
  ·left; rw [if_pos h1]; simp
  ·right
   refine ⟨by omega, by omega, fun x q1 q2 => ?_, h5, h1⟩
   have := hm.between (a := r) (b := c) (x := x) h3 (by omega) q2 h4.symm
   rw [this, h4]
end Go.EV

namespace Go.EV
open Go.Proofs
theorem Nf : ∀ (n : Nat) (l : List Nat), l.Nodup → (∀ x ∈ l, x < n) → l.length ≤ n
 | 0, l, _, h => by
  rcases l with _ | ⟨x, l⟩
  ·exact Nat.le_refl _
  ·exact absurd (h x (List.mem_cons_self ..)) (Nat.not_lt_zero _)
 | n + 1, l, hn, h => by
  have h1 := Nf n (l.erase n) (hn.erase n) (fun x hx => by
   obtain ⟨h1, h2⟩ := (hn.mem_erase_iff).1 hx
   have := h x h2; omega)
  have h2 : l.length ≤ (l.erase n).length + 1 := by
   rw [List.length_erase]; split <;> omega
  omega
theorem Ah8 {R : Nat → Nat → Prop} {f : Nat → Nat} {m : Nat} (h : ∀ i, i < m → R (f i) (f (i + 1))) : ∀ (d i : Nat), i + d + 1 ≤ m → TG R (f i) (f (i + d + 1))
 | 0, i, hi => .one (h i (by omega))
 | d + 1, i, hi => (Ah8 h d i (by omega)).trans (.one (h (i + d + 1) (by omega)))
theorem Qy {R : Nat → Nat → Prop} {n m : Nat} {f : Nat → Nat} (al : ∀ a, ¬ TG R a a) (h : ∀ i, i < m → R (f i) (f (i + 1))) (aZ : ∀ i, i ≤ m → f i < n) : m < n := by
 have bm : ((List.range (m + 1)).map f).Nodup := by
  rw [List.nodup_iff_pairwise_ne, List.pairwise_map, List.pairwise_iff_getElem]
  intro i j hi hj gQ he
  rw [List.length_range] at hi hj
  simp only [List.getElem_range] at he
  have := Ah8 h (j - i - 1) i (by omega)
  rw [show i + (j - i - 1) + 1 = j by omega, ← he] at this
  exact al _ this
 have := Nf n _ bm (fun x hx => by
  obtain ⟨i, hi, rfl⟩ := List.mem_map.1 hx
  rw [List.mem_range] at hi
  exact aZ i (by omega))
 simp at this
 omega
def Ex1 (p : List Ev) (e : Exec) (w v : Nat) : Prop := Ms p e w = true ∧ Ae e w = v
inductive Back (p : List Ev) (e : Exec) : Nat → Nat → Prop
 | here {w : Nat} : Back p e w w
 | on {w v u : Nat} (h : Ex1 p e w v) (t : Back p e v u) : Back p e w u
theorem Ng {p : List Ev} (hm : Lw p) {e : Exec} (hx : XOk p e) {c : Nat} : ∀ (k w s : Nat), w < p.length → ((C1 p e k w s).testBit c = true → s.testBit c = true ∨ ∃ v, Back p e w v ∧ Sf p v c)
 | 0, w, s, hw, h => .inl (by simpa [C1] using h)
 | k + 1, w, s, hw, h => by
  have ai : (s ||| Fa p w).testBit c = true → s.testBit c = true ∨ ∃ v, Back p e w v ∧ Sf p v c := by
   rw [Nat.testBit_or, Bool.or_eq_true, Nd hm hw]
   rintro (h | h)
   ·exact .inl h
   ·exact .inr ⟨w, .here, h⟩
  simp only [C1] at h
  split at h
  ·rename_i hc
   have hf := (hx.fr w hw).1
   have fL : (Ae e w).toNat < p.length := by unfold Ae at *; omega
   rcases Ng hm hx k _ _ fL h with h | ⟨v, h1, h2⟩
   ·exact ai h
   ·exact .inr ⟨v, .on ⟨hc.1, by omega⟩ h1, h2⟩
  ·exact ai h
theorem Nh {p : List Ev} {e : Exec} {c : Nat} : ∀ (k w s : Nat), s.testBit c = true → (C1 p e k w s).testBit c = true
 | 0, w, s, h => h
 | k + 1, w, s, h => by
  simp only [C1]
  split
  ·exact Nh k _ _ (by rw [Nat.testBit_or, h]; rfl)
  ·rw [Nat.testBit_or, h]; rfl
def Ox (p : List Ev) (e : Exec) : Nat → Nat → Nat → Prop
 | 0, w, u => w = u
 | n + 1, w, u => ∃ v, Ex1 p e w v ∧ Ox p e n v u
theorem Back.n {p : List Ev} {e : Exec} {w u : Nat} (h : Back p e w u) : ∃ n, Ox p e n w u := by
 induction h with
 | here => exact ⟨0, rfl⟩
 | on h _ ih => obtain ⟨n, hn⟩ := ih; exact ⟨n + 1, _, h, hn⟩
theorem Ox.back {p : List Ev} {e : Exec} : ∀ {n w u : Nat}, Ox p e n w u → Back p e w u
 | 0, _, _, h => by cases h; exact .here
 | _ + 1, _, _, ⟨_, h1, h2⟩ => .on h1 (Ox.back h2)
theorem Ox.way {p : List Ev} {e : Exec} : ∀ {n w u : Nat}, Ox p e n w u → ∃ f : Nat → Nat, f 0 = w ∧ f n = u ∧ ∀ i, i < n → Ex1 p e (f i) (f (i + 1))
 | 0, w, u, h => ⟨fun _ => w, rfl, h, fun i hi => by omega⟩
 | n + 1, w, u, ⟨v, h1, h2⟩ => by
  obtain ⟨f, q1, q2, q3⟩ := Ox.way h2
  refine ⟨fun i => if i = 0 then w else f (i - 1), rfl, by simpa using q2, fun i hi => ?_⟩
  by_cases h0 : i = 0
  ·subst h0; simpa [q1] using h1
  ·have h' := q3 (i - 1) (by omega)
   rw [show i - 1 + 1 = i by omega] at h'
   simpa [h0] using h'
theorem Kl {p : List Ev} {e : Exec} (hx : XOk p e) {w : Nat} (h : Ms p e w = true) : w < p.length := by
 unfold Ms at h
 simp only [Bool.and_eq_true] at h
 apply Decidable.byContradiction; intro hn
 have : e.dn[w]? = none := List.getElem?_eq_none (by rw [hx.dl]; omega)
 rw [this] at h; simp at h
def Sg (p : List Ev) (e : Exec) : Prop := ∀ a, ¬ TG (Rf e p.length) a a
theorem Ni {p : List Ev} (hm : Lw p) {e : Exec} (hx : XOk p e) {c : Nat} : ∀ (k w s n u : Nat), w < p.length → n < k → Ox p e n w u → Sf p u c → (C1 p e k w s).testBit c = true
 | 0, w, s, n, u, _, hn, _, _ => by omega
 | k + 1, w, s, 0, u, hw, hn, hb, hr => by
  have sj : w = u := hb
  subst sj
  have : (s ||| Fa p w).testBit c = true := by rw [Nat.testBit_or, (Nd hm hw).2 hr]; simp
  simp only [C1]
  split
  ·exact Nh _ _ _ this
  ·exact this
 | k + 1, w, s, n + 1, u, hw, hn, ⟨v, ⟨h1, h2⟩, h3⟩, hr => by
  simp only [C1]
  rw [if_pos ⟨h1, by omega⟩]
  have hv : (Ae e w).toNat = v := by omega
  rw [hv]
  have hf := (hx.fr w hw).1
  exact Ni hm hx k v _ n u (by unfold Ae at h2; omega) (by omega) h3 hr
theorem Xg {p : List Ev} (hm : Lw p) {e : Exec} (hx : XOk p e) (al : Sg p e) {r w c : Nat} (hr : r < p.length) (hw : Ae e r = w) : (Ed p e r).testBit c = true ↔ ∃ v, Back p e w v ∧ Sf p v c := by
 have cF : w < p.length := by
  have := (hx.fr r hr).1
  unfold Ae at hw; omega
 have dE : (Ae e r).toNat = w := by omega
 rw [Ed, dE]
 constructor
 ·intro h
  rcases Ng hm hx _ _ _ cF h with h | h
  ·simp at h
  ·exact h
 ·rintro ⟨v, hb, hc⟩
  obtain ⟨n, hn⟩ := hb.n
  refine Ni hm hx _ _ _ n v cF ?_ hn hc
  obtain ⟨f, q1, q2, q3⟩ := hn.way
  refine Qy (R := fun a b => Rf e p.length b a) (f := f) (m := n) (fun a ha => al a ?_) (fun i hi => ?_) (fun i hi => ?_)
  ·have key : ∀ a b, TG (fun a b => Rf e p.length b a) a b → TG (Rf e p.length) b a := by
    intro a b h
    induction h with
    | one h => exact .one h
    | more h _ ih => exact ih.trans (.one h)
   exact key a a ha
  ·have := q3 i hi
   exact ⟨Kl hx this.1, this.2⟩
  ·by_cases h0 : i = 0
   ·subst h0; rw [q1]; exact cF
   ·have := q3 (i - 1) (by omega)
    rw [show i - 1 + 1 = i by omega] at this
    have h1 := (hx.fr _ (Kl hx this.1)).1
    have h2 := this.2
    unfold Ae at h2; omega
def Sw (p : List Ev) (e : Exec) (a b : Nat) : Prop := ∃ r w v, r < p.length ∧ (evAt p r).reads = true ∧ Ae e r = (w : Nat) ∧ Back p e w v ∧ Sf p v a ∧ Ab1 p r b
theorem Jy {q : Rel} {set to : Nat} : ∀ a, (Il q set to a).length = q.length
 | 0 => rfl
 | a + 1 => by
  simp only [Il]
  split
  ·rw [Qx, Jy a]
  ·exact Jy a
theorem Sh {q : Rel} {set to x y : Nat} : ∀ a, a ≤ q.length → (A1 (Il q set to a) x y = true ↔ A1 q x y = true ∨ (x < a ∧ set.testBit x = true ∧ to.testBit y = true))
 | 0, _ => by simp [Il]
 | a + 1, ha => by
  have ih := Sh (q := q) (set := set) (to := to) (x := x) (y := y) a (by omega)
  simp only [Il]
  split
  ·rename_i h
   rw [Na, Bool.or_eq_true, ih, Jy]
   simp only [Bool.and_eq_true, decide_eq_true_eq]
   constructor
   ·rintro ((h1 | ⟨h1, h2⟩) | ⟨⟨h1, h2⟩, h3⟩)
    ·exact .inl h1
    ·exact .inr ⟨by omega, h2⟩
    ·subst h1; exact .inr ⟨by omega, h, h3⟩
   ·rintro (h1 | ⟨h1, h2, h3⟩)
    ·exact .inl (.inl h1)
    ·by_cases cR : x = a
     ·subst cR; exact .inr ⟨⟨rfl, by omega⟩, h3⟩
     ·exact .inl (.inr ⟨by omega, h2, h3⟩)
  ·rename_i h
   rw [ih]
   constructor
   ·rintro (h1 | ⟨h1, h2⟩)
    ·exact .inl h1
    ·exact .inr ⟨by omega, h2⟩
   ·rintro (h1 | ⟨h1, h2, h3⟩)
    ·exact .inl h1
    ·by_cases cR : x = a
     ·subst cR; exact absurd h2 h
     ·exact .inr ⟨by omega, h2, h3⟩
theorem Sf.lt {p : List Ev} {w c : Nat} (h : Sf p w c) (hw : w < p.length) : c < p.length := by
 rcases h.2 with rfl | ⟨h, _⟩ <;> omega
theorem Back.lt {p : List Ev} {e : Exec} (hx : XOk p e) {w v : Nat} (h : Back p e w v) (hw : w < p.length) : v < p.length := by
 induction h with
 | here => exact hw
 | on h _ ih =>
  have h1 := (hx.fr _ (Kl hx h.1)).1
  have h2 := h.2
  exact ih (by unfold Ae at h2; omega)
theorem Nj {p : List Ev} {e : Exec} : ∀ r, (Hn p e r).length = p.length
 | 0 => by rw [Hn, Hl, Kk, Fy]
 | r + 1 => by
  simp only [Hn]
  split
  ·rw [Jy, Nj r]
  ·exact Nj r
theorem Si {p : List Ev} (hm : Lw p) {e : Exec} (hx : XOk p e) (al : Sg p e) {a b : Nat} : ∀ n, n ≤ p.length →
  (A1 (Hn p e n) a b = true ↔ Sb1 p a b ∨ Fo1 e.fen a b ∨ ∃ r w v, r < n ∧ (evAt p r).reads = true ∧ Ae e r = (w : Nat) ∧ Back p e w v ∧ Sf p v a ∧ Ab1 p r b)
 | 0, _ => by
  rw [Hn, Pp hx.fin.1]
  constructor
  ·rintro (h | h)
   ·exact .inl h
   ·exact .inr (.inl h)
  ·rintro (h | h | ⟨r, w, v, h, _⟩)
   ·exact .inl h
   ·exact .inr h
   ·omega
 | n + 1, hn => by
  have ih := Si hm hx al (a := a) (b := b) n (by omega)
  simp only [Hn]
  split
  ·rename_i h
   obtain ⟨w, hw⟩ : ∃ w : Nat, Ae e n = w := ⟨(Ae e n).toNat, by omega⟩
   have cF : w < p.length := by
    have := (hx.fr n (by omega)).1
    unfold Ae at hw; omega
   rw [Sh _ (by rw [Nj]; exact Nat.le_refl _), ih, Xg hm hx al (by omega) hw, Zg hm (by omega)]
   constructor
   ·rintro ((h1 | h1 | ⟨r, w', v, h1, h2⟩) | ⟨h1, ⟨v, h2, h3⟩, h4⟩)
    ·exact .inl h1
    ·exact .inr (.inl h1)
    ·exact .inr (.inr ⟨r, w', v, by omega, h2⟩)
    ·exact .inr (.inr ⟨n, w, v, by omega, h.1, hw, h2, h3, h4⟩)
   ·rintro (h1 | h1 | ⟨r, w', v, h1, h2, h3, h4, h5, h6⟩)
    ·exact .inl (.inl h1)
    ·exact .inl (.inr (.inl h1))
    ·by_cases hr : r = n
     ·subst hr
      have : w' = w := by omega
      subst this
      exact .inr ⟨h5.lt (h4.lt hx cF), ⟨v, h4, h5⟩, h6⟩
     ·exact .inl (.inr (.inr ⟨r, w', v, by omega, h2, h3, h4, h5, h6⟩))
  ·rename_i h
   rw [ih]
   constructor
   ·rintro (h1 | h1 | ⟨r, w', v, h1, h2⟩)
    ·exact .inl h1
    ·exact .inr (.inl h1)
    ·exact .inr (.inr ⟨r, w', v, by omega, h2⟩)
   ·rintro (h1 | h1 | ⟨r, w', v, h1, h2, h3, h4⟩)
    ·exact .inl h1
    ·exact .inr (.inl h1)
    ·by_cases hr : r = n
     ·subst hr
      exact absurd ⟨h2, by omega⟩ h
     ·exact .inr (.inr ⟨r, w', v, by omega, h2, h3, h4⟩)
def Hb (p : List Ev) (e : Exec) : Nat → Nat → Prop := TG fun a b => Sb1 p a b ∨ Fo1 e.fen a b ∨ Sw p e a b
theorem Gn {p : List Ev} (hm : Lw p) {e : Exec} (hx : XOk p e) (al : Sg p e) {a b : Nat} : A1 (Ek p e) a b = true ↔ Hb p e a b := by
 rw [Ek, E4 (befGo_ok hx _ (Nat.le_refl _))]
 exact TG.congr fun x y => Si hm hx al _ (Nat.le_refl _)
def Co1 (l : List Int) (a b : Nat) : Prop := ∃ i j, i < j ∧ j < l.length ∧ Ad l i = a ∧ Ad l j = b
def Fr1 (p : List Ev) (e : Exec) (r w : Nat) : Prop := r < p.length ∧ (evAt p r).reads = true ∧ w ≠ r ∧ ∃ j, j < (Kf p e r).length ∧ Ad (Kf p e r) j = w ∧ (Ae e r = -1 ∨ ∃ i, i < j ∧ Ad (Kf p e r) i = Ae e r)
theorem Qz {q : Rel} {l : List Int} {i : Nat} : ∀ j, (Ab0 q l i j).length = q.length
 | 0 => rfl
 | j + 1 => by rw [Ab0, D6, Qz j]
theorem Ra {q : Rel} {l : List Int} : ∀ i, (Zc q l i).length = q.length
 | 0 => rfl
 | i + 1 => by rw [Zc, Qz, Ra i]
theorem Rb {q : Rel} {ord : List (List Int)} : ∀ i, (X5 q ord i).length = q.length
 | 0 => rfl
 | i + 1 => by rw [X5, Ra, Rb i]
theorem V5 {q : Rel} {l : List Int} (hin : ∀ k, k < l.length → 0 ≤ Ad l k ∧ Ad l k < q.length) {i a b : Nat} : ∀ j, i + 1 + j ≤ l.length →
  (A1 (Ab0 q l i j) a b = true ↔ A1 q a b = true ∨ (Ad l i = a ∧ ∃ k, i < k ∧ k < i + 1 + j ∧ Ad l k = b))
 | 0, _ => by
  simp only [Ab0]
  constructor
  ·exact .inl
  ·rintro (h | ⟨_, k, h1, h2, _⟩)
   ·exact h
   ·omega
 | j + 1, hj => by
  have ih := V5 hin (i := i) (a := a) (b := b) j (by omega)
  have h1 := hin i (by omega)
  have h2 := hin (i + 1 + j) (by omega)
  rw [Ab0, Ez, ih, Qz]
  constructor
  ·rintro ((h | ⟨q1, k, q2, q3, q4⟩) | ⟨q1, q2, q3⟩)
   ·exact .inl h
   ·exact .inr ⟨q1, k, q2, by omega, q4⟩
   ·exact .inr ⟨by omega, i + 1 + j, by omega, by omega, by omega⟩
  ·rintro (h | ⟨q1, k, q2, q3, q4⟩)
   ·exact .inl (.inl h)
   ·by_cases hk : k = i + 1 + j
    ·subst hk; exact .inr ⟨by omega, by omega, by omega⟩
    ·exact .inl (.inr ⟨q1, k, q2, by omega, q4⟩)
theorem V6 {q : Rel} {l : List Int} (hin : ∀ k, k < l.length → 0 ≤ Ad l k ∧ Ad l k < q.length) {a b : Nat} : ∀ i, i ≤ l.length →
  (A1 (Zc q l i) a b = true ↔ A1 q a b = true ∨ ∃ x y, x < i ∧ x < y ∧ y < l.length ∧ Ad l x = a ∧ Ad l y = b)
 | 0, _ => by
  simp only [Zc]
  constructor
  ·exact .inl
  ·rintro (h | ⟨x, y, h1, _⟩)
   ·exact h
   ·omega
 | i + 1, hi => by
  have ih := V6 hin (a := a) (b := b) i (by omega)
  rw [Zc, V5 (by rw [Ra]; exact hin) _ (by omega), ih]
  constructor
  ·rintro ((h | ⟨x, y, h1, h2⟩) | ⟨h1, k, h2, h3, h4⟩)
   ·exact .inl h
   ·exact .inr ⟨x, y, by omega, h2⟩
   ·exact .inr ⟨i, k, by omega, h2, by omega, h1, h4⟩
  ·rintro (h | ⟨x, y, h1, h2, h3, h4, h5⟩)
   ·exact .inl (.inl h)
   ·by_cases hx : x = i
    ·subst hx; exact .inr ⟨h4, y, h2, by omega, h5⟩
    ·exact .inl (.inr ⟨x, y, by omega, h2, h3, h4, h5⟩)
theorem V7 {p : List Ev} {q : Rel} (hq : q.length = p.length) {ord : List (List Int)} (ho : ∀ l ∈ ord, Hm p l) {a b : Nat} : ∀ k, k ≤ ord.length →
  (A1 (X5 q ord k) a b = true ↔ A1 q a b = true ∨ ∃ i l, i < k ∧ ord[i]? = some l ∧ Co1 l a b)
 | 0, _ => by
  simp only [X5]
  constructor
  ·exact .inl
  ·rintro (h | ⟨x, y, h1, _⟩)
   ·exact h
   ·omega
 | k + 1, hk => by
  have ih := V7 hq ho (a := a) (b := b) k (by omega)
  have hg : ord[k]? = some ord[k] := List.getElem?_eq_getElem (by omega)
  have hin : Hm p ord[k] := ho _ (List.getElem_mem _)
  rw [X5, hg, Option.getD_some, V6 (fun j hj => by rw [Rb, hq]; exact hin.num hj) _ (Nat.le_refl _), ih]
  constructor
  ·rintro ((h | ⟨i, l, h1, h2⟩) | ⟨x, y, h1, h2, h3, h4, h5⟩)
   ·exact .inl h
   ·exact .inr ⟨i, l, by omega, h2⟩
   ·exact .inr ⟨k, ord[k], by omega, hg, x, y, h2, h3, h4, h5⟩
  ·rintro (h | ⟨i, l, h1, h2, h3⟩)
   ·exact .inl (.inl h)
   ·by_cases hi : i = k
    ·subst hi
     rw [hg] at h2; cases h2
     obtain ⟨x, y, q1, q2, q3, q4⟩ := h3
     exact .inr ⟨x, y, by omega, q1, q2, q3, q4⟩
    ·exact .inl (.inr ⟨i, l, by omega, h2, h3⟩)
theorem L0 {q : Rel} {r : Nat} {fr : Int} {l : List Int} : ∀ i, (Qr q r fr l i).1.length = q.length
 | 0 => rfl
 | i + 1 => by
  simp only [Qr]
  split
  ·rw [D6, L0 i]
  ·exact L0 i
theorem Nk {q : Rel} {r : Nat} {fr : Int} {l : List Int} : ∀ i, (Qr q r fr l i).2 = true ↔ fr = -1 ∨ ∃ j, j < i ∧ Ad l j = fr
 | 0 => by simp [Qr]
 | i + 1 => by
  simp only [Qr, Bool.or_eq_true, decide_eq_true_eq]
  rw [Nk i]
  constructor
  ·rintro ((h | ⟨j, h1, h2⟩) | h)
   ·exact .inl h
   ·exact .inr ⟨j, by omega, h2⟩
   ·exact .inr ⟨i, by omega, h⟩
  ·rintro (h | ⟨j, h1, h2⟩)
   ·exact .inl (.inl h)
   ·by_cases hj : j = i
    ·subst hj; exact .inr h2
    ·exact .inl (.inr ⟨j, by omega, h2⟩)
theorem V8 {q : Rel} {r : Nat} (hr : r < q.length) {fr : Int} {l : List Int} (hin : ∀ k, k < l.length → 0 ≤ Ad l k ∧ Ad l k < q.length) {a b : Nat} : ∀ i, i ≤ l.length →
  (A1 (Qr q r fr l i).1 a b = true ↔ A1 q a b = true ∨ (a = r ∧ b ≠ r ∧ ∃ j, j < i ∧ Ad l j = b ∧ (fr = -1 ∨ ∃ k, k < j ∧ Ad l k = fr)))
 | 0, _ => by
  simp only [Qr]
  constructor
  ·exact .inl
  ·rintro (h | ⟨_, _, j, h1, _⟩)
   ·exact h
   ·omega
 | i + 1, hi => by
  have ih := V8 hr hin (a := a) (b := b) (fr := fr) i (by omega)
  have h0 := hin i (by omega)
  simp only [Qr]
  split
  ·rename_i h
   rw [Nk] at h
   rw [Ez, ih, L0]
   constructor
   ·rintro ((h1 | ⟨h1, h2, j, h3, h4⟩) | ⟨h1, h2, h3⟩)
    ·exact .inl h1
    ·exact .inr ⟨h1, h2, j, by omega, h4⟩
    ·exact .inr ⟨h1, by omega, i, by omega, by omega, h.1⟩
   ·rintro (h1 | ⟨h1, h2, j, h3, h4, h5⟩)
    ·exact .inl (.inl h1)
    ·by_cases hj : j = i
     ·subst hj; exact .inr ⟨h1, hr, by omega⟩
     ·exact .inl (.inr ⟨h1, h2, j, by omega, h4, h5⟩)
  ·rename_i h
   rw [Nk] at h
   rw [ih]
   constructor
   ·rintro (h1 | ⟨h1, h2, j, h3, h4⟩)
    ·exact .inl h1
    ·exact .inr ⟨h1, h2, j, by omega, h4⟩
   ·rintro (h1 | ⟨h1, h2, j, h3, h4, h5⟩)
    ·exact .inl h1
    ·by_cases hj : j = i
     ·subst hj; exact absurd ⟨h5, fun e => h2 (Int.ofNat.inj (h4.symm.trans e))⟩ h
     ·exact .inr ⟨h1, h2, j, by omega, h4, h5⟩
theorem Ib {p : List Ev} {e : Exec} : ∀ r, (Ou p e r).length = p.length
 | 0 => by rw [Ou, Rb, List.length_replicate]
 | r + 1 => by
  simp only [Ou]
  split
  ·rw [L0, Mu]
   split
   ·rw [D6, Ib r]
   ·exact Ib r
  ·exact Ib r
def Ct4 (p : List Ev) (e : Exec) (a b : Nat) : Prop := (∃ l ∈ e.ord, Co1 l a b) ∨ ((evAt p b).reads = true ∧ Rf e p.length a b) ∨ Fr1 p e a b
theorem V9 {p : List Ev} (hp : POk p) {e : Exec} (hx : XOk p e) {a b : Nat} : ∀ n, n ≤ p.length →
  (A1 (Ou p e n) a b = true ↔ (∃ l ∈ e.ord, Co1 l a b) ∨ ((evAt p b).reads = true ∧ Rf e n a b) ∨ (a < n ∧ Fr1 p e a b))
 | 0, _ => by
  rw [Ou, V7 (p := p) (by simp) (fun l hl => (hx.oin l hl).1) _ (Nat.le_refl _), Nb]
  constructor
  ·rintro (h | ⟨i, l, h1, h2, h3⟩)
   ·cases h
   ·exact .inl ⟨l, List.mem_of_getElem? h2, h3⟩
  ·rintro (⟨l, h1, h2⟩ | ⟨_, h, _⟩ | ⟨h, _⟩)
   ·obtain ⟨i, hi, rfl⟩ := List.getElem_of_mem h1
    exact .inr ⟨i, _, hi, List.getElem?_eq_getElem hi, h2⟩
   ·omega
   ·omega
 | n + 1, hn => by
  have ih := V9 hp hx (a := a) (b := b) n (by omega)
  have dt := hx.fr n (by omega)
  obtain ⟨_, _, lp, _⟩ := Qs hp hx (r := n) (by omega)
  simp only [Ou]
  split
  ·rename_i aH
   have kg : A1 (Mu (Ou p e n) e n) a b = true ↔ A1 (Ou p e n) a b = true ∨ (b = n ∧ Ae e n = a) := by
    rw [Mu]
    split
    ·rename_i h0
     rw [Ez, Ib]
     unfold Ae at h0 ⊢
     constructor
     ·rintro (h | ⟨h1, h2, h3⟩)
      ·exact .inl h
      ·exact .inr ⟨h3, by omega⟩
     ·rintro (h | ⟨h1, h2⟩)
      ·exact .inl h
      ·exact .inr ⟨by omega, by omega, h1⟩
    ·rename_i h0
     constructor
     ·exact .inl
     ·rintro (h | ⟨h1, h2⟩)
      ·exact h
      ·omega
   have gI : (Mu (Ou p e n) e n).length = p.length := by
    rw [Mu]; split
    ·rw [D6, Ib]
    ·exact Ib n
   rw [V8 (by rw [gI]; omega) (fun k hk => by rw [gI]; exact lp.num hk) _ (Nat.le_refl _), kg, ih]
   unfold Rf
   constructor
   ·rintro (((h | ⟨h1, h2, h3⟩ | ⟨h1, h2⟩) | ⟨rfl, h⟩) | ⟨rfl, h1, j, h2, h3, h4⟩)
    ·exact .inl h
    ·exact .inr (.inl ⟨h1, by omega, h3⟩)
    ·exact .inr (.inr ⟨by omega, h2⟩)
    ·exact .inr (.inl ⟨aH, by omega, h⟩)
    ·exact .inr (.inr ⟨by omega, by omega, aH, h1, j, h2, h3, h4⟩)
   ·rintro (h | ⟨h1, h2, h3⟩ | ⟨h1, h2⟩)
    ·exact .inl (.inl (.inl h))
    ·by_cases hb : b = n
     ·subst hb; exact .inl (.inr ⟨rfl, h3⟩)
     ·exact .inl (.inl (.inr (.inl ⟨h1, by omega, h3⟩)))
    ·by_cases ha : a = n
     ·subst ha
      obtain ⟨_, _, h4, j, h5, h6, h7⟩ := h2
      exact .inr ⟨rfl, h4, j, h5, h6, h7⟩
     ·exact .inl (.inl (.inr (.inr ⟨by omega, h2⟩)))
  ·rename_i aH
   rw [ih]
   unfold Rf
   constructor
   ·rintro (h | ⟨h1, h2, h3⟩ | ⟨h1, h2⟩)
    ·exact .inl h
    ·exact .inr (.inl ⟨h1, by omega, h3⟩)
    ·exact .inr (.inr ⟨by omega, h2⟩)
   ·rintro (h | ⟨h1, h2, h3⟩ | ⟨h1, h2⟩)
    ·exact .inl h
    ·by_cases hb : b = n
     ·subst hb; exact absurd h1 aH
     ·exact .inr (.inl ⟨h1, by omega, h3⟩)
    ·by_cases ha : a = n
     ·subst ha; exact absurd h2.2.1 aH
     ·exact .inr (.inr ⟨by omega, h2⟩)
def Eco (p : List Ev) (e : Exec) : Nat → Nat → Prop := TG (Ct4 p e)
theorem Wa {p : List Ev} (hp : POk p) {e : Exec} (hx : XOk p e) {a b : Nat} : A1 (At5 p e) a b = true ↔ Eco p e a b := by
 rw [At5, E4 (comD_ok hp hx _ (Nat.le_refl _))]
 refine TG.congr fun x y => ?_
 rw [V9 hp hx _ (Nat.le_refl _)]
 unfold Ct4
 constructor
 ·rintro (h | h | ⟨_, h⟩)
  ·exact .inl h
  ·exact .inr (.inl h)
  ·exact .inr (.inr h)
 ·rintro (h | h | h)
  ·exact .inl h
  ·exact .inr (.inl h)
  ·exact .inr (.inr ⟨h.1, h⟩)
def K9 (p : List Ev) (e : Exec) : Prop := ∀ l ∈ e.ord, ∀ i, i < l.length → (evAt p (Ad l i).toNat).reads = true → Ae e (Ad l i).toNat = Fl l i
def Gp (p : List Ev) (e : Exec) : Prop := ∃ a, TG (fun a b => Sb1 p a b ∨ Fo1 e.fen a b ∨ Rf e p.length a b) a a
def Rc (p : List Ev) (e : Exec) : Prop := (∃ a, Hb p e a a) ∨ ∃ a b, Hb p e a b ∧ Eco p e b a
theorem Gp.rfOk {p : List Ev} {e : Exec} (h : ¬ Gp p e) : Sg p e := fun a ha => h ⟨a, ha.mono fun _ _ k => .inr (.inr k)⟩
theorem Sj {p : List Ev} (hp : POk p) (hm : Lw p) {e : Exec} (hx : XOk p e) (al : Sg p e) : (Bp (Ek p e) || Mv p e) = true ↔ Rc p e := by
 unfold Rc
 rw [Bool.or_eq_true, Gm]
 refine or_congr (exists_congr fun a => Gn hm hx al) ?_
 unfold Mv
 simp only [List.any_eq_true, List.mem_range, Bool.and_eq_true]
 constructor
 ·rintro ⟨a, _, b, _, h1, h2⟩
  exact ⟨a, b, (Gn hm hx al).1 h1, (Wa hp hx).1 h2⟩
 ·rintro ⟨a, b, h1, h2⟩
  have cT := (Gn hm hx al).2 h1
  have := (beforeP_ok hx).has cT
  exact ⟨a, this.1, b, this.2, cT, (Wa hp hx).2 h2⟩
theorem Rd {p : List Ev} {e : Exec} : e.ord.any (Ci p e) = true ↔ ¬ K9 p e := by
 unfold K9
 simp only [List.any_eq_true, Ci, Qt, List.mem_range, Bool.and_eq_true, decide_eq_true_eq]
 constructor
 ·rintro ⟨l, hl, i, hi, h1, h2⟩ h
  exact h2 (h l hl i hi h1)
 ·intro h
  apply Decidable.byContradiction
  intro hn
  apply h
  intro l hl i hi hr
  apply Decidable.byContradiction
  intro h2
  exact hn ⟨l, hl, i, hi, hr, h2⟩
open Classical in
theorem Ps {p : List Ev} (hp : POk p) (hm : Lw p) {e : Exec} (hx : XOk p e) :
  Cv p e = if Gp p e then 2 else if Rc p e then 3 else if K9 p e then 0 else 4 := by
 unfold Cv
 by_cases h2 : Gp p e
 ·rw [if_pos ((Pq hx).2 h2), if_pos h2]
 ·rw [if_neg (fun h => h2 ((Pq hx).1 h)), if_neg h2]
  have al := Gp.rfOk h2
  by_cases h3 : Rc p e
  ·rw [if_pos ((Sj hp hm hx al).2 h3), if_pos h3]
  ·rw [if_neg (fun h => h3 ((Sj hp hm hx al).1 h)), if_neg h3]
   by_cases h4 : K9 p e
   ·rw [if_neg (fun h => Rd.1 h h4), if_pos h4]
   ·rw [if_pos (Rd.2 h4), if_neg h4]
structure Cons (p : List Ev) (e : Exec) : Prop where
 round : ¬ Gp p e
 cross : ¬ Rc p e
 next : K9 p e
theorem Hr {p : List Ev} (hp : POk p) (hm : Lw p) {e : Exec} (hx : XOk p e) : Cv p e = 0 ↔ Cons p e := by
 rw [Ps hp hm hx]
 constructor
 ·intro h
  split at h
  ·cases h
  ·split at h
   ·cases h
   ·split at h
    ·exact ⟨by assumption, by assumption, by assumption⟩
    ·cases h
 ·intro ⟨h1, h2, h3⟩
  rw [if_neg h1, if_neg h2, if_pos h3]
end Go.EV

namespace Go.EV
open Go.Proofs
def Wd.R (s : Wd) (i : Nat) : Int := s.r[i]?.getD 0
def Wd.W (s : Wd) (i : Nat) : Int := s.w[i]?.getD 0
def Wd.K (s : Wd) (i : Nat) : Bool := s.k[i]?.getD false
def Wd.T (s : Wd) (i : Nat) : Bool := s.t[i]?.getD false
def Bu (f : List Int) (i : Nat) : Int := f[i]?.getD 0
theorem Ba {α : Type} {l : List α} {i j : Nat} {x d : α} (hi : i < l.length) : (l.set i x)[j]?.getD d = if j = i then x else l[j]?.getD d := by
 rw [List.getElem?_set]
 by_cases h : i = j
 ·subst h; simp [hi]
 ·have h' : ¬ j = i := fun e => h e.symm
  simp [h, h']
structure Wd.Inv (p : List Ev) (f : List Int) (s : Wd) : Prop where
 len : s.Len p.length
 k : ∀ i, s.K i = true → (evAt p i).reads = true ∧ ((Bu f i = -1 ∧ s.R i = 0) ∨ ∃ w : Nat, Bu f i = w ∧ s.T w = true ∧ s.R i = s.W w)
 n : ∀ i, s.K i = false → s.R i = 0
 t : ∀ i, s.T i = true → ((evAt p i).op.kind = 1 ∧ s.W i = (evAt p i).op.v) ∨ ((evAt p i).op.kind = 2 ∧ s.K i = true ∧ s.W i = IntKind.i64.wrap (s.R i + (evAt p i).op.v)) ∨ (((evAt p i).op.kind = 3 ∨ (evAt p i).op.kind = 4) ∧ s.W i = (evAt p i).op.w)
structure Wd.Le (s s' : Wd) : Prop where
 k : ∀ i, s.K i = true → s'.K i = true ∧ s'.R i = s.R i
 t : ∀ i, s.T i = true → s'.T i = true ∧ s'.W i = s.W i
theorem Wd.Le.refl (s : Wd) : s.Le s := ⟨fun _ h => ⟨h, rfl⟩, fun _ h => ⟨h, rfl⟩⟩
theorem Wd.Le.trans {a b c : Wd} (h : a.Le b) (k : b.Le c) : a.Le c :=
 ⟨fun i hi => ⟨(k.k i (h.k i hi).1).1, (k.k i (h.k i hi).1).2.trans (h.k i hi).2⟩, fun i hi => ⟨(k.t i (h.t i hi).1).1, (k.t i (h.t i hi).1).2.trans (h.t i hi).2⟩⟩
section
variable {p : List Ev} {f : List Int}
theorem Pt (hf : Cr p f) {s : Wd} {i : Nat} (hi : i < p.length) (h : s.Inv p f) : (B5 p f s i).Inv p f ∧ s.Le (B5 p f s i) ∧
  (((evAt p i).reads = true ∧ (Bu f i = -1 ∨ ∃ w : Nat, Bu f i = w ∧ s.T w = true)) → (B5 p f s i).K i = true) := by
 unfold B5
 have hl := h.len
 have dp : i < s.k.length := by rw [hl.k]; exact hi
 have iY : i < s.r.length := by rw [hl.r]; exact hi
 split
 ·rename_i hc
  simp only [Bool.and_eq_true, decide_eq_true_eq] at hc
  have hK : ∀ j, ({ s with k := s.k.set i true } : Wd).K j = if j = i then true else s.K j := fun j => Ba dp
  refine ⟨⟨⟨hl.r, hl.w, by simp [hl.k], hl.t⟩, fun j hj => ?_, fun j hj => ?_, fun j hj => ?_⟩, ⟨fun j hj => ⟨?_, rfl⟩, fun j hj => ⟨hj, rfl⟩⟩, fun _ => ?_⟩
  ·rw [hK] at hj
   by_cases ar : j = i
   ·subst ar
    refine ⟨hc.1, .inl ⟨hc.2, ?_⟩⟩
    cases hk : s.K j with
    | false => exact h.n j hk
    | true =>
     rcases (h.k j hk).2 with ⟨_, h2⟩ | ⟨w, h1, _⟩
     ·exact h2
     ·have : Bu f j = -1 := hc.2
      omega
   ·rw [if_neg ar] at hj; exact h.k j hj
  ·rw [hK] at hj
   by_cases ar : j = i
   ·rw [if_pos ar] at hj; cases hj
   ·rw [if_neg ar] at hj; exact h.n j hj
  ·rcases h.t j hj with h1 | ⟨h1, h2, h3⟩ | h1
   ·exact .inl h1
   ·refine .inr (.inl ⟨h1, ?_, h3⟩)
    rw [hK]; split
    ·rfl
    ·exact h2
   ·exact .inr (.inr h1)
  ·rw [hK]; split
   ·rfl
   ·exact hj
  ·rw [hK, if_pos rfl]
 ·rename_i hc
  split
  ·rename_i dT
   simp only [Bool.and_eq_true, decide_eq_true_eq, not_and] at hc dT
   have hne : Bu f i ≠ -1 := hc dT.1
   obtain ⟨w, hw⟩ : ∃ w : Nat, Bu f i = w := by
    rcases hf.2 i hi dT.1 with h1 | ⟨h1, _⟩
    ·exact absurd h1 hne
    ·exact ⟨(Bu f i).toNat, by unfold Bu; omega⟩
   have kp : (f[i]?.getD 0).toNat = w := by unfold Bu at hw; omega
   rw [kp] at dT
   rw [kp]
   have hK : ∀ j, ({ s with r := s.r.set i (s.w[w]?.getD 0), k := s.k.set i true } : Wd).K j = if j = i then true else s.K j := fun j => Ba dp
   have hR : ∀ j, ({ s with r := s.r.set i (s.w[w]?.getD 0), k := s.k.set i true } : Wd).R j = if j = i then s.W w else s.R j := fun j => Ba iY
   have rK : ∀ j, s.K j = true → ({ s with r := s.r.set i (s.w[w]?.getD 0), k := s.k.set i true } : Wd).R j = s.R j := by
    intro j hj
    rw [hR]; split
    ·rename_i e; subst e
     rcases (h.k j hj).2 with ⟨h1, _⟩ | ⟨w', h1, _, h3⟩
     ·exact absurd h1 hne
     ·have : w' = w := by omega
      subst this; exact h3.symm
    ·rfl
   refine ⟨⟨⟨by simp [hl.r], hl.w, by simp [hl.k], hl.t⟩, fun j hj => ?_, fun j hj => ?_, fun j hj => ?_⟩, ⟨fun j hj => ⟨?_, rK j hj⟩, fun j hj => ⟨hj, rfl⟩⟩, fun _ => ?_⟩
   ·rw [hK] at hj
    rw [hR]
    by_cases ar : j = i
    ·subst ar
     rw [if_pos rfl]
     exact ⟨dT.1, .inr ⟨w, hw, dT.2, rfl⟩⟩
    ·rw [if_neg ar] at hj ⊢; exact h.k j hj
   ·rw [hK] at hj
    rw [hR]
    by_cases ar : j = i
    ·rw [if_pos ar] at hj; cases hj
    ·rw [if_neg ar] at hj ⊢; exact h.n j hj
   ·rcases h.t j hj with h1 | ⟨h1, h2, h3⟩ | h1
    ·exact .inl h1
    ·refine .inr (.inl ⟨h1, ?_, ?_⟩)
     ·rw [hK]; split
      ·rfl
      ·exact h2
     ·rw [rK j h2]; exact h3
    ·exact .inr (.inr h1)
   ·rw [hK]; split
    ·rfl
    ·exact hj
   ·rw [hK, if_pos rfl]
  ·rename_i dT
   refine ⟨h, Wd.Le.refl s, fun ⟨h1, h2⟩ => ?_⟩
   exfalso
   simp only [Bool.and_eq_true, decide_eq_true_eq, not_and] at hc dT
   rcases h2 with h2 | ⟨w, h2, h3⟩
   ·exact hc h1 h2
   ·apply dT h1
    have : (f[i]?.getD 0).toNat = w := by unfold Bu at h2; omega
    rw [this]; exact h3
theorem Ux {s : Wd} {i : Nat} (hi : i < p.length) (h : s.Inv p f) : (Cg p s i).Inv p f ∧ s.Le (Cg p s i) ∧
  (((evAt p i).op.kind = 1 ∨ ((evAt p i).op.kind = 2 ∧ s.K i = true) ∨ (evAt p i).op.kind = 3 ∨ (evAt p i).op.kind = 4) → (Cg p s i).T i = true) ∧ (∀ j, (Cg p s i).K j = s.K j) := by
 have hl := h.len
 have ku : i < s.w.length := by rw [hl.w]; exact hi
 have bi : i < s.t.length := by rw [hl.t]; exact hi
 have key : ∀ (x : Int) (b : Bool), (∀ _ : s.T i = true, b = true ∧ x = s.W i) →
   (b = true → ((evAt p i).op.kind = 1 ∧ x = (evAt p i).op.v) ∨ ((evAt p i).op.kind = 2 ∧ s.K i = true ∧ x = IntKind.i64.wrap (s.R i + (evAt p i).op.v)) ∨ (((evAt p i).op.kind = 3 ∨ (evAt p i).op.kind = 4) ∧ x = (evAt p i).op.w)) →
   ({ s with w := s.w.set i x, t := s.t.set i b } : Wd).Inv p f ∧ s.Le { s with w := s.w.set i x, t := s.t.set i b } ∧ ({ s with w := s.w.set i x, t := s.t.set i b } : Wd).T i = b := by
  intro x b h1 h2
  have hT : ∀ j, ({ s with w := s.w.set i x, t := s.t.set i b } : Wd).T j = if j = i then b else s.T j := fun j => Ba bi
  have hW : ∀ j, ({ s with w := s.w.set i x, t := s.t.set i b } : Wd).W j = if j = i then x else s.W j := fun j => Ba ku
  have aj : s.Le { s with w := s.w.set i x, t := s.t.set i b } := by
   refine ⟨fun j hj => ⟨hj, rfl⟩, fun j hj => ?_⟩
   rw [hT, hW]
   by_cases ar : j = i
   ·subst ar; simp only [if_true]; exact h1 hj
   ·rw [if_neg ar, if_neg ar]; exact ⟨hj, rfl⟩
  refine ⟨⟨⟨hl.r, by simp [hl.w], hl.k, by simp [hl.t]⟩, fun j hj => ?_, h.n, fun j hj => ?_⟩, aj, by rw [hT, if_pos rfl]⟩
  ·obtain ⟨q1, q2⟩ := h.k j hj
   refine ⟨q1, q2.imp id fun ⟨w, e1, e2, e3⟩ => ⟨w, e1, (aj.t w e2).1, ?_⟩⟩
   rw [(aj.t w e2).2]; exact e3
  ·rw [hT] at hj
   rw [hW]
   by_cases ar : j = i
   ·subst ar; rw [if_pos rfl] at hj ⊢; exact h2 hj
   ·rw [if_neg ar] at hj ⊢; exact h.t j hj
 unfold Cg
 split
 ·rename_i hk
  obtain ⟨q1, q2, q3⟩ := key (evAt p i).op.v true (fun ht => ⟨rfl, by rcases h.t i ht with ⟨_, e⟩ | ⟨e, _⟩ | ⟨e, _⟩ <;> omega⟩) (fun _ => .inl ⟨hk, rfl⟩)
  exact ⟨q1, q2, fun _ => q3, fun _ => rfl⟩
 ·rename_i cG
  split
  ·rename_i hk
   obtain ⟨q1, q2, q3⟩ := key (IntKind.i64.wrap (s.r[i]?.getD 0 + (evAt p i).op.v)) (s.k[i]?.getD false)
    (fun ht => by
     rcases h.t i ht with ⟨e, _⟩ | ⟨e, e2, e3⟩ | ⟨e, _⟩
     ·omega
     ·exact ⟨e2, e3.symm⟩
     ·omega) (fun hb => .inr (.inl ⟨hk, hb, rfl⟩))
   refine ⟨q1, q2, fun hh => ?_, fun _ => rfl⟩
   rw [q3]
   rcases hh with e | ⟨_, e⟩ | e | e
   ·omega
   ·exact e
   ·omega
   ·omega
  ·rename_i cD
   split
   ·rename_i hk
    obtain ⟨q1, q2, q3⟩ := key (evAt p i).op.w true (fun ht => ⟨rfl, by rcases h.t i ht with ⟨e, _⟩ | ⟨e, _⟩ | ⟨_, e⟩ <;> omega⟩) (fun _ => .inr (.inr ⟨hk, rfl⟩))
    exact ⟨q1, q2, fun _ => q3, fun _ => rfl⟩
   ·rename_i hk
    refine ⟨h, Wd.Le.refl s, fun hh => ?_, fun _ => rfl⟩
    omega
theorem Ee (hf : Cr p f) {s : Wd} (h : s.Inv p f) : ∀ m, m ≤ p.length → (Cu p f s m).Inv p f ∧ s.Le (Cu p f s m) ∧
  (∀ i, i < m → ((evAt p i).reads = true ∧ (Bu f i = -1 ∨ ∃ w : Nat, Bu f i = w ∧ s.T w = true)) → (Cu p f s m).K i = true) ∧
  (∀ i, i < m → ((evAt p i).op.kind = 1 ∨ ((evAt p i).op.kind = 2 ∧ (Cu p f s m).K i = true) ∨ (evAt p i).op.kind = 3 ∨ (evAt p i).op.kind = 4) → (Cu p f s m).T i = true) ∧
  (∀ i, (Cu p f s m).K i = true → i < m ∨ s.K i = true)
 | 0, _ => ⟨h, Wd.Le.refl s, fun i hi => by omega, fun i hi => by omega, fun i hi => .inr hi⟩
 | m + 1, hm => by
  obtain ⟨h1, h2, h3, h4, h5⟩ := Ee hf h m (by omega)
  obtain ⟨r1, r2, r3⟩ := Pt hf (i := m) (by omega) h1
  obtain ⟨w1, w2, w3, w4⟩ := Ux (i := m) (by omega) r1
  have aj := (h2.trans r2).trans w2
  have iZ : ∀ j, j ≠ m → (B5 p f (Cu p f s m) m).K j = (Cu p f s m).K j := by
   intro j hj
   have dp : m < (Cu p f s m).k.length := by rw [h1.len.k]; omega
   unfold B5
   split
   ·show ((Cu p f s m).k.set m true)[j]?.getD false = _
    rw [Ba dp, if_neg hj]; rfl
   ·split
    ·show ((Cu p f s m).k.set m true)[j]?.getD false = _
     rw [Ba dp, if_neg hj]; rfl
    ·rfl
  refine ⟨w1, aj, fun i hi hr => ?_, fun i hi hk => ?_, fun i hi => ?_⟩
  ·by_cases fX : i = m
   ·subst fX
    show (Cg p (B5 p f (Cu p f s i) i) i).K i = true
    rw [w4]
    refine r3 ⟨hr.1, hr.2.imp id fun ⟨w, e1, e2⟩ => ⟨w, e1, (h2.t w e2).1⟩⟩
   ·exact ((r2.trans w2).k i (h3 i (by omega) hr)).1
  ·by_cases fX : i = m
   ·subst fX
    refine w3 (hk.imp id fun e => e.imp (fun e => ⟨e.1, ?_⟩) id)
    have := e.2
    rw [show Cu p f s (i + 1) = Cg p (B5 p f (Cu p f s i) i) i from rfl, w4] at this
    exact this
   ·refine ((r2.trans w2).t i (h4 i (by omega) (hk.imp id fun e => e.imp (fun e => ⟨e.1, ?_⟩) id))).1
    have := e.2
    rw [show Cu p f s (m + 1) = Cg p (B5 p f (Cu p f s m) m) m from rfl, w4, iZ i fX] at this
    exact this
  ·have aA : (Cg p (B5 p f (Cu p f s m) m) m).K i = true := hi
   rw [w4] at aA
   by_cases fX : i = m
   ·exact .inl (by omega)
   ·rw [iZ i fX] at aA
    rcases h5 i aA with h | h
    ·exact .inl (by omega)
    ·exact .inr h
theorem At8 : (wd0 p.length).Inv p f := by
 have hT : ∀ i, (wd0 p.length).T i = false := fun i => by simp only [Wd.T, wd0, List.getElem?_replicate]; split <;> rfl
 have hK : ∀ i, (wd0 p.length).K i = false := fun i => by simp only [Wd.K, wd0, List.getElem?_replicate]; split <;> rfl
 refine ⟨Y8 _, fun i h => ?_, fun i _ => ?_, fun i h => ?_⟩
 ·rw [hK] at h; cases h
 ·simp only [Wd.R, wd0, List.getElem?_replicate]; split <;> rfl
 ·rw [hT] at h; cases h
theorem Cp (hf : Cr p f) : ∀ k, (Be p f k).Inv p f
 | 0 => At8
 | k + 1 => (Ee hf (Cp hf k) _ (Nat.le_refl _)).1
def Km (p : List Ev) (f : List Int) : Prop := ∀ i w : Nat, i < p.length → (evAt p i).reads = true → Bu f i = w → w < p.length ∧ 1 ≤ (evAt p w).op.kind ∧ (evAt p w).op.kind ≤ 4
theorem La (hf : Cr p f) (hs : Km p f) : ∀ (m i : Nat), i < p.length → (evAt p i).reads = true → (Be p f (m + 1)).K i = false →
  ∃ g : Nat → Nat, g 0 = i ∧ (∀ j, j ≤ m → g j < p.length) ∧ ∀ j, j < m → Bu f (g j) = (g (j + 1) : Nat)
 | 0, i, hi, _, _ => ⟨fun _ => i, rfl, fun _ _ => hi, fun j hj => by omega⟩
 | m + 1, i, hi, hr, hk => by
  obtain ⟨_, _, h3, _, _⟩ := Ee hf (Cp hf (m + 1)) p.length (Nat.le_refl _)
  obtain ⟨_, _, _, k4, _⟩ := Ee hf (Cp hf m) p.length (Nat.le_refl _)
  have hn : Bu f i ≠ -1 := fun e => by
   have := h3 i hi ⟨hr, .inl e⟩
   rw [show Cu p f (Be p f (m + 1)) p.length = Be p f (m + 1 + 1) from rfl, hk] at this; cases this
  obtain ⟨w, hw⟩ : ∃ w : Nat, Bu f i = w := by
   rcases hf.2 i hi hr with h1 | ⟨h1, _⟩
   ·exact absurd h1 hn
   ·exact ⟨(Bu f i).toNat, by unfold Bu; omega⟩
  obtain ⟨cF, cG, sm⟩ := hs i w hi hr hw
  have hT : (Be p f (m + 1)).T w = false := by
   cases ht : (Be p f (m + 1)).T w with
   | false => rfl
   | true =>
    have := h3 i hi ⟨hr, .inr ⟨w, hw, ht⟩⟩
    rw [show Cu p f (Be p f (m + 1)) p.length = Be p f (m + 1 + 1) from rfl, hk] at this; cases this
  have cD : (evAt p w).op.kind = 2 := by
   apply Decidable.byContradiction; intro h2
   have := k4 w cF (by omega)
   rw [show Cu p f (Be p f m) p.length = Be p f (m + 1) from rfl, hT] at this; cases this
  have jL : (Be p f (m + 1)).K w = false := by
   cases ht : (Be p f (m + 1)).K w with
   | false => rfl
   | true =>
    have := k4 w cF (.inr (.inl ⟨cD, ht⟩))
    rw [show Cu p f (Be p f m) p.length = Be p f (m + 1) from rfl, hT] at this; cases this
  obtain ⟨g, g1, g2, g3⟩ := La hf hs m w cF (by simp [Ev.reads, cD]) jL
  refine ⟨fun j => if j = 0 then i else g (j - 1), rfl, fun j hj => ?_, fun j hj => ?_⟩
  ·by_cases h0 : j = 0
   ·simp [h0, hi]
   ·simp only [h0, if_false]; exact g2 _ (by omega)
  ·by_cases h0 : j = 0
   ·subst h0; simpa [g1] using hw
   ·have := g3 (j - 1) (by omega)
    rw [show j - 1 + 1 = j by omega] at this
    simpa [h0] using this
structure Words (p : List Ev) (f : List Int) (R W : Nat → Int) : Prop where
 out : ∀ i, i < p.length → (evAt p i).reads = false → R i = 0
 init : ∀ i, i < p.length → (evAt p i).reads = true → Bu f i = -1 → R i = 0
 from_ : ∀ i w : Nat, i < p.length → (evAt p i).reads = true → Bu f i = w → R i = W w
 store : ∀ i, i < p.length → (evAt p i).op.kind = 1 → W i = (evAt p i).op.v
 add : ∀ i, i < p.length → (evAt p i).op.kind = 2 → W i = IntKind.i64.wrap (R i + (evAt p i).op.v)
 cas : ∀ i, i < p.length → ((evAt p i).op.kind = 3 ∨ (evAt p i).op.kind = 4) → W i = (evAt p i).op.w
theorem Gq (hf : Cr p f) (hs : Km p f) (al : ∀ a, ¬ TG (fun a b => b < p.length ∧ Bu f b = (a : Nat)) a a) {i : Nat} (hi : i < p.length) (hr : (evAt p i).reads = true) : (An p f).K i = true := by
 cases hk : (An p f).K i with
 | true => rfl
 | false =>
  exfalso
  obtain ⟨g, g1, g2, g3⟩ := La hf hs p.length i hi hr hk
  have := Qy (R := fun a b => a < p.length ∧ Bu f a = (b : Nat)) (n := p.length) (m := p.length) (f := g) (fun a ha => ?_) (fun j hj => ⟨g2 j (by omega), g3 j hj⟩) g2
  ·omega
  ·have key : ∀ a b, TG (fun a b => a < p.length ∧ Bu f a = (b : Nat)) a b → TG (fun a b => b < p.length ∧ Bu f b = (a : Nat)) b a := by
    intro a b h
    induction h with
    | one h => exact .one h
    | more h _ ih => exact ih.trans (.one h)
   exact al a (key a a ha)
theorem words_ok (hf : Cr p f) (hs : Km p f) (al : ∀ a, ¬ TG (fun a b => b < p.length ∧ Bu f b = (a : Nat)) a a) : Words p f (An p f).R (An p f).W := by
 have ba := Cp hf (p.length + 1)
 have hT : ∀ i, i < p.length → ((evAt p i).op.kind = 1 ∨ ((evAt p i).op.kind = 2 ∧ (An p f).K i = true) ∨ (evAt p i).op.kind = 3 ∨ (evAt p i).op.kind = 4) → (An p f).T i = true :=
  (Ee hf (Cp hf p.length) _ (Nat.le_refl _)).2.2.2.1
 refine ⟨fun i hi hr => ?_, fun i hi hr h0 => ?_, fun i w hi hr hw => ?_, fun i hi hk => ?_, fun i hi hk => ?_, fun i hi hk => ?_⟩
 ·refine ba.n i ?_
  cases hk : (Be p f (p.length + 1)).K i with
  | false => rfl
  | true => rw [(ba.k i hk).1] at hr; cases hr
 ·rcases (ba.k i (Gq hf hs al hi hr)).2 with ⟨_, h⟩ | ⟨w, h, _⟩
  ·exact h
  ·omega
 ·rcases (ba.k i (Gq hf hs al hi hr)).2 with ⟨h, _⟩ | ⟨w', h, _, h3⟩
  ·omega
  ·have : w' = w := by omega
   subst this; exact h3
 ·rcases ba.t i (hT i hi (.inl hk)) with ⟨_, h⟩ | ⟨h, _⟩ | ⟨h, _⟩
  ·exact h
  ·omega
  ·omega
 ·have hr : (evAt p i).reads = true := by simp [Ev.reads, hk]
  rcases ba.t i (hT i hi (.inr (.inl ⟨hk, Gq hf hs al hi hr⟩))) with ⟨h, _⟩ | ⟨_, _, h⟩ | ⟨h, _⟩
  ·omega
  ·exact h
  ·omega
 ·rcases ba.t i (hT i hi (.inr (.inr hk))) with ⟨h, _⟩ | ⟨h, _⟩ | ⟨_, h⟩
  ·omega
  ·omega
  ·exact h
theorem Cr7 {n : Nat} {f : Nat → Int} (aZ : ∀ i, i < n → f i < n) (al : ∀ a, ¬ TG (fun a b => b < n ∧ f b = (a : Nat)) a a) (C : Nat → Prop) (h : ∀ i, i < n → (∀ w : Nat, f i = w → C w) → C i) : ∀ i, i < n → C i := by
 intro i hi
 apply Classical.byContradiction; intro hn
 have step : ∀ x : { i : Nat // i < n ∧ ¬ C i }, ∃ y : { i : Nat // i < n ∧ ¬ C i }, f x.1 = (y.1 : Nat) := by
  intro ⟨x, hx, hc⟩
  apply Classical.byContradiction; intro aK
  refine hc (h x hx fun w hw => ?_)
  apply Classical.byContradiction; intro dW
  exact aK ⟨⟨w, by have := aZ x hx; omega, dW⟩, hw⟩
 have hg : ∃ g : { i : Nat // i < n ∧ ¬ C i } → { i : Nat // i < n ∧ ¬ C i }, ∀ x, f x.1 = ((g x).1 : Nat) := ⟨fun x => Classical.choose (step x), fun x => Classical.choose_spec (step x)⟩
 obtain ⟨g, hg⟩ := hg
 let it : Nat → { i : Nat // i < n ∧ ¬ C i } := fun k => Nat.rec ⟨i, hi, hn⟩ (fun _ x => g x) k
 have := Qy (R := fun a b => a < n ∧ f a = (b : Nat)) (n := n) (m := n) (f := fun k => (it k).1) (fun a ha => ?_) (fun j hj => ⟨(it j).2.1, hg (it j)⟩) (fun j _ => (it j).2.1)
 ·omega
 ·have key : ∀ a b, TG (fun a b => a < n ∧ f a = (b : Nat)) a b → TG (fun a b => b < n ∧ f b = (a : Nat)) b a := by
   intro a b h
   induction h with
   | one h => exact .one h
   | more h _ ih => exact ih.trans (.one h)
  exact al a (key a a ha)
theorem Words.uniq (hf : Cr p f) (hs : Km p f) (al : ∀ a, ¬ TG (fun a b => b < p.length ∧ Bu f b = (a : Nat)) a a) (aZ : ∀ i, i < p.length → Bu f i < p.length) {R W R' W' : Nat → Int} (h : Words p f R W) (h' : Words p f R' W') :
  ∀ i, i < p.length → R i = R' i ∧ (1 ≤ (evAt p i).op.kind → (evAt p i).op.kind ≤ 4 → W i = W' i) := by
 refine Cr7 (f := Bu f) aZ al _ fun i hi ih => ?_
 have hR : R i = R' i := by
  cases hr : (evAt p i).reads with
  | false => rw [h.out i hi hr, h'.out i hi hr]
  | true =>
   rcases hf.2 i hi hr with h0 | ⟨h0, h1⟩
   ·rw [h.init i hi hr h0, h'.init i hi hr h0]
   ·obtain ⟨w, hw⟩ : ∃ w : Nat, Bu f i = w := ⟨(Bu f i).toNat, by unfold Bu; omega⟩
    obtain ⟨q1, q2, q3⟩ := hs i w hi hr hw
    rw [h.from_ i w hi hr hw, h'.from_ i w hi hr hw]
    exact (ih w hw).2 q2 q3
 refine ⟨hR, fun h1 h4 => ?_⟩
 by_cases k1 : (evAt p i).op.kind = 1
 ·rw [h.store i hi k1, h'.store i hi k1]
 ·by_cases k2 : (evAt p i).op.kind = 2
  ·rw [h.add i hi k2, h'.add i hi k2, hR]
  ·rw [h.cas i hi (by omega), h'.cas i hi (by omega)]
end
end Go.EV

namespace Go.EV
open Go.Proofs
theorem Nl (n : Nat) (f : Nat → Bool) : (Cy n f).Pairwise (· < ·) := by
 unfold Cy
 rw [List.pairwise_map]
 refine List.Pairwise.imp (R := fun a b : Nat => a < b) (fun h => by omega) ?_
 exact List.Pairwise.filter _ List.pairwise_lt_range
theorem At9 {l : List Int} (h : l.Pairwise (· < ·)) {i j : Nat} (hi : i < l.length) (hj : j < l.length) (e : Ad l i = Ad l j) : i = j := by
 have hp := List.pairwise_iff_getElem.1 h
 simp only [Ad, List.getElem?_eq_getElem hi, List.getElem?_eq_getElem hj, Option.getD_some] at e
 rcases Nat.lt_trichotomy i j with h1 | h1 | h1
 ·have := hp i j hi hj h1; omega
 ·exact h1
 ·have := hp j i hj hi h1; omega
theorem Cq {l : List Int} {i : Nat} (hi : i < l.length) : Ad l i = l[i] := by simp [Ad, hi]
theorem Hs {l : List Int} {x : Int} : x ∈ l ↔ ∃ i, i < l.length ∧ Ad l i = x := by
 constructor
 ·intro h
  obtain ⟨i, hi, rfl⟩ := List.getElem_of_mem h
  exact ⟨i, hi, Cq hi⟩
 ·rintro ⟨i, hi, rfl⟩
  rw [Cq hi]; exact List.getElem_mem hi
def B0 (e : List Bool) (i : Nat) : Bool := e[i]?.getD false
theorem Sk (p : List Ev) (i : Nat) (hi : i < p.length) : ∀ m, m ≤ p.length → B0 (Kh p m) i = (decide (i < m) && (decide ((evAt p i).op.kind = 1) || decide ((evAt p i).op.kind = 2)))
 | 0, _ => by simp [Kh, B0, hi]
 | m + 1, hm => by
  have ih := Sk p i hi m (by omega)
  unfold B0 at ih ⊢
  rw [Kh, Ba (by rw [Jv]; omega), ih]
  by_cases h : i = m
  ·subst h; simp
  ·have : decide (i < m + 1) = decide (i < m) := by rw [decide_eq_decide]; omega
   rw [if_neg h, this]
theorem Nm {p : List Ev} {i : Nat} : (i : Int) ∈ Bl p ↔ i < p.length ∧ ((evAt p i).op.kind = 3 ∨ (evAt p i).op.kind = 4) := by
 rw [Bl, Dm]
 constructor
 ·rintro ⟨j, h1, h2, h3⟩
  have : j = i := by omega
  subst this
  exact ⟨h1, by simpa using h2⟩
 ·rintro ⟨h1, h2⟩; exact ⟨i, h1, by simpa using h2, rfl⟩
theorem Sm (p : List Ev) (set i : Nat) (hi : i < p.length) : ∀ k, k ≤ (Bl p).length →
  (∀ j, j < k → Ad (Bl p) j = i → B0 (Ju p set k) i = set.testBit j) ∧ ((∀ j, j < k → Ad (Bl p) j ≠ i) → B0 (Ju p set k) i = (decide ((evAt p i).op.kind = 1) || decide ((evAt p i).op.kind = 2)))
 | 0, _ => ⟨fun j hj => by omega, fun _ => by rw [Ju, Sk p i hi _ (Nat.le_refl _)]; simp [hi]⟩
 | k + 1, hk => by
  obtain ⟨h1, h2⟩ := Sm p set i hi k (by omega)
  have hin : (Ad (Bl p) k) ∈ Bl p := Hs.2 ⟨k, by omega, rfl⟩
  obtain ⟨w, aq, _, dM⟩ := Dm.1 hin
  have aG : (Ad (Bl p) k).toNat < (Ju p set k).length := by rw [Jw]; omega
  unfold B0 at h1 h2 ⊢
  rw [Ju, Ba aG]
  constructor
  ·intro j hj he
   by_cases nU : j = k
   ·subst nU; rw [if_pos (by omega)]
   ·have hne : Ad (Bl p) j ≠ Ad (Bl p) k := fun e => nU (At9 (Nl _ _) (show j < (Bl p).length by omega) (show k < (Bl p).length by omega) e)
    rw [if_neg (by omega)]
    exact h1 j (by omega) he
  ·intro hn
   have := hn k (by omega)
   rw [if_neg (by omega)]
   exact h2 fun j hj => hn j (by omega)
def Re (f : Nat → Bool) : Nat → Nat
 | 0 => 0
 | k + 1 => Re f k ||| (if f k then 2 ^ k else 0)
theorem Wb (f : Nat → Bool) : ∀ k, Re f k < 2 ^ k
 | 0 => by simp [Re]
 | k + 1 => by
  have := Wb f k
  rw [Re]
  refine Nat.or_lt_two_pow (by rw [Nat.pow_succ]; omega) ?_
  split
  ·rw [Nat.pow_succ]; have := Nat.two_pow_pos k; omega
  ·exact Nat.two_pow_pos _
theorem Sn (f : Nat → Bool) (j : Nat) : ∀ k, (Re f k).testBit j = (decide (j < k) && f j)
 | 0 => by simp [Re]
 | k + 1 => by
  rw [Re, Nat.testBit_or, Sn f j k]
  by_cases h : j = k
  ·subst h
   cases f j <;> simp
  ·have h2 : decide (j < k + 1) = decide (j < k) := by rw [decide_eq_decide]; omega
   rw [h2]
   have h3 : (if f k then 2 ^ k else 0).testBit j = false := by
    split
    ·rw [Nat.testBit_two_pow]; simp; omega
    ·simp
   rw [h3, Bool.or_false]
theorem Ad4 {a b : List Bool} (hl : a.length = b.length) (h : ∀ i, i < a.length → B0 a i = B0 b i) : a = b := by
 refine List.ext_getElem hl fun i h1 h2 => ?_
 have := h i h1
 simpa [B0, h1, h2] using this
theorem Pu {p : List Ev} {dn : List Bool} : dn ∈ K2 p ↔ dn.length = p.length ∧ ∀ i, i < p.length →
  (((evAt p i).op.kind = 1 ∨ (evAt p i).op.kind = 2) → B0 dn i = true) ∧ (B0 dn i = true → 1 ≤ (evAt p i).op.kind ∧ (evAt p i).op.kind ≤ 4) := by
 have eZ : ∀ (set i : Nat), i < p.length → (∀ j, j < (Bl p).length → Ad (Bl p) j = i → B0 (Ir p set) i = set.testBit j) ∧ ((evAt p i).op.kind ≠ 3 → (evAt p i).op.kind ≠ 4 → B0 (Ir p set) i = (decide ((evAt p i).op.kind = 1) || decide ((evAt p i).op.kind = 2))) := by
  intro set i hi
  obtain ⟨h1, h2⟩ := Sm p set i hi _ (Nat.le_refl _)
  refine ⟨h1, fun k3 k4 => h2 fun j hj he => ?_⟩
  have : (i : Int) ∈ Bl p := Hs.2 ⟨j, hj, he⟩
  rcases (Nm.1 this).2 with h | h
  ·exact k3 h
  ·exact k4 h
 constructor
 ·intro h
  obtain ⟨set, hs, rfl⟩ := List.mem_map.1 h
  refine ⟨E3 p set, fun i hi => ?_⟩
  obtain ⟨h1, h2⟩ := eZ set i hi
  constructor
  ·rintro (hk | hk)
   ·rw [h2 (by omega) (by omega)]; simp [hk]
   ·rw [h2 (by omega) (by omega)]; simp [hk]
  ·intro hd
   by_cases k3 : (evAt p i).op.kind = 3
   ·omega
   ·by_cases k4 : (evAt p i).op.kind = 4
    ·omega
    ·rw [h2 k3 k4] at hd
     simp only [Bool.or_eq_true, decide_eq_true_eq] at hd
     omega
 ·rintro ⟨hl, h⟩
  refine List.mem_map.2 ⟨Re (fun j => B0 dn (Ad (Bl p) j).toNat) (Bl p).length, List.mem_range.2 (Wb _ _), ?_⟩
  refine Ad4 (by rw [E3, hl]) fun i hi => ?_
  rw [E3] at hi
  obtain ⟨h1, h2⟩ := eZ (Re (fun j => B0 dn (Ad (Bl p) j).toNat) (Bl p).length) i hi
  by_cases hf : (i : Int) ∈ Bl p
  ·obtain ⟨j, hj, he⟩ := Hs.1 hf
   rw [h1 j hj he, Sn]
   simp [hj, he]
  ·have rL : (evAt p i).op.kind ≠ 3 ∧ (evAt p i).op.kind ≠ 4 := ⟨fun e => hf (Nm.2 ⟨hi, .inl e⟩), fun e => hf (Nm.2 ⟨hi, .inr e⟩)⟩
   rw [h2 rL.1 rL.2]
   have := h i hi
   cases hd : B0 dn i with
   | true =>
    have := this.2 hd
    simp only [Bool.or_eq_true, decide_eq_true_eq]; omega
   | false =>
    simp only [Bool.or_eq_false_iff, decide_eq_false_iff_not]
    refine ⟨fun e => ?_, fun e => ?_⟩
    ·rw [this.1 (.inl e)] at hd; cases hd
    ·rw [this.1 (.inr e)] at hd; cases hd
def Ad5 (p : List Ev) (m : List Int) : Prop := m.Pairwise fun x y => thI p x = thI p y → x < y
theorem So {l : List Int} {i : Nat} (hi : i < l.length) : l.Perm (l[i] :: l.eraseIdx i) := by
 have h2 : l = l.take i ++ l[i] :: l.drop (i + 1) := by rw [List.getElem_cons_drop, List.take_append_drop]
 rw [List.eraseIdx_eq_take_drop_succ]
 conv => lhs; rw [h2]
 exact List.perm_middle
theorem I4 {p : List Ev} : ∀ (n : Nat) (l m : List Int), l.length = n → l.Pairwise (· < ·) → (m ∈ Cj p n l ↔ m.Perm l ∧ Ad5 p m)
 | 0, l, m, hl, _ => by
  have : l = [] := List.length_eq_zero_iff.1 hl
  subst this
  simp only [Cj, List.mem_singleton, List.perm_nil]
  constructor
  ·rintro rfl; exact ⟨rfl, List.Pairwise.nil⟩
  ·exact fun h => h.1
 | n + 1, l, m, hl, ha => by
  have hp := List.pairwise_iff_getElem.1 ha
  simp only [Cj, List.mem_flatMap, List.mem_range]
  constructor
  ·rintro ⟨i, hi, hm⟩
   have cw : i < l.length := by omega
   split at hm
   ·exact absurd hm List.not_mem_nil
   ·rename_i hb
    obtain ⟨m', kh, rfl⟩ := List.mem_map.1 hm
    obtain ⟨h1, h2⟩ := (I4 n (l.eraseIdx i) m' (by rw [List.length_eraseIdx_of_lt cw]; omega) (ha.sublist (List.eraseIdx_sublist ..))).1 kh
    rw [Cq cw]
    refine ⟨(List.Perm.cons _ h1).trans (So cw).symm, List.pairwise_cons.2 ⟨fun y hy cx => ?_, h2⟩⟩
    have dj : y ∈ l.eraseIdx i := h1.mem_iff.1 hy
    rw [List.eraseIdx_eq_take_drop_succ, List.mem_append] at dj
    rcases dj with dj | dj
    ·exfalso
     apply hb
     rw [Fb, List.any_eq_true]
     exact ⟨y, dj, by rw [Cq cw, decide_eq_true_eq]; exact cx.symm⟩
    ·obtain ⟨j, hj, rfl⟩ := List.getElem_of_mem dj
     rw [List.getElem_drop]
     exact hp i _ cw _ (by omega)
  ·rintro ⟨h1, h2⟩
   rcases m with _ | ⟨x, m'⟩
   ·have := h1.length_eq; simp at this; omega
   ·have hx : x ∈ l := h1.mem_iff.1 (List.mem_cons_self ..)
    obtain ⟨i, hi, rfl⟩ := List.getElem_of_mem hx
    obtain ⟨h3, h4⟩ := List.pairwise_cons.1 h2
    have h5 : m'.Perm (l.eraseIdx i) := (h1.trans (So hi)).cons_inv
    refine ⟨i, by omega, ?_⟩
    rw [if_neg ?_]
    ·rw [Cq hi]
     exact List.mem_map.2 ⟨m', (I4 n (l.eraseIdx i) m' (by rw [List.length_eraseIdx_of_lt hi]; omega) (ha.sublist (List.eraseIdx_sublist ..))).2 ⟨h5, h4⟩, rfl⟩
    ·intro hb
     rw [Fb, List.any_eq_true] at hb
     obtain ⟨z, hz, cx⟩ := hb
     rw [Cq hi, decide_eq_true_eq] at cx
     have sn : z ∈ m' := h5.mem_iff.2 (by rw [List.eraseIdx_eq_take_drop_succ, List.mem_append]; exact .inl hz)
     have := h3 z sn cx.symm
     obtain ⟨j, hj, rfl⟩ := List.getElem_of_mem hz
     rw [List.length_take] at hj
     rw [List.getElem_take] at this
     have := hp j i (by omega) hi (by omega)
     omega
theorem Nn {p : List Ev} {l m : List Int} (ha : l.Pairwise (· < ·)) : m ∈ C2 p l ↔ m.Perm l ∧ Ad5 p m := I4 _ l m rfl ha
theorem D3 (p : List Ev) (dn : List Bool) (loc : Int) : (Av p dn loc).Pairwise (· < ·) := Nl _ _
theorem Fz (p : List Ev) : (Bk p).Pairwise (· < ·) := Nl _ _
theorem Gr {p : List Ev} {dn : List Bool} : ∀ (k : Nat) (loc : Int) (x : List (List Int)), x ∈ B3 p dn k loc ↔ x.length = k ∧ ∀ j, j < k → (x[j]?.getD []) ∈ C2 p (Av p dn (loc + j))
 | 0, loc, x => by
  simp only [B3, List.mem_singleton]
  constructor
  ·rintro rfl; exact ⟨rfl, fun j hj => by omega⟩
  ·rintro ⟨h, _⟩; exact List.length_eq_zero_iff.1 h
 | k + 1, loc, x => by
  simp only [B3, List.mem_flatMap, List.mem_map]
  constructor
  ·rintro ⟨l, hl, y, hy, rfl⟩
   obtain ⟨h1, h2⟩ := (Gr k (loc + 1) y).1 hy
   refine ⟨by simp [h1], fun j hj => ?_⟩
   cases j with
   | zero => simpa using hl
   | succ j =>
    have := h2 j (by omega)
    simpa [Int.add_assoc, Int.add_comm 1] using this
  ·rintro ⟨h1, h2⟩
   rcases x with _ | ⟨l, y⟩
   ·simp at h1
   ·refine ⟨l, by simpa using h2 0 (by omega), y, (Gr k (loc + 1) y).2 ⟨by simpa using h1, fun j hj => ?_⟩, rfl⟩
    have := h2 (j + 1) (by omega)
    simpa [Int.add_assoc, Int.add_comm 1] using this
theorem Ic {p : List Ev} {dn : List Bool} {ord : List (List Int)} : ∀ (k i : Nat) (x : List Int), x ∈ Ck p dn ord k i ↔ x.length = k ∧ ∀ j, j < k → Bu x j ∈ Bt p dn ord (i + j)
 | 0, i, x => by
  simp only [Ck, List.mem_singleton]
  constructor
  ·rintro rfl; exact ⟨rfl, fun j hj => by omega⟩
  ·rintro ⟨h, _⟩; exact List.length_eq_zero_iff.1 h
 | k + 1, i, x => by
  simp only [Ck, List.mem_flatMap, List.mem_map]
  constructor
  ·rintro ⟨w, hw, y, hy, rfl⟩
   obtain ⟨h1, h2⟩ := (Ic k (i + 1) y).1 hy
   refine ⟨by simp [h1], fun j hj => ?_⟩
   cases j with
   | zero => simpa [Bu] using hw
   | succ j =>
    have := h2 j (by omega)
    simpa [Bu, Nat.add_assoc, Nat.add_comm 1] using this
  ·rintro ⟨h1, h2⟩
   rcases x with _ | ⟨w, y⟩
   ·simp at h1
   ·refine ⟨w, by simpa [Bu] using h2 0 (by omega), y, (Ic k (i + 1) y).2 ⟨by simpa using h1, fun j hj => ?_⟩, rfl⟩
    have := h2 (j + 1) (by omega)
    simpa [Bu, Nat.add_assoc, Nat.add_comm 1] using this
structure Shape (p : List Ev) (e : Exec) : Prop where
 fl : e.frm.length = p.length
 dl : e.dn.length = p.length
 ol : e.ord.length = 3
 dn1 : ∀ i, i < p.length → ((evAt p i).op.kind = 1 ∨ (evAt p i).op.kind = 2) → B0 e.dn i = true
 dn0 : ∀ i, i < p.length → B0 e.dn i = true → 1 ≤ (evAt p i).op.kind ∧ (evAt p i).op.kind ≤ 4
 out : ∀ i, i < p.length → (evAt p i).reads = false → Ae e i = -2
 src : ∀ i, i < p.length → (evAt p i).reads = true → Ae e i = -1 ∨ ∃ w : Nat, Ae e i = w ∧ w < p.length ∧ B0 e.dn w = true ∧ (evAt p w).op.loc = (evAt p i).op.loc
 ord : ∀ k : Nat, k < 3 → (e.ord[k]?.getD []).Perm (Av p e.dn k)
 fen : e.fen.Perm (Bk p)
def Sp (p : List Ev) (e : Exec) : Prop := ∀ i, i < p.length →
 ((evAt p i).op.kind = 3 → (B0 e.dn i = true ↔ (An p e.frm).R i = (evAt p i).op.v)) ∧ ((evAt p i).op.kind = 4 → B0 e.dn i = true → (An p e.frm).R i = (evAt p i).op.v)
theorem A9 {p : List Ev} {dn : List Bool} {k : Int} {x : Int} : x ∈ Av p dn k ↔ ∃ i : Nat, x = i ∧ i < p.length ∧ (evAt p i).op.kind ≠ 5 ∧ B0 dn i = true ∧ (evAt p i).op.loc = k := by
 rw [Av, Dm]
 simp only [Bool.and_eq_true, decide_eq_true_eq, B0]
 constructor
 ·rintro ⟨i, h1, ⟨⟨h2, h3⟩, h4⟩, h5⟩; exact ⟨i, h5, h1, h2, h3, h4⟩
 ·rintro ⟨i, h5, h1, h2, h3, h4⟩; exact ⟨i, h1, ⟨⟨h2, h3⟩, h4⟩, h5⟩
theorem Shape.xok {p : List Ev} {e : Exec} (h : Shape p e) (hn : e.fen = [] ∨ True) : XOk p e := by
 have lr : ∀ l ∈ e.ord, Hm p l ∧ l.length ≤ p.length := by
  intro l hl
  obtain ⟨k, hk, rfl⟩ := List.getElem_of_mem hl
  have := h.ord k (by rw [← h.ol]; exact hk)
  rw [List.getElem?_eq_getElem hk, Option.getD_some] at this
  exact ⟨(Ki p e.dn _).perm this, by rw [this.length_eq]; exact Bz _ _⟩
 refine ⟨h.fl, h.dl, h.ol, fun i hi => ?_, lr, (My p).perm h.fen, by rw [h.fen.length_eq]; exact Bz _ _⟩
 cases hr : (evAt p i).reads with
 | false =>
  have := h.out i hi hr
  unfold Ae at this
  exact ⟨by omega, fun h => by cases h⟩
 | true =>
  rcases h.src i hi hr with h1 | ⟨w, h1, h2, _⟩
  ·unfold Ae at h1; exact ⟨by omega, fun _ => by omega⟩
  ·unfold Ae at h1; exact ⟨by omega, fun _ => by omega⟩
theorem Shape.fromOk {p : List Ev} {e : Exec} (h : Shape p e) : Cr p e.frm := (h.xok (.inr trivial)).fromOk
theorem Shape.srcOk {p : List Ev} {e : Exec} (h : Shape p e) : Km p e.frm := fun i w hi hr hw => by
 rcases h.src i hi hr with h1 | ⟨w', h1, h2, h3, _⟩
 ·unfold Ae at h1; unfold Bu at hw; omega
 ·have : w' = w := by unfold Ae at h1; unfold Bu at hw; omega
  subst this
  exact ⟨h2, h.dn0 w' h2 h3⟩
theorem Shape.words {p : List Ev} {e : Exec} (h : Shape p e) (al : Sg p e) : Words p e.frm (An p e.frm).R (An p e.frm).W := words_ok h.fromOk h.srcOk al
theorem Zh {p : List Ev} {e : Exec} {a b : Nat} (h : Hb p ⟨e.frm, e.dn, e.ord, []⟩ a b) : Hb p e a b := by
 refine TG.mono h fun x y dq => ?_
 rcases dq with dq | ⟨j, hj, _⟩ | ⟨r, w, v, h1, h2, h3, h4, h5, h6⟩
 ·exact .inl dq
 ·simp at hj
 ·refine .inr (.inr ⟨r, w, v, h1, h2, h3, ?_, h5, h6⟩)
  have key : ∀ {w v : Nat}, Back p ⟨e.frm, e.dn, e.ord, []⟩ w v → Back p e w v := by
   intro w v h
   induction h with
   | here => exact .here
   | on h _ ih => exact .on h ih
  exact key h4
theorem Cons.less {p : List Ev} {e : Exec} (h : Cons p e) : Cons p ⟨e.frm, e.dn, e.ord, []⟩ := by
 refine ⟨fun ⟨a, ha⟩ => h.round ⟨a, ha.mono fun x y dq => ?_⟩, fun hc => h.cross ?_, h.next⟩
 ·rcases dq with dq | ⟨j, hj, _⟩ | dq
  ·exact .inl dq
  ·simp at hj
  ·exact .inr (.inr dq)
 ·rcases hc with ⟨a, ha⟩ | ⟨a, b, h1, h2⟩
  ·exact .inl ⟨a, Zh ha⟩
  ·refine .inr ⟨a, b, Zh h1, TG.mono h2 fun x y dq => ?_⟩
   exact dq
theorem No {p : List Ev} {e : Exec} : (List.range p.length).any (Ho p e) = false ↔ Sp p e := by
 unfold Sp
 rw [List.any_eq_false]
 simp only [List.mem_range]
 refine forall_congr' fun i => forall_congr' fun hi => ?_
 unfold Ho
 show ¬ ((decide ((evAt p i).op.kind = 3) && xor (B0 e.dn i) (decide ((An p e.frm).R i = (evAt p i).op.v))) || (decide ((evAt p i).op.kind = 4) && (B0 e.dn i) && decide ((An p e.frm).R i ≠ (evAt p i).op.v))) = true ↔ _
 cases hd : B0 e.dn i <;> by_cases hv : (An p e.frm).R i = (evAt p i).op.v <;> by_cases h3 : (evAt p i).op.kind = 3 <;> by_cases h4 : (evAt p i).op.kind = 4 <;> simp [hv, h3, h4]
theorem Au0 {l : List Int} (hn : l.Nodup) {x : Int} {j : Nat} (hj : j < l.length) (e : l[j] = x) : l.findIdx (fun y => decide (x = y)) = j := by
 refine (List.findIdx_eq hj).2 ⟨by simp [e], fun k hk => ?_⟩
 rw [decide_eq_false_iff_not]
 intro h
 have := (List.pairwise_iff_getElem.1 (List.nodup_iff_pairwise_ne.1 hn)) k j (by omega) hj hk
 exact this (by rw [e, ← h])
theorem Xh {l : List Int} (hn : l.Nodup) (hpos : ∀ x ∈ l, 0 ≤ x) {i j : Nat} (hj : j < l.length) (e : l[j] = i) : Fo (-1 :: l) i = Fl l j := by
 unfold Fo
 have : (-1 :: l : List Int).findIdx (fun y => decide ((i : Int) = y)) = j + 1 := by
  refine Au0 (x := (i : Int)) (List.nodup_cons.2 ⟨fun h => by have := hpos _ h; omega, hn⟩) (by simp; omega) (by simpa using e)
 rw [this, Nat.add_sub_cancel]
 cases j with
 | zero => rfl
 | succ j => simp [Fl, Ad]
theorem Ht {l : List Int} (h : l.Pairwise (· < ·)) : l.Nodup := by
 rw [List.nodup_iff_pairwise_ne]; exact h.imp fun h => by omega
theorem Cr8 {p : List Ev} (hm : Lw p) {e : Exec} : ∀ (d a : Nat), a + d + 1 < p.length → (evAt p a).th = (evAt p (a + d + 1)).th → Hb p e a (a + d + 1)
 | 0, a, h, ht => .one (.inl ⟨rfl, h, ht.symm⟩)
 | d + 1, a, h, ht => by
  have h1 := hm.between (a := a) (b := a + (d + 1) + 1) (x := a + d + 1) h (by omega) (by omega) ht
  exact (Cr8 hm d a (by omega) (by rw [h1]; exact ht)).trans (.one (.inl ⟨by omega, h, h1.symm⟩))
theorem Wc {p : List Ev} (hm : Lw p) {e : Exec} : ∀ (d a : Nat), a + d + 1 < p.length → (evAt p a).th = (evAt p (a + d + 1)).th → TG (fun a b => Sb1 p a b ∨ Fo1 e.fen a b ∨ Rf e p.length a b) a (a + d + 1)
 | 0, a, h, ht => .one (.inl ⟨rfl, h, ht.symm⟩)
 | d + 1, a, h, ht => by
  have h1 := hm.between (a := a) (b := a + (d + 1) + 1) (x := a + d + 1) h (by omega) (by omega) ht
  exact (Wc hm d a (by omega) (by rw [h1]; exact ht)).trans (.one (.inl ⟨by omega, h, h1.symm⟩))
theorem We {p : List Ev} {e : Exec} : ∀ (d j a b : Nat), j + d + 1 < e.fen.length → (∀ k, k < e.fen.length → 0 ≤ Ad e.fen k) → Ad e.fen j = a → Ad e.fen (j + d + 1) = b → TG (fun a b => Sb1 p a b ∨ Fo1 e.fen a b ∨ Rf e p.length a b) a b
 | 0, j, a, b, h, _, ha, hb => .one (.inr (.inl ⟨j, h, ha, hb⟩))
 | d + 1, j, a, b, h, hp, ha, hb => by
  have h1 := hp (j + d + 1) (by omega)
  obtain ⟨c, hc⟩ : ∃ c : Nat, Ad e.fen (j + d + 1) = c := ⟨(Ad e.fen (j + d + 1)).toNat, by omega⟩
  exact (We d j a c (by omega) hp ha hc).trans (.one (.inr (.inl ⟨j + d + 1, by omega, hc, by rw [← hb]; congr 1⟩)))
theorem Rg {p : List Ev} (hp : POk p) (hm : Lw p) {e : Exec} : e ∈ Fx p ↔ Shape p e ∧ Sp p e ∧ Cons p e := by
 constructor
 ·intro h
  have h0 := h
  simp only [Fx, K5, Mx, List.mem_flatMap] at h
  obtain ⟨dn, hd, ord, ho, frm, hf, h⟩ := h
  unfold Is at h
  split at h
  ·rename_i hpos
   obtain ⟨h, hb⟩ := List.mem_filter.1 h
   obtain ⟨fen, hn, rfl⟩ := List.mem_map.1 h
   have hx := exec_ok hp hd ho hf (Kj hn)
   obtain ⟨d1, d2⟩ := Pu.1 hd
   obtain ⟨o1, o2⟩ := (Gr 3 0 ord).1 ho
   obtain ⟨f1, f2⟩ := (Ic _ _ frm).1 hf
   have bZ : ∀ k : Nat, k < 3 → (ord[k]?.getD []).Perm (Av p dn k) := fun k hk => by
    have := Ff (o2 k hk)
    rwa [Int.zero_add] at this
   unfold Dp at hpos
   simp only [Bool.and_eq_true, Bool.not_eq_true', decide_eq_true_eq] at hpos hb
   have hw : Sp p ⟨frm, dn, ord, []⟩ := No.1 hpos.1
   have hc := (Hr hp hm hx).1 hb
   refine ⟨⟨f1, d1, o1, fun i hi => (d2 i hi).1, fun i hi => (d2 i hi).2, fun i hi hr => ?_, fun i hi hr => ?_, bZ, Ff hn⟩, hw, hc⟩
   ·have := f2 i hi
    rw [Nat.zero_add, Bt, if_pos hr, List.mem_singleton] at this
    exact this
   ·have h1 := f2 i hi
    rw [Nat.zero_add, Bt, if_neg (by rw [hr]; simp)] at h1
    have bX := hp.loc i hi
    have cI : ∀ x ∈ Ia p ord i, x = -1 ∨ ∃ w : Nat, x = w ∧ w < p.length ∧ B0 dn w = true ∧ (evAt p w).op.loc = (evAt p i).op.loc := by
     intro x hx
     rcases List.mem_cons.1 hx with h | h
     ·exact .inl h
     ·have h3 := (bZ (evAt p i).op.loc.toNat (by omega)).mem_iff.1 h
      obtain ⟨w, q1, q2, _, q3, q4⟩ := A9.1 h3
      exact .inr ⟨w, q1, q2, q3, by omega⟩
    split at h1
    ·rw [List.mem_singleton] at h1
     show Bu frm i = -1 ∨ _
     show _ ∨ ∃ w : Nat, Bu frm i = w ∧ _
     rw [h1]
     unfold Fo Ad
     rcases hq : (Ia p ord i)[(Ia p ord i).findIdx (fun y => decide ((i : Int) = y)) - 1]? with _ | y
     · -- there is one
      exfalso
      have := List.getElem?_eq_none_iff.1 hq
      have h2 := List.findIdx_le_length (p := fun y => decide ((i : Int) = y)) (xs := Ia p ord i)
      have h3 : 0 < (Ia p ord i).length := by simp [Ia]
      have h4 : (Ia p ord i).findIdx (fun y => decide ((i : Int) = y)) ≠ 0 := by
       intro h0
       simp [Ia, List.findIdx_cons] at h0
      omega
     ·exact cI y (List.mem_of_getElem? hq)
    ·exact cI _ h1
  ·exact absurd h List.not_mem_nil
 ·rintro ⟨hs, hw, hc⟩
  have hx := hs.xok (.inr trivial)
  obtain ⟨frm, dn, ord, fen⟩ := e
  have al : Sg p ⟨frm, dn, ord, fen⟩ := Gp.rfOk hc.round
  simp only [Fx, K5, Mx, List.mem_flatMap]
  have hdn : dn ∈ K2 p := Pu.2 ⟨hs.dl, fun i hi => ⟨hs.dn1 i hi, hs.dn0 i hi⟩⟩
  have bZ : ∀ k : Nat, k < 3 → (ord[k]?.getD []).Perm (Av p dn k) := hs.ord
  have aJ : ∀ k : Nat, k < 3 → (ord[k]?.getD []) ∈ ord := fun k hk => by
   have : k < ord.length := by have : ord.length = 3 := hs.ol; omega
   rw [List.getElem?_eq_getElem this, Option.getD_some]; exact List.getElem_mem _
  have bB : ∀ k : Nat, k < 3 → Ad5 p (ord[k]?.getD []) := by
   intro k hk
   have bC := bZ k hk
   have f5 := aJ k hk
   generalize ord[k]?.getD [] = l at bC f5
   refine List.pairwise_iff_getElem.2 fun i j hi hj gQ cx => ?_
   apply Decidable.byContradiction; intro aZ
   have mi := A9.1 (bC.mem_iff.1 (List.getElem_mem hi))
   have mj := A9.1 (bC.mem_iff.1 (List.getElem_mem hj))
   obtain ⟨a, ea, la, _⟩ := mi
   obtain ⟨b, eb, lb, _⟩ := mj
   have hne : a ≠ b := by
    intro e
    have bm : l.Nodup := (bC.nodup_iff).2 (Ht (D3 p dn k))
    exact (List.pairwise_iff_getElem.1 (List.nodup_iff_pairwise_ne.1 bm)) i j hi hj gQ (by rw [ea, eb, e])
   rw [ea, eb] at aZ cx
   simp only [thI, Int.toNat_natCast] at cx
   have sq : b < a := by omega
   refine hc.cross (.inr ⟨b, a, ?_, .one (.inl ⟨l, f5, i, j, gQ, hj, by rw [Cq hi, ea], by rw [Cq hj, eb]⟩)⟩)
   have := Cr8 hm (e := ⟨frm, dn, ord, fen⟩) (a - b - 1) b (by omega) (by rw [show b + (a - b - 1) + 1 = a by omega]; exact cx.symm)
   rwa [show b + (a - b - 1) + 1 = a by omega] at this
  have lu : ord ∈ Qw p dn := (Gr 3 0 ord).2 ⟨hs.ol, fun j hj => by
   rw [Int.zero_add]; exact (Nn (D3 _ _ _)).2 ⟨bZ j hj, bB j hj⟩⟩
  have i5 : frm ∈ K3 p dn ord := by
   refine (Ic _ _ frm).2 ⟨hs.fl, fun i hi => ?_⟩
   rw [Nat.zero_add, Bt]
   cases hr : (evAt p i).reads with
   | false => rw [if_pos rfl, List.mem_singleton]; exact hs.out i hi hr
   | true =>
    rw [if_neg (by simp)]
    have bX := hp.loc i hi
    have eV : (evAt p i).op.loc.toNat < 3 := by omega
    have bC := bZ _ eV
    have f5 := aJ _ eV
    split
    ·rename_i hd
     rw [List.mem_singleton]
     have nG := hs.dn0 i hi hd
     have hin : (i : Int) ∈ ord[(evAt p i).op.loc.toNat]?.getD [] := bC.mem_iff.2 (A9.2 ⟨i, rfl, hi, by omega, hd, by omega⟩)
     obtain ⟨j, hj, kl⟩ := List.getElem_of_mem hin
     have jM := hc.next _ f5 j hj
     rw [Cq hj, kl, Int.toNat_natCast] at jM
     have := jM hr
     show Ae ⟨frm, dn, ord, fen⟩ i = _
     rw [this, Ia, Xh ((bC.nodup_iff).2 (Ht (D3 _ _ _))) (fun x hx => by
      obtain ⟨w, hw, _⟩ := A9.1 (bC.mem_iff.1 hx); omega) hj kl]
    ·rcases hs.src i hi hr with h | ⟨w, h1, h2, h3, h4⟩
     ·exact List.mem_cons.2 (.inl h)
     ·refine List.mem_cons.2 (.inr (bC.mem_iff.2 (A9.2 ⟨w, h1, h2, ?_, h3, by omega⟩)))
      have := hs.dn0 w h2 h3; omega
  have rF : Ad5 p fen := by
   have bC : fen.Perm (Bk p) := hs.fen
   refine List.pairwise_iff_getElem.2 fun i j hi hj gQ cx => ?_
   apply Decidable.byContradiction; intro aZ
   have bO : Hm p fen := hx.fin.1
   have hin := fun k (hk : k < fen.length) => bO.num hk
   have h1 := hin i hi
   have h2 := hin j hj
   obtain ⟨a, ea⟩ : ∃ a : Nat, Ad fen i = a := ⟨(Ad fen i).toNat, by omega⟩
   obtain ⟨b, eb⟩ : ∃ b : Nat, Ad fen j = b := ⟨(Ad fen j).toNat, by omega⟩
   rw [← Cq hi, ← Cq hj, ea, eb] at aZ cx
   simp only [thI, Int.toNat_natCast] at cx
   have hne : a ≠ b := by
    intro e
    have bm : fen.Nodup := (bC.nodup_iff).2 (Ht (Fz p))
    exact (List.pairwise_iff_getElem.1 (List.nodup_iff_pairwise_ne.1 bm)) i j hi hj gQ (by rw [← Cq hi, ← Cq hj, ea, eb, e])
   have sq : b < a := by omega
   have g1 := We (p := p) (e := ⟨frm, dn, ord, fen⟩) (j - i - 1) i a b (show i + (j - i - 1) + 1 < fen.length by omega) (fun k hk => (hin k hk).1) ea (by rw [show i + (j - i - 1) + 1 = j by omega]; exact eb)
   have g2 := Wc hm (e := ⟨frm, dn, ord, fen⟩) (a - b - 1) b (by omega) (by rw [show b + (a - b - 1) + 1 = a by omega]; exact cx.symm)
   rw [show b + (a - b - 1) + 1 = a by omega] at g2
   exact hc.round ⟨a, g1.trans g2⟩
  have cP : fen ∈ C2 p (Bk p) := (Nn (Fz p)).2 ⟨hs.fen, rF⟩
  refine ⟨dn, hdn, ord, lu, frm, i5, ?_⟩
  unfold Is
  have hpos : Dp p ⟨frm, dn, ord, []⟩ = true := by
   unfold Dp
   rw [Bool.and_eq_true, Bool.not_eq_true', decide_eq_true_eq]
   refine ⟨No.2 hw, ?_⟩
   have dO : XOk p ⟨frm, dn, ord, []⟩ := ⟨hx.fl, hx.dl, hx.ol, hx.fr, hx.oin, fun x h => (nomatch h), Nat.zero_le _⟩
   exact (Hr hp hm dO).2 hc.less
  rw [if_pos hpos]
  exact List.mem_filter.2 ⟨List.mem_map.2 ⟨fen, cP, rfl⟩, decide_eq_true ((Hr hp hm hx).2 hc)⟩
end Go.EV

namespace Go.EV
open Go.Proofs
def A6 (p : List Ev) (w : Wd) : Nat → List Int
 | 0 => []
 | i + 1 => A6 p w i ++ if (evAt p i).reads then [w.r[i]?.getD 0] else []
def Bm (w : Wd) (l : List Int) : Int := if l.length = 0 then 0 else w.w[(Ad l (l.length - 1)).toNat]?.getD 0
def Aw (p : List Ev) (e : Exec) : List Int := A6 p (An p e.frm) p.length ++ e.ord.map (Bm (An p e.frm))
theorem Cm (p : List Ev) (w : Wd) : ∀ i, (A6 p w i).length ≤ i
 | 0 => Nat.le_refl _
 | i + 1 => by
  have := Cm p w i
  simp only [A6, List.length_append]
  split <;> simp <;> omega
section
variable {M : Aa}
set_option maxHeartbeats 4000000 in
theorem Lb (p : List Ev) (s : Value) (hs : Sl M 6 A4 s p) (hp : POk p) (e : Exec) (v : Value) (hv : IsX M v e) (hx : XOk p e) :
  Con Tryz.prog 35 #[s, v] M [] (Ah7 (Aw p e)) := by
 have aI := hs
 have hb := hp.len
 obtain ⟨a, c, rfl, aH⟩ := hs
 obtain ⟨f, d, o, n, rfl, hf, hd, ho, hn⟩ := hv
 have eT := hf
 obtain ⟨oa, oc, ovs, rfl, bG, bJ, bu⟩ := ho
 have dX := hx.ol
 obtain ⟨ob, oo, rfl, bA⟩ := C7.at bJ bG bu (by omega)
 refine Con.enter Q33_ok (args := [.slice a p.length c, .agg #[f, d, .slice (some ⟨ob, oo, none⟩) e.ord.length oc, n]]) (by simp [Q33]) fun w0 => ?_
 simp only [Q33, A5]
 repeat' first
   | refine EV.seq ?_
   | refine rg ?_
   | ((first | with_reducible intro b | refine xrA rfl ?_ | fail); try refine nx ?_)
   | exact ⟨⟩
   | fail
 rename Nat => xb
 refine Con.callS (G1 := []) (Kd p _ aI (by omega) e.frm _ _ _ _ eT hx.fromOk) ?_
 rintro v M1 G1 ap ⟨rv, wv, kv, rfl, hr, hw, -⟩
 obtain ⟨ra, rc, rfl, dm⟩ := hr
 obtain ⟨wa, wc, rfl, fS⟩ := hw
 have gb : (An p e.frm).r.length = p.length := (E2 p e.frm _).r
 have cF : (An p e.frm).w.length = p.length := (E2 p e.frm _).w
 have lx : Aw p e = A6 p (An p e.frm) p.length ++ e.ord.map (Bm (An p e.frm)) := rfl
 generalize An p e.frm = W at *
 (refine nx ?_; try with_reducible exact ⟨⟩)
 repeat' first
   | refine EV.seq ?_
   | refine EV.block ?_
   | refine rg ?_
   | exact ⟨⟩
   | fail
 refine EV.toS (ρ' := [(0, .slice a p.length c), (3, pv xb 0), (5, .slice ra W.r.length rc), (6, .slice wa W.w.length wc), (8, osv none 0), (21, .slice a p.length c), (22, vi p.length), (23, vi (0 : Nat))]) (G' := [(xb, Cl 45 [f, d, .slice (some ⟨ob, oo, none⟩) e.ord.length oc, n])]) ?_ ?env0
 case env0 =>
  exact eE
 refine EV.loopTo (fun x : Nat × Vec => ([(0, .slice a p.length c), (3, pv xb 0), (5, .slice ra W.r.length rc), (6, .slice wa W.w.length wc), (8, osv x.2 (A6 p W x.1).length), (21, .slice a p.length c), (22, vi p.length), (23, vi x.1)], M1, (xb, Cl 45 [f, d, .slice (some ⟨ob, oo, none⟩) e.ord.length oc, n]) :: osg 3 x.2 ((A6 p W x.1).map vi)))
  (fun x => x.1 ≤ p.length ∧ E6 1 x.2 (A6 p W x.1).length ((A6 p W x.1).map vi)) (fun x => p.length - x.1) (0, none) rfl ⟨Nat.zero_le _, rfl, rfl⟩ ?env1 (by simp [osg]) ?_
 case env1 =>
  exact eE
 rintro ⟨i, ov⟩ ⟨hi, aP⟩ ih
 dsimp only at hi aP ih ⊢
 repeat' first
   | refine EV.seq ?_
   | refine EV.skip ?_
   | refine EV.block ?_
   | refine rg ?_
   | (refine cX (fun h => ?_) (fun h => ?_) <;> try exact Ah h)
   | (refine EV.exit rfl ?_)
   | (refine xsA rfl ?_; try refine nx ?_)
   | exact ⟨⟩
   | fail
 ·have aA : i < p.length := by omega
  obtain ⟨pb, po, rfl, hat⟩ := Sl.at (enc := A4) (fun _ => rfl) (by decide) aH (by omega)
  obtain ⟨rb, ro, rfl, fq⟩ := Sl.at (sz := 1) (enc := ei) (fun _ => rfl) (by decide) dm (by omega)
  have eC := (Sl.evAt hat i aA).mono ap
  have eX : rd M1 rb (ro + i) 1 [vi (W.r[i]?.getD 0)] := B6 fq i (by omega)
  have rD : (i : Int) < W.r.length := by omega
  have jj := Cm p W i
  have bH : A6 p W (i + 1) = A6 p W i ++ if (evAt p i).reads then [W.r[i]?.getD 0] else [] := rfl
  repeat' first
    | refine EV.seq ?_
    | refine EV.skip ?_
    | refine EV.inBlock ?_
    | refine rg ?_
    | (refine Aq.call (By (evAt p i)) ?_; try refine nx ?_)
    | (refine cX (fun h => ?_) (fun h => ?_) <;> try exact Ah h)
    | (with_reducible intro b; try refine nx ?_)
    | (refine And.intro (by omega) ?_)
    | ((first | refine xm ?_ | refine xrA rfl ?_ | fail); try refine nx ?_)
    | (refine xw ?_; refine nx ?_)
    | exact ⟨⟩
    | fail
  ·rw [if_pos (by assumption)] at bH
   refine ⟨[vi (W.r[i]?.getD 0)], Or.inr ⟨b, 0, rfl, Ap 0 rfl rfl (by simp)⟩, by simp [B2, Ct, Value.oneCell'], Or.inl ⟨ov, _, rfl, _, aP, _, PullL.p, ?_, ?_, ?_⟩⟩
   ·simp only [maxLen]; omega
   ·omega
   intro o2 bD _
   (refine nx ?_; try with_reducible exact ⟨⟩)
   repeat' first
     | refine EV.inBlock ?_
     | refine rg ?_
     | exact ⟨⟩
     | fail
   have ih3 := ih (i + 1, o2) ⟨by dsimp only; omega, by rw [bH, List.length_append, List.map_append]; exact bD⟩ (by dsimp only; omega)
   dsimp only at ih3
   rw [bH, List.length_append, List.map_append, show List.map vi [W.r[i]?.getD 0] = [vi (W.r[i]?.getD 0)] from rfl] at ih3
   refine EV.toS ih3 ?_
   exact eE
  ·rw [if_neg (by simp_all), List.append_nil] at bH
   have ih3 := ih (i + 1, ov) ⟨by dsimp only; omega, by rw [bH]; exact aP⟩ (by dsimp only; omega)
   dsimp only at ih3
   rw [bH] at ih3
   refine EV.toS ih3 ?_
   exact eE
 ·have bM : i = p.length := by omega
  subst bM
  clear ih
  repeat' first
    | fail
  have pF := Cm p W p.length
  generalize hR : A6 p W p.length = R at *
  refine EV.loopTo (fun x : Nat × Vec => ([(3, pv xb 0), (6, .slice wa W.w.length wc), (8, osv x.2 (R ++ (e.ord.take x.1).map (Bm W)).length), (39, .slice (some ⟨ob, oo, none⟩) e.ord.length oc), (40, vi e.ord.length), (41, vi x.1)], M1, (xb, Cl 45 [f, d, .slice (some ⟨ob, oo, none⟩) e.ord.length oc, n]) :: osg 3 x.2 ((R ++ (e.ord.take x.1).map (Bm W)).map vi)))
   (fun x => x.1 ≤ e.ord.length ∧ E6 1 x.2 (R ++ (e.ord.take x.1).map (Bm W)).length ((R ++ (e.ord.take x.1).map (Bm W)).map vi)) (fun x => e.ord.length - x.1) (0, ov) rfl ⟨Nat.zero_le _, by simpa using aP⟩ ?env2 (by simp) ?_
  case env2 =>
   simp only [List.take_zero, List.map_nil, List.append_nil]
   exact eE
  rintro ⟨k, o1⟩ ⟨hk, bF⟩ ih
  dsimp only at hk bF ih ⊢
  repeat' first
    | refine EV.seq ?_
    | refine EV.skip ?_
    | refine EV.block ?_
    | refine rg ?_
    | (refine cX (fun h => ?_) (fun h => ?_) <;> try exact Ah h)
    | (refine EV.exit rfl ?_)
    | (refine And.intro (by omega) ?_)
    | exact ⟨⟩
    | fail
  ·have a8 : k < e.ord.length := by omega
   obtain ⟨la, lc, aW, cE, aS⟩ := bA k a8
   have aW := aW.mono ap
   have aS := aS.mono ap
   rw [Nat.mul_one] at aW
   obtain ⟨hin, jj⟩ := hx.oin _ (List.getElem_mem a8)
   have kj : R ++ (e.ord.take (k + 1)).map (Bm W) = (R ++ (e.ord.take k).map (Bm W)) ++ [Bm W e.ord[k]] := by
    rw [List.take_succ_eq_append_getElem a8, List.map_append, List.append_assoc]; rfl
   have bK : (R ++ (e.ord.take k).map (Bm W)).length ≤ 35 := by simp; omega
   have ih3 := fun o2 h => ih (k + 1, o2) ⟨by dsimp only; omega, h⟩ (by dsimp only; omega)
   dsimp only at ih3
   rw [kj, List.length_append, List.map_append] at ih3
   have hlo : Bm W e.ord[k] = if e.ord[k].length = 0 then 0 else W.w[(Ad e.ord[k] (e.ord[k].length - 1)).toNat]?.getD 0 := rfl
   generalize R ++ (e.ord.take k).map (Bm W) = Q at *
   generalize e.ord[k] = l at *
   clear ih
   repeat' first
     | (refine xn ?_; try refine nx ?_)
     | exact ⟨⟩
     | fail
   refine EV.seq ?_
   repeat' first
     | refine rg ?_
     | exact ⟨⟩
     | fail
   refine EV.seq (EV.thru (fun ρ' M' G' => M' = M1 ∧ (∀ q ∈ [(3, pv xb 0), (6, .slice wa W.w.length wc), (8, osv o1 Q.length), (13, vi (Bm W l)), (39, .slice (some ⟨ob, oo, none⟩) e.ord.length oc), (40, vi e.ord.length), (41, vi k)], get ρ' q.1 = some q.2) ∧
    G' = (xb, Cl 45 [f, d, .slice (some ⟨ob, oo, none⟩) e.ord.length oc, n]) :: osg 3 o1 (Q.map vi)) ?_ ?_)
   ·intro k' key
    clear ih3
    rw [hlo] at key
    by_cases gH : l.length = 0
    ·rw [if_pos gH] at key
     repeat' first
       | refine EV.seq ?_
       | refine EV.skip ?_
       | refine rg ?_
       | (refine cX (fun h => ?_) (fun h => ?_) <;> try exact Ah h)
       | exact ⟨⟩
       | fail
     refine EV.reS (key _ _ _ ⟨rfl, ?_, rfl⟩)
     exact eE
    ·rw [if_neg gH] at key
     obtain ⟨lb, lo, rfl, ay⟩ := Sl.at (sz := 1) (enc := ei) (fun _ => rfl) (by decide) aS (by omega)
     have be := B6 ay (l.length - 1) (by omega)
     have pG := D5 hin (k := l.length - 1) (by omega)
     have jk : 0 < p.length := by omega
     obtain ⟨wb, wo, rfl, gr⟩ := Sl.at (sz := 1) (enc := ei) (fun _ => rfl) (by decide) fS (by omega)
     have gJ := B6 gr (Ad l (l.length - 1)).toNat (by omega)
     simp only [Ad] at gJ
     change rd M1 wb _ 1 [vi (W.w[(Ad l (l.length - 1)).toNat]?.getD 0)] at gJ
     have qz : Ad l (l.length - 1) < (W.w.length : Int) := by omega
     have aq : IntKind.i64.wrap ((l.length : Int) - 1) = ((l.length - 1 : Nat) : Int) := (w64 (by omega) (by omega)).trans (by omega)
     have dM : (((l.length - 1 : Nat) : Int)) < (l.length : Int) := by omega
     clear ay gr
     repeat' first
       | refine EV.seq ?_
       | (refine EV.reg ?_; (conv => (arg 2; whnf)); (repeat first | refine nx ?_ | simp only [aq]))
       | (refine cX (fun h => ?_) (fun h => ?_) <;> try exact Ah h)
       | (refine And.intro (by omega) ?_)
       | (refine xm ?_; (repeat first | refine nx ?_ | simp only [aq]))
       | fail
     refine EV.reS (key _ _ _ ⟨rfl, ?_, rfl⟩)
     exact eE
   rintro ρ2 M2 G2 ⟨rfl, hq, rfl⟩
   refine EV.to ?_ hq (List.Sublist.refl _)
   clear hq hlo
   generalize Bm W l = lw at *
   repeat' first
     | refine rg ?_
     | (with_reducible intro b; try refine nx ?_)
     | exact ⟨⟩
     | fail
   refine ⟨[vi lw], Or.inr ⟨b, 0, rfl, Ap 0 rfl rfl (by simp)⟩, by simp [B2, Ct, Value.oneCell'], Or.inl ⟨o1, _, rfl, _, bF, _, PullL.p, ?_, ?_, ?_⟩⟩
   ·simp only [maxLen]; omega
   ·omega
   intro o2 bD _
   (refine nx ?_; try with_reducible exact ⟨⟩)
   repeat' first
     | refine EV.inBlock ?_
     | refine rg ?_
     | exact ⟨⟩
     | fail
   have ih4 := ih3 o2 bD
   rw [show List.map vi [lw] = [vi lw] from rfl] at ih4
   refine EV.toS ih4 ?_
   exact eE
  ·have dY : k = e.ord.length := by omega
   subst dY
   rw [List.take_length] at bF ⊢
   refine EV.toS (ρ' := [(4, osv o1 (R ++ e.ord.map (Bm W)).length)]) (G' := osg 3 o1 ((R ++ e.ord.map (Bm W)).map vi)) ?_ ?env3
   case env3 =>
    exact eE
   (refine rt Q33_ok ?_; try with_reducible exact ⟨⟩)
   rw [lx]
   exact ⟨o1, rfl, bF, rfl⟩
end
end Go.EV

namespace Go.EV
open Go.Proofs
theorem Rh {M : Aa} {G : Own} {T : TypeId} {ov : Vec} {xs : List Int} (ae : E6 1 ov xs.length (xs.map vi)) (hG : ∀ q ∈ osg T ov (xs.map vi), q ∈ G) : Sl (M.add G) 1 ei (osv ov xs.length) xs :=
 ⟨oad ov, L6 ov, rfl, by rw [Ax]; exact D9 ae hG⟩
theorem Au1 {M : Aa} {G : Own} {T : TypeId} {ov : Vec} {xs : List Bool} (ae : E6 1 ov xs.length (xs.map vb)) (hG : ∀ q ∈ osg T ov (xs.map vb), q ∈ G) : Sl (M.add G) 1 eb (osv ov xs.length) xs :=
 ⟨oad ov, L6 ov, rfl, by rw [H8]; exact D9 ae hG⟩
section
variable {M : Aa}
set_option maxHeartbeats 4000000 in
theorem Zi (e : Exec) (v : Value) (hv : IsX M v e) (h1 : e.frm.length < 1000) (h2 : e.dn.length < 1000) (h3 : e.ord.length < 1000) (h4 : e.fen.length < 1000) (h5 : ∀ l ∈ e.ord, l.length < 1000) :
  Con Tryz.prog 84 #[v] M [] fun v M' _ => IsX M' v e := by
 obtain ⟨f, d, o, n, rfl, hf, hd, ho, hn⟩ := hv
 have eT := hf
 have lZ := hd
 have gP := hn
 obtain ⟨fa, fc, rfl, bU⟩ := hf
 obtain ⟨da, dc, rfl, aH⟩ := hd
 obtain ⟨na, nc, rfl, iQ⟩ := hn
 obtain ⟨oa, oc, ovs, rfl, bG, bJ, bu⟩ := ho
 refine Con.enter Q1_ok (args := [.agg #[.slice fa e.frm.length fc, .slice da e.dn.length dc, .slice oa e.ord.length oc, .slice na e.fen.length nc]]) (by simp [Q1]) fun w0 => ?_
 simp only [Q1, A5]
 refine EV.seq (EV.reg ?_)
 (repeat first | refine nx ?_ | simp only [Ey9])
 intro xb rb
 refine EV.seq (EV.thru (fun ρ' M' G' => ∃ cb fv dv nv, M.le M' ∧ Sl M' 1 ei fv e.frm ∧ Sl M' 1 eb dv e.dn ∧ Sl M' 1 ei nv e.fen ∧ get ρ' 1 = some (pv xb 0) ∧ get ρ' 2 = some (pv rb 0) ∧ get ρ' 3 = some (pv cb 0) ∧
  G' = [(cb, Cl 45 [fv, dv, .slice none 0 0, nv]), (rb, Cl 45 [.slice none 0 0, .slice none 0 0, .slice none 0 0, .slice none 0 0]), (xb, Cl 45 [.slice fa e.frm.length fc, .slice da e.dn.length dc, .slice oa e.ord.length oc, .slice na e.fen.length nc])]) ?_ ?_)
 ·intro k' key
  have sr := fun G => Fw (M := M.add G) e.frm _ (eT.mono (Aa.le_add _ _)) (by omega)
  have fT := fun G => Us (M := M.add G) e.dn _ (lZ.mono (Aa.le_add _ _)) (by omega)
  have ke := fun G => Fw (M := M.add G) e.fen _ (gP.mono (Aa.le_add _ _)) (by omega)
  refine EV.any (t := Ez0) [(xb, Cl 45 [.slice fa e.frm.length fc, .slice da e.dn.length dc, .slice oa e.ord.length oc, .slice na e.fen.length nc])] (by simp) ?_
  simp only [Ao, As, Am, Au, reduceIte, Nat.reduceEqDiff]
  repeat' first
    | ((first | refine zo (fun lq aB => ?_) | refine zl ?_ | fail); try refine nz ?_)
    | refine zq (fun lq tq aB aE => ?_)
    | ((with_reducible refine Con.callN (sr _) ?_) ;  rintro v1 M1 G1 ⟨o1, rfl, bF, rfl⟩; try refine nz ?_)
    | ((with_reducible refine Con.callN (fT _) ?_) ;  rintro v2 M2 G2 ⟨o2, rfl, bD, rfl⟩; try refine nz ?_)
    | ((with_reducible refine Con.callN (ke _) ?_) ;  rintro v3 M3 G3 ⟨o3, rfl, pH, rfl⟩; try refine nz ?_)
    | (refine Sa (by first | with_reducible assumption | rfl) (fun tq aE => ?_) (fun tq aE => ?_) <;> try refine nz ?_)
    | (refine Ec (by first | with_reducible assumption | rfl) (fun tq aE => ?_) (fun tq aE => ?_) <;> try refine nz ?_)
    | exact zn
    | refine zf ?_
    | ((first | with_reducible intro b | refine xsA rfl ?_ | refine xw ?_ | refine And.intro (Aa.le_refl _) (And.intro (A8 ?_) ?_); focus ((repeat' first | exact List.Sublist.refl _ | exact List.nil_sublist _ | exact List.sublist_append_left _ _ | refine List.Sublist.cons_cons _ ?_ | refine List.Sublist.append_left ?_ _ | refine List.sublist_append_of_sublist_right ?_ | refine List.Sublist.cons _ ?_); done) | fail); try refine nz ?_)
    | exact ⟨⟩
    | fail
  all_goals
   refine EV.keepS [(b, Cl 45 [osv o1 e.frm.length, osv o2 e.dn.length, .slice none 0 0, osv o3 e.fen.length]), (rb, Cl 45 [.slice none 0 0, .slice none 0 0, .slice none 0 0, .slice none 0 0]), (xb, Cl 45 [.slice fa e.frm.length fc, .slice da e.dn.length dc, .slice oa e.ord.length oc, .slice na e.fen.length nc])] ?_
   generalize hR : M.add _ = N
   have aC : M.le N := hR ▸ Aa.le_add _ _
   have q1 : Sl N 1 ei (osv o1 e.frm.length) e.frm := hR ▸ Rh (T := 3) bF (fun q hq => by simp [hq])
   have q2 : Sl N 1 eb (osv o2 e.dn.length) e.dn := hR ▸ Au1 (T := 4) bD (fun q hq => by simp [hq])
   have q3 : Sl N 1 ei (osv o3 e.fen.length) e.fen := hR ▸ Rh (T := 3) pH (fun q hq => by simp [hq])
   exact key _ _ _ ⟨b, _, _, _, aC, q1, q2, q3, rfl, rfl, rfl, rfl⟩
 rintro ρ2 M2 G2 ⟨cb, fv, dv, nv, bE, q1, q2, q3, e1, e2, e3, rfl⟩
 obtain ⟨f2, fc2, rfl, nT⟩ := q1
 obtain ⟨d2, dc2, rfl, iJ⟩ := q2
 obtain ⟨n2, nc2, rfl, oY⟩ := q3
 refine EV.to (ρ' := [(1, pv xb 0), (2, pv rb 0), (3, pv cb 0)]) ?_ (by simp only [List.forall_mem_cons]; exact ⟨e1, e2, e3, fun _ h => nomatch h⟩) (List.Sublist.refl _)
 clear e1 e2 e3
 repeat' first
   | refine EV.seq ?_
   | refine EV.block ?_
   | refine rg ?_
   | (refine xsA rfl ?_; try refine nx ?_)
   | exact ⟨⟩
   | fail
 refine EV.loopTo (fun x : Nat × Aa × Vec × List Value => ([(1, pv xb 0), (2, pv rb 0), (3, pv cb 0), (17, .slice oa e.ord.length oc), (18, vi e.ord.length), (19, vi x.1)], x.2.1,
   (cb, Cl 45 [.slice f2 e.frm.length fc2, .slice d2 e.dn.length dc2, osv x.2.2.1 x.1, .slice n2 e.fen.length nc2]) :: (rb, Cl 45 [.slice none 0 0, .slice none 0 0, .slice none 0 0, .slice none 0 0]) :: osg 34 x.2.2.1 x.2.2.2))
  (fun x => x.1 ≤ e.ord.length ∧ M2.le x.2.1 ∧ E6 1 x.2.2.1 x.1 x.2.2.2 ∧ x.2.2.2.length = x.1 ∧ ∀ j (h : j < x.2.2.2.length) (h' : j < e.ord.length), SlC x.2.1 1 ei x.2.2.2[j] e.ord[j]) (fun x => e.ord.length - x.1) (0, M2, none, []) rfl ⟨Nat.zero_le _, Aa.le_refl _, ⟨rfl, rfl⟩, rfl, fun j h => absurd h (Nat.not_lt_zero _)⟩ ?env1 (List.Sublist.cons_cons _ (List.Sublist.cons_cons _ (List.nil_sublist _))) ?_
 case env1 =>
  exact eE
 rintro ⟨k, Mk, ov, vs⟩ ⟨hk, d7, aP, nV, dw⟩ ih
 dsimp only at hk d7 aP nV dw ih ⊢
 repeat' first
   | refine EV.seq ?_
   | refine EV.skip ?_
   | refine EV.block ?_
   | refine rg ?_
   | (refine cX (fun h => ?_) (fun h => ?_) <;> try exact Ah h)
   | (refine EV.exit rfl ?_)
   | (refine xrA rfl ?_; try refine nx ?_)
   | (refine xw ?_; refine nx ?_)
   | exact ⟨⟩
   | fail
 ·have a8 : k < e.ord.length := by omega
  obtain ⟨ob, oo, rfl, bA⟩ := C7.at bJ bG bu (by omega)
  obtain ⟨la, lc, aW, cE, aS⟩ := bA k a8
  have aW := aW.mono (Aa.le_trans bE d7)
  have aS := aS.mono (Aa.le_trans bE d7)
  rw [Nat.mul_one] at aW
  have rM := h5 _ (List.getElem_mem a8)
  repeat' first
    | (refine And.intro (by omega) ?_)
    | (refine xn ?_; try refine nx ?_)
    | exact ⟨⟩
    | fail
  have aO := fun G => Fw (M := Mk.add G) e.ord[k] (.slice la e.ord[k].length lc) (⟨la, lc, rfl, aS.mono (Aa.le_add _ _)⟩) (by omega)
  refine EV.any (t := Ez1) [(cb, Cl 45 [.slice f2 e.frm.length fc2, .slice d2 e.dn.length dc2, osv ov k, .slice n2 e.fen.length nc2])] (by simp) ?_
  simp only [Ao, As, Am, Au, reduceIte, Nat.reduceEqDiff]
  repeat' first
    | ((first | refine zo (fun lq aB => ?_) | refine zl ?_ | fail); try refine nz ?_)
    | refine zq (fun lq tq aB aE => ?_)
    | ((with_reducible refine Con.callN (aO _) ?_) ;  rintro v1 M1 G1 ⟨o1, rfl, bF, rfl⟩; try refine nz ?_)
    | (refine Sa (by first | with_reducible assumption | rfl) (fun tq aE => ?_) (fun tq aE => ?_) <;> try refine nz ?_)
    | (refine Ec (by first | with_reducible assumption | rfl) (fun tq aE => ?_) (fun tq aE => ?_) <;> try refine nz ?_)
    | exact zn
    | ((first | with_reducible intro b | refine xsA rfl ?_ | refine And.intro (Aa.le_refl _) (And.intro (A8 ?_) ?_); focus ((repeat' first | exact List.Sublist.refl _ | exact List.nil_sublist _ | exact List.sublist_append_left _ _ | refine List.Sublist.cons_cons _ ?_ | refine List.Sublist.append_left ?_ _ | refine List.sublist_append_of_sublist_right ?_ | refine List.Sublist.cons _ ?_); done) | fail); try refine nz ?_)
    | exact ⟨⟩
    | fail
  refine ⟨[osv o1 e.ord[k].length], Or.inr ⟨_, 0, rfl, Bv (T := 34) (cs := [osv o1 e.ord[k].length]) (by simp) rfl (by simp)⟩, by simp [B2, Ct, Value.oneCell'], Or.inl ⟨ov, _, rfl, _, aP, _, PullL.p, by simp only [maxLen]; omega, by omega, fun o2 bD _ => ?_⟩⟩
  repeat' first
    | ((first | refine zo (fun lq aB => ?_) | refine zl ?_ | fail); try refine nz ?_)
    | refine zq (fun lq tq aB aE => ?_)
    | (refine Ec (by first | with_reducible assumption | rfl) (fun tq aE => ?_) (fun tq aE => ?_) <;> try refine nz ?_)
    | exact zn
    | refine zf ?_
    | (refine xw ?_; try refine nz ?_)
    | exact ⟨⟩
    | fail
  refine EV.keepS ((cb, Cl 45 [.slice f2 e.frm.length fc2, .slice d2 e.dn.length dc2, osv o2 (k + 1), .slice n2 e.fen.length nc2]) :: (rb, Cl 45 [.slice none 0 0, .slice none 0 0, .slice none 0 0, .slice none 0 0]) :: osg 34 o2 (vs ++ [osv o1 e.ord[k].length])) ?_
  generalize hR : Mk.add _ = N
  have aC : Mk.le N := hR ▸ Aa.le_add _ _
  have eg : SlC N 1 ei (osv o1 e.ord[k].length) e.ord[k] := hR ▸ Hp (T := 3) bF rfl (fun q hq => by simp [hq])
  clear hR
  have ih3 := ih (k + 1, N, o2, vs ++ [osv o1 e.ord[k].length]) ⟨by dsimp only; omega, Aa.le_trans d7 aC, bD, by simp [nV], fun j hj jB => ?_⟩ (by dsimp only; omega)
  ·dsimp only at ih3
   repeat' first
     | refine EV.inBlock ?_
     | refine rg ?_
     | exact ⟨⟩
     | fail
   refine EV.toS ih3 ?_
   exact eE
  ·dsimp only at hj ⊢
   by_cases rN : j < vs.length
   ·rw [List.getElem_append_left rN]; exact (dw j rN jB).mono aC
   ·have : j = k := by simp at hj; omega
    subst this
    rw [List.getElem_append_right (by omega)]
    simp only [nV, Nat.sub_self, List.getElem_cons_zero]; exact eg
 ·have dY : k = e.ord.length := by omega
  subst dY
  repeat' first
    | fail
  refine EV.keepS [(rb, Cl 45 [.slice f2 e.frm.length fc2, .slice d2 e.dn.length dc2, osv ov e.ord.length, .slice n2 e.fen.length nc2])] ?_
  generalize hR : Mk.add _ = N
  have aC : Mk.le N := hR ▸ Aa.le_add _ _
  have bJ : rdS N 1 (oad ov) e.ord.length vs := hR ▸ D9 (T := 34) aP (fun q hq => by simp [hq])
  clear hR
  have aj := Aa.le_trans d7 aC
  (refine rt Q1_ok ?_; try with_reducible exact ⟨⟩)
  refine ⟨_, Ap 0 rfl rfl (by simp), ?_⟩
  exact ⟨_, _, _, _, rfl, ⟨_, _, rfl, nT.mono aj⟩, ⟨_, _, rfl, iJ.mono aj⟩, ⟨_, _, vs, rfl, nV, bJ, fun j a b => (dw j a b).mono aC⟩, ⟨_, _, rfl, oY.mono aj⟩⟩
end
end Go.EV

namespace Go.EV
open Go.Proofs
section
variable {P : Program}
def Uy {α : Type} (P : Program) (g : FuncId) (first caps : Array Value) (M : Aa) (L : List α) (El : α → Value → Aa → Prop) : Prop :=
 ∀ (l : Nat) (I : List α → Aa → Own → Prop) (S : Aa → Own → Prop) (M1 : Aa) (G : Own), M.le M1 →
  (∀ xs M2 M3 G2, M2.le M3 → I xs M2 G2 → I xs M3 G2) →
  (∀ M2 M3 G2, M2.le M3 → S M2 G2 → S M3 G2) →
  (∀ xs x, x ∈ L → ∀ M2 G2 v, M1.le M2 → I xs M2 G2 → El x v M2 → Ky P l #[v] M2 G2 fun b M3 G3 => (b = .bool true ∧ I (xs ++ [x]) M3 G3) ∨ (b = .bool false ∧ S M3 G3)) →
  ∀ xs, I xs M1 G → Con P g (first ++ #[yv l] ++ caps) M1 G fun _ M' G' => I (xs ++ L) M' G' ∨ S M' G'
theorem Uy.mono {α : Type} {g : FuncId} {first caps : Array Value} {M M' : Aa} {L : List α} {El : α → Value → Aa → Prop} (h : Uy P g first caps M L El) (hM : M.le M') : Uy P g first caps M' L El :=
 fun l I S M1 G aj => h l I S M1 G (Aa.le_trans hM aj)
variable {α : Type} {C : Cx P} {V : List Nat} {k : List RItem} {ρ : Env} {M : Aa} {G : Own} {f : A} {ps : List Nat} {asg bd : RCode} {fv : Value} {g : FuncId} {first caps : Array Value}
theorem Sq {L : List α} {El : α → Value → Aa → Prop} (bi : Uy P g first caps M L El) (I : List α → Aa → Own → Prop) (S : Code → Aa → Own → Prop)
  {l : Nat} {r : Loop} {fn : FuncId} {nt t : Nat} (hr : LoopIs P V r fn nt [t] asg bd ρ)
  (aF : ∀ xs M2 M3 G2, M2.le M3 → I xs M2 G2 → I xs M3 G2)
  (lz : ∀ c M2 M3 G2, M2.le M3 → S c M2 G2 → S c M3 G2)
  (bT : ∀ xs x v M2 G2 w0 F, x ∈ L → M.le M2 → I xs M2 G2 → El x v M2 → EV (Cx.rnd P l r fn nt w0 F M2 (I (xs ++ [x])) S) V [.code asg, .begins, .code bd] ((t, v) :: ρ) M2 ((l, Obj.loop r) :: G2))
  {G0 : Own} (hI : I [] M G0) :
  Con P g (first ++ #[yv l] ++ caps) M ((l, Obj.loop r) :: G0) fun _ M' G' => (∃ G1, G'.Perm ((l, Obj.loop r) :: G1) ∧ I L M' G1) ∨ (∃ c G1, G'.Perm ((l, Obj.loop { r with state := .done, pending := some c }) :: G1) ∧ S c M' G1) := by
 have := bi l (fun xs M2 G2 => ∃ G1, G2.Perm ((l, Obj.loop r) :: G1) ∧ I xs M2 G1) (fun M2 G2 => ∃ c G1, G2.Perm ((l, Obj.loop { r with state := .done, pending := some c }) :: G1) ∧ S c M2 G1) M ((l, Obj.loop r) :: G0) (Aa.le_refl _)
  (fun xs M2 M3 G2 aj ⟨G1, h1, h2⟩ => ⟨G1, h1, aF _ _ _ _ aj h2⟩) (fun M2 M3 G2 aj ⟨c, G1, h1, h2⟩ => ⟨c, G1, h1, lz _ _ _ _ aj h2⟩) ?_ [] ⟨G0, List.Perm.refl _, hI⟩
 ·exact this
 ·rintro xs x hx M2 G2 v bE ⟨G1, hp, h2⟩ hv
  have hy : Ky P l [v].toArray M2 ((l, Obj.loop r) :: G1) (Vy l r (I (xs ++ [x])) S) :=
   Ky.enter (List.mem_cons_self ..) hr rfl fun w0 => bT xs x v M2 G1 w0 _ hx bE h2 hv
  intro w hs
  obtain ⟨r', e1, e2, e3⟩ := hy w (by
   have aV := hs.perm hp
   have : St w ((((l, Obj.loop r) :: G1)).map (·.1)) M2 M2 ((l, Obj.loop r) :: G1) w := St.enter aV.agree aV.own aV.sep aV.nodup
   exact this)
  refine ⟨r', e1, e2, e3.mono ?_⟩
  rintro b w' ⟨M', G', k1, k2⟩
  refine ⟨M', G', ?_, ?_⟩
  ·have aJ : ∀ b, b ∈ (((l, Obj.loop r) :: G1).map (·.1)) ↔ b ∈ G2.map (·.1) := fun b => ((hp.map (·.1)).mem_iff).symm
   exact ⟨k1.os, k1.tape, k1.output, k1.size, fun b hb hf => k1.frame b hb (fun h => hf ((aJ b).1 h)), k1.agree, k1.own, k1.sep, fun p lW => (k1.new p lW).imp (aJ _).1 id, k1.nodup, k1.base,
    fun b o hm => (k1.fresh b o hm).imp id fun h => h.imp (aJ _).1 id⟩
  ·rcases k2 with ⟨rfl, G3, h3, h4⟩ | ⟨rfl, c, G3, h3, h4⟩
   ·exact .inl ⟨rfl, G3, h3, h4⟩
   ·exact .inr ⟨rfl, c, G3, h3, h4⟩
theorem EV.overM {L : List α} {El : α → Value → Aa → Prop} (bJ : C.b.roundOf = none) (fN : ev ρ f = some fv) (cC : fn? fv = some (g, first, caps)) (bi : Uy P g first caps M L El)
  (I : Nat → List α → Aa → Own → Prop) (S : Nat → Code → Aa → Own → Prop) {t : Nat}
  (aF : ∀ d xs M2 M3 G2, M2.le M3 → I d xs M2 G2 → I d xs M3 G2)
  (lz : ∀ d c M2 M3 G2, M2.le M3 → S d c M2 G2 → S d c M3 G2)
  (hI : ∀ d, I d [] M ((d, Obj.deferred (some [])) :: G))
  (bT : ∀ l d (r : Loop), r.state = .ready → r.pending = none → ∀ xs x v M2 G2 w0 F, x ∈ L → M.le M2 → I d xs M2 G2 → El x v M2 →
   EV (Cx.rnd P l r C.b.fn C.nt w0 F M2 (I d (xs ++ [x])) (S d)) V [.code asg, .begins, .code bd] ((t, v) :: ρ) M2 ((l, Obj.loop r) :: G2))
  (cd : ∀ d M' G', M.le M' → I d L M' G' → EV (C.marks [d]) V k ρ M' G')
  (ce : ∀ d c M' G', M.le M' → S d c M' G' → Vz (C.marks [d]) V k ρ c M' G') :
  EV C V (.code (.rangeF f [t] asg bd) :: k) ρ M G := by
 refine EV.rangeF bJ fN cC fun l d r hr h1 h2 => ?_
 refine Con.callA (G2 := []) (Sq bi (I d) (S d) hr (aF d) (lz d) (fun xs x v M2 G2 w0 F => bT l d r h1 h2 xs x v M2 G2 w0 F) (hI d)) (by simp) ?_
 rintro v M' G' bR (⟨G1, hp, h3⟩ | ⟨c, G1, hp, h3⟩)
 ·refine ⟨r, G1, by simpa using hp, by rw [h1]; simp, ?_⟩
  rw [h2]; exact cd d M' G1 bR h3
 ·refine ⟨_, G1, by simpa using hp, by simp, ?_⟩
  have := ce d c M' G1 bR h3
  cases c <;> first | exact this | exact this.elim
end
def ElX (x : Exec) (v : Value) (M : Aa) : Prop := IsX M v x
section
variable {M : Aa}
theorem Ri (p : List Ev) {pb po pc b1 : Nat} (h1 : rd M b1 0 1 [.slice (some ⟨pb, po, none⟩) p.length pc]) (i : Nat) (hi : i < p.length) (hp : rd M pb (po + i * 6) 6 (A4 (evAt p i))) :
  Aq Tryz.prog 75 #[vi i, pv b1 0] M (vb (evAt p i).strong) := by
 have aA : (i : Int) < p.length := by omega
 refine Con.enter Q19_ok (args := [vi i, pv b1 0]) (by simp [Q19]) fun w0 => ?_
 simp only [Q19, A5]
 repeat' first
   | refine EV.seq ?_
   | refine rg ?_
   | (refine Aq.call (Mm (evAt p i)) ?_; try refine nx ?_)
   | (refine And.intro (by omega) ?_)
   | ((first | refine xm ?_ | refine xn ?_ | fail); try refine nx ?_)
   | exact ⟨⟩
   | fail
 (refine rt Q19_ok ?_; try with_reducible exact ⟨⟩)
theorem Ad6 {p : List Ev} {e : Exec} (hp : POk p) (hx : XOk p e) : e.frm.length < 1000 ∧ e.dn.length < 1000 ∧ e.ord.length < 1000 ∧ e.fen.length < 1000 ∧ ∀ l ∈ e.ord, l.length < 1000 := by
 have := hp.len
 refine ⟨by rw [hx.fl]; omega, by rw [hx.dl]; omega, by rw [hx.ol]; omega, by have := hx.fin.2; omega, fun l hl => by have := (hx.oin l hl).2; omega⟩
set_option maxHeartbeats 4000000 in
theorem Uz (p : List Ev) (hp : POk p) {ps ss : Value} {pb sb : Nat} (hps : Sl M 6 A4 ps p) (rO : SlC M 1 ei ss (Bk p)) (h1 : rd M pb 0 1 [ps]) (h2 : rd M sb 0 1 [ss]) :
  Uy Tryz.prog 77 #[] #[pv pb 0, pv sb 0] M (Fx p) ElX := by
 have ax := hp.len
 intro ly I S M1 G hM aF lz hy xs hI
 have cT := h1.mono hM
 have fU := h2.mono hM
 have eM := hps.mono hM
 have mA := rO.mono hM
 obtain ⟨ea, ec, rfl, am⟩ := hps
 obtain ⟨sa, sc, rfl, qq, qn⟩ := rO
 refine Con.enter Q20_ok (args := [yv ly, pv pb 0, pv sb 0]) (by simp [Q20]) fun w0 => ?_
 simp only [Q20, A5]
 refine EV.seq (EV.reg ?_)
 (repeat first | refine nx ?_ | simp only [Bq8])
 intro yb
 refine EV.frz [(yb, Cl 124 [yv ly])] ?_
 generalize hR : M1.add _ = N
 have aC : M1.le N := hR ▸ Aa.le_add _ _
 have lj : rd N yb 0 1 [yv ly] := hR ▸ Ap 0 rfl rfl (by simp)
 clear hR
 have jw := cT.mono aC
 have lk := fU.mono aC
 have mB := eM.mono aC
 have pI := mA.mono aC
 have gh := aF _ _ _ _ aC hI
 repeat' first
   | refine EV.seq ?_
   | refine rg ?_
   | (refine xn ?_; try refine nx ?_)
   | exact ⟨⟩
   | fail
 refine Con.callS (G1 := []) (Xd p ax mB) ?_
 rintro v M2 G2 bE ⟨g2, caps2, rfl, kD⟩
 repeat' first
   | refine EV.block ?_
   | fail
 refine EV.toS (ρ' := [(0, yv ly), (1, pv pb 0), (2, pv sb 0), (3, pv yb 0), (9, .func (.func g2) #[] caps2)]) (G' := G) ?_ ?env1
 case env1 =>
  exact eE
 have nQ : Fx p = (K2 p).flatMap (K5 p) := rfl
 refine EV.over rfl rfl rfl kD (fun d ls M G' => ∃ G0, G'.Perm ((d, Obj.deferred (some [])) :: G0) ∧ I (xs ++ ls.flatMap (K5 p)) M G0)
  (fun d c M G' => c = .ret ∧ ∃ G0, G'.Perm ((d, Obj.deferred (some [])) :: G0) ∧ S M G0) ?_ ?_ ?_ ?_ ?_
 ·rintro d ls M4 M5 G4 aj ⟨G0, hp, gn⟩
  exact ⟨G0, hp, aF _ _ _ _ aj gn⟩
 ·intro d
  exact ⟨G, List.Perm.refl _, by simpa using aF _ _ _ _ bE gh⟩
 ·intro l1 d r1 aW pJ ls dn v M4 G4 w1 F1 hdn dZ ⟨G0, dQ, jz⟩ fV
  refine EV.permG ?_ (List.Perm.cons _ dQ)
  have bI : dn.length = p.length := by
   obtain ⟨set, _, rfl⟩ := List.mem_map.1 hdn; exact E3 p set
  have gp := fV.sl
  obtain ⟨da, dc, rfl, rP, kr⟩ := fV
  refine EV.reg (sts := An3) ?_
  (repeat first | refine nx ?_ | simp only [An3])
  intro db
  repeat' first
    | (refine xw ?_; refine nx ?_)
    | exact ⟨⟩
    | fail
  refine EV.frz [(db, Cl 35 [.slice da dn.length dc])] ?_
  generalize hR : M4.add _ = N4
  have cO : M4.le N4 := hR ▸ Aa.le_add _ _
  have pK : rd N4 db 0 1 [.slice da dn.length dc] := hR ▸ Ap 0 rfl rfl (by simp)
  clear hR
  refine EV.rbegin aW ?_
  have d6 := Aa.le_trans bE (Aa.le_trans dZ cO)
  have om := jw.mono d6
  have ot := lk.mono d6
  have nR := lj.mono d6
  have mC := mB.mono d6
  have pL := pI.mono d6
  have ox := aF _ _ _ _ cO jz
  have mD := gp.mono cO
  have su := Aa.le_trans aC d6
  clear jw lk lj cT fU eM mA
  repeat' first
    | refine EV.seq ?_
    | refine EV.block ?_
    | refine rg ?_
    | (refine xn ?_; try refine nx ?_)
    | exact ⟨⟩
    | fail
  refine Con.callS (G1 := []) (Uw p dn ax bI 3 0 rfl (Int.le_refl _) N4 _ _ mC mD) ?_
  rintro v5 M5 G5 jK ⟨g5, caps5, rfl, kA⟩
  repeat' first
    | refine EV.block ?_
    | fail
  refine EV.toS (ρ' := [(0, yv ly), (1, pv pb 0), (2, pv sb 0), (3, pv yb 0), (4, pv db 0), (13, .func (.func g5) #[] caps5)]) (G' := (l1, Obj.loop { r1 with state := .busy }) :: (d, Obj.deferred (some [])) :: G0) ?_ ?env2
  case env2 =>
   exact eE
  generalize ci : xs ++ ls.flatMap (K5 p) = ys at *
  have ub : K5 p dn = (B3 p dn 3 0).flatMap (Mx p dn) := rfl
  refine EV.overI (l0 := l1) (r0 := { r1 with state := .busy }) rfl (by simp) rfl rfl kA (fun zs M G' => ∃ G1, G'.Perm ((l1, Obj.loop { r1 with state := .busy }) :: (d, Obj.deferred (some [])) :: G1) ∧ I (ys ++ zs.flatMap (Mx p dn)) M G1)
   (fun c M G' => c = .ret ∧ ∃ G1, G'.Perm ((l1, Obj.loop { r1 with state := .busy }) :: (d, Obj.deferred (some [])) :: G1) ∧ S M G1) ?_ ?_ ?_ ?_ ?_
  ·rintro zs M6 M7 G6 aj ⟨G1, hp, gn⟩
   exact ⟨G1, hp, aF _ _ _ _ aj gn⟩
  ·exact ⟨G0, List.Perm.refl _, by simpa using aF _ _ _ _ jK ox⟩
  ·intro l2 r2 aS kE zs ord v M6 G6 w2 F2 bZ fW ⟨G1, gq, kB⟩ mE
   refine EV.permG ?_ (List.Perm.cons _ gq)
   obtain ⟨iV, lp⟩ := ordersP_ok hp bI bZ
   have mF := mE
   obtain ⟨oa, oc, ovs, rfl, bG, ai, gl⟩ := mE
   refine EV.reg (sts := An4) ?_
   (repeat first | refine nx ?_ | simp only [An4])
   intro ob
   repeat' first
     | (refine xw ?_; refine nx ?_)
     | exact ⟨⟩
     | fail
   refine EV.frz [(ob, Cl 26 [.slice oa ord.length oc])] ?_
   generalize hR : M6.add _ = N6
   have kF : M6.le N6 := hR ▸ Aa.le_add _ _
   have kG : rd N6 ob 0 1 [.slice oa ord.length oc] := hR ▸ Ap 0 rfl rfl (by simp)
   clear hR
   refine EV.rbegin aS ?_
   have jN := Aa.le_trans jK (Aa.le_trans fW kF)
   have rQ := om.mono jN
   have rR := ot.mono jN
   have rS := nR.mono jN
   have mG := mC.mono jN
   have pM := pL.mono jN
   have sv := aF _ _ _ _ kF kB
   have mH := mD.mono jN
   have pN := pK.mono jN
   have mI : C7 N6 1 ei (.slice oa ord.length oc) ord := C7.mono kF mF
   have jA := Aa.le_trans su jN
   clear om ot nR
   repeat' first
     | refine EV.seq ?_
     | refine EV.block ?_
     | refine rg ?_
     | (refine xn ?_; try refine nx ?_)
     | exact ⟨⟩
     | fail
   refine Con.callS (G1 := []) (Xf hp bI iV mG mH mI) ?_
   rintro v7 M7 G7 rT ⟨g7, caps7, rfl, pO⟩
   repeat' first
     | refine EV.block ?_
     | fail
   refine EV.toS (ρ' := [(0, yv ly), (1, pv pb 0), (2, pv sb 0), (3, pv yb 0), (4, pv db 0), (5, pv ob 0), (18, .func (.func g7) #[] caps7)]) (G' := (l2, Obj.loop { r2 with state := .busy }) :: (l1, Obj.loop { r1 with state := .busy }) :: (d, Obj.deferred (some [])) :: G1) ?_ ?env3
   case env3 =>
    exact eE
   generalize kH : ys ++ zs.flatMap (Mx p dn) = us at *
   refine EV.overI (l0 := l2) (r0 := { r2 with state := .busy }) rfl (by simp) rfl rfl pO (fun qs M G' => ∃ G2, G'.Perm ((l2, Obj.loop { r2 with state := .busy }) :: (l1, Obj.loop { r1 with state := .busy }) :: (d, Obj.deferred (some [])) :: G2) ∧ I (us ++ qs.flatMap (Is p dn ord)) M G2)
    (fun c M G' => c = .ret ∧ ∃ G2, G'.Perm ((l2, Obj.loop { r2 with state := .busy }) :: (l1, Obj.loop { r1 with state := .busy }) :: (d, Obj.deferred (some [])) :: G2) ∧ S M G2) ?_ ?_ ?_ ?_ ?_
   ·rintro qs M8 M9 G8 aj ⟨G2, hp, gn⟩
    exact ⟨G2, hp, aF _ _ _ _ aj gn⟩
   ·exact ⟨G1, List.Perm.refl _, by simpa using aF _ _ _ _ rT sv⟩
   ·intro l3 r3 cu mJ qs frm v M8 G8 w3 F3 i5 nS ⟨G2, mK, kt⟩ mL
    refine EV.permG ?_ (List.Perm.cons _ mK)
    have mM := mL.sl
    obtain ⟨fa, fc, rfl, jO, dt⟩ := mL
    have dO : ∀ fen : List Int, Hm p fen ∧ fen.length ≤ p.length → XOk p ⟨frm, dn, ord, fen⟩ := fun fen hn => exec_ok hp hdn bZ i5 hn
    have b8 : XOk p ⟨frm, dn, ord, []⟩ := dO [] ⟨fun x h => (nomatch h), Nat.zero_le _⟩
    refine EV.reg (sts := An5) ?_
    (repeat first | refine nx ?_ | simp only [An5])
    refine EV.rbegin cu ?_
    have iA := Aa.le_trans rT nS
    have sw := rQ.mono iA
    have uc := rR.mono iA
    have j4 := rS.mono iA
    have kI := mG.mono iA
    have pP := pM.mono iA
    have sy := pN.mono iA
    have tA := kG.mono iA
    have pQ := mH.mono iA
    have pR : C7 M8 1 ei (.slice oa ord.length oc) ord := C7.mono iA mI
    have tB := Aa.le_trans jA iA
    clear rQ rR rS
    have rU : ∀ M', M8.le M' → ∀ (n : Value) (fen : List Int), Sl M' 1 ei n fen → IsX M' (.agg #[.slice fa frm.length fc, .slice da dn.length dc, .slice oa ord.length oc, n]) ⟨frm, dn, ord, fen⟩ :=
     fun M' bR n fen hn => ⟨_, _, _, _, rfl, mM.mono bR, pQ.mono bR, C7.mono bR pR, hn⟩
    have cH := fun G => Qu (M := M8.add G) p _ (kI.mono (Aa.le_add _ _)) hp ⟨frm, dn, ord, []⟩ _ (rU _ (Aa.le_add _ _) (.slice none 0 0) [] ⟨none, 0, rfl, .inl ⟨rfl, rfl⟩⟩) b8
    repeat' first
      | refine EV.seq ?_
      | refine EV.skip ?_
      | refine EV.block ?_
      | refine rg ?_
      | (refine Aq.call (cH _) ?_; try refine nx ?_)
      | (refine cX (fun h => ?_) (fun h => ?_) <;> try exact Ah h)
      | (refine EV.exit rfl ?_)
      | ((first | with_reducible intro b | refine xn ?_ | refine xrA rfl ?_ | fail); try refine nx ?_)
      | (refine xw ?_; refine nx ?_)
      | exact ⟨⟩
      | fail
    ·have hF : Is p dn ord frm = [] := by rw [Is, if_neg (by simp [h])]
     refine EV.keepS ((l3, Obj.loop { r3 with state := .busy }) :: (l2, Obj.loop { r2 with state := .busy }) :: (l1, Obj.loop { r1 with state := .busy }) :: (d, Obj.deferred (some [])) :: G2) ?_
     refine EV.rend cu mJ (List.Perm.refl _) ⟨G2, List.Perm.refl _, ?_⟩
     rw [List.flatMap_append, List.flatMap_singleton, hF, List.append_nil]
     exact aF _ _ _ _ (Aa.le_add _ _) kt
    ·have hF : Is p dn ord frm = ((C2 p (Bk p)).map fun f => (⟨frm, dn, ord, f⟩ : Exec)).filter fun e => decide (Cv p e = 0) := by rw [Is, if_pos h]
     have az : (Bk p).length ≤ p.length := Bz _ _
     refine Con.callS (G1 := []) (Mw p (by omega) kI pP (My p) (by omega)) ?_
     rintro v9 M9 G9 rV ⟨g9, caps9, rfl, pS⟩
     repeat' first
       | refine EV.block ?_
       | fail
     refine EV.toS (ρ' := [(0, yv ly), (1, pv pb 0), (2, pv sb 0), (3, pv yb 0), (4, pv db 0), (5, pv ob 0), (7, pv b 0), (30, .func (.func g9) #[] caps9)]) (G' := (b, Cl 45 [.slice fa frm.length fc, .slice da dn.length dc, .slice oa ord.length oc, .slice none 0 0]) :: (l3, Obj.loop { r3 with state := .busy }) :: (l2, Obj.loop { r2 with state := .busy }) :: (l1, Obj.loop { r1 with state := .busy }) :: (d, Obj.deferred (some [])) :: G2) ?_ ?env4
     case env4 =>
      exact eE
     generalize kJ : us ++ qs.flatMap (Is p dn ord) = ts at *
     refine EV.overI (l0 := l3) (r0 := { r3 with state := .busy }) rfl (by simp) rfl rfl pS (fun ns M G' => ∃ fv G3, G'.Perm ((b, Cl 45 [.slice fa frm.length fc, .slice da dn.length dc, .slice oa ord.length oc, fv]) :: (l3, Obj.loop { r3 with state := .busy }) :: (l2, Obj.loop { r2 with state := .busy }) :: (l1, Obj.loop { r1 with state := .busy }) :: (d, Obj.deferred (some [])) :: G3) ∧ I (ts ++ (ns.map fun f => (⟨frm, dn, ord, f⟩ : Exec)).filter fun e => decide (Cv p e = 0)) M G3)
      (fun c M G' => c = .ret ∧ ∃ fv G3, G'.Perm ((b, Cl 45 [.slice fa frm.length fc, .slice da dn.length dc, .slice oa ord.length oc, fv]) :: (l3, Obj.loop { r3 with state := .busy }) :: (l2, Obj.loop { r2 with state := .busy }) :: (l1, Obj.loop { r1 with state := .busy }) :: (d, Obj.deferred (some [])) :: G3) ∧ S M G3) ?_ ?_ ?_ ?_ ?_
     ·rintro ns M10 M11 G10 aj ⟨fv, G3, hp, gn⟩
      exact ⟨fv, G3, hp, aF _ _ _ _ aj gn⟩
     ·exact ⟨_, G2, List.Perm.refl _, by simpa using aF _ _ _ _ rV kt⟩
     ·intro l4 r4 fw mN ns fen v M10 G10 w4 F4 cP kK ⟨fv, G3, gt, i6⟩ mO
      refine EV.permG ?_ (List.Perm.cons _ gt)
      have mP := mO.sl
      obtain ⟨na, nc, rfl, iC, mQ⟩ := mO
      have mR := Aa.le_trans rV kK
      have nW : XOk p ⟨frm, dn, ord, fen⟩ := dO fen (Kj cP)
      have hX := fun M' (bR : M10.le M') => rU M' (Aa.le_trans mR bR) (.slice na fen.length nc) fen (mP.mono bR)
      have nX := fun G => I1 (M := M10.add G) p _ (kI.mono (Aa.le_trans mR (Aa.le_add _ _))) hp ⟨frm, dn, ord, fen⟩ _ (hX _ (Aa.le_add _ _)) nW
      obtain ⟨c1, c2, c3, c4, c5⟩ := Ad6 hp nW
      have kw := Zi (M := M10) ⟨frm, dn, ord, fen⟩ _ (hX _ (Aa.le_refl _)) c1 c2 c3 c4 c5
      have ud := sw.mono mR
      have sg := j4.mono mR
      repeat' first
        | refine rg ?_
        | (refine xw ?_; refine nx ?_)
        | exact ⟨⟩
        | fail
      refine EV.rbegin fw ?_
      refine EV.block (EV.seq ?_)
      refine EV.any (t := Ag9) [(b, Cl 45 [.slice fa frm.length fc, .slice da dn.length dc, .slice oa ord.length oc, .slice na fen.length nc])] (List.Sublist.cons _ (List.Sublist.cons_cons _ (List.nil_sublist _))) ?_
      simp only [Ao, As, Am, Au, reduceIte, Nat.reduceEqDiff]
      by_cases hb : Cv p ⟨frm, dn, ord, fen⟩ = 0
      ·have eA : decide (Cv p ⟨frm, dn, ord, fen⟩ = 0) = true := decide_eq_true hb
       repeat' first
         | ((first | refine zo (fun lq aB => ?_) | refine zl ?_ | fail); (repeat first | refine nz ?_ | simp only [eA]))
         | refine zq (fun lq tq aB aE => ?_)
         | (refine Exists.intro _ (And.intro (nX _) ?_); (repeat first | refine nz ?_ | simp only [eA]))
         | (refine Sa (by first | with_reducible assumption | rfl) (fun tq aE => ?_) (fun tq aE => ?_) <;> (repeat first | refine nz ?_ | simp only [eA]))
         | exact zn
         | ((refine Ad0 (by first | with_reducible assumption | rfl) rfl (fun tq aE h => ?_) (fun tq aE h => ?_)) <;> try (exfalso; simp at h; done))
         | ((first | refine xm ?_ | refine xn ?_ | refine xrA rfl ?_ | fail); (repeat first | refine nz ?_ | simp only [eA]))
         | fail
       refine Con.callS (G1 := []) kw ?_
       rintro v11 M11 G11 mS pT
       repeat' first
         | (refine And.intro (by omega) ?_)
         | fail
       refine ⟨fun q hq => by simp only [List.mem_singleton] at hq; simp [hq], ?_⟩
       repeat' first
         | (refine zl ?_; (repeat first | refine nz ?_ | simp only [eA]))
         | refine zq (fun lq tq aB aE => ?_)
         | (refine Ec (by first | with_reducible assumption | rfl) (fun tq aE => ?_) (fun tq aE => ?_) <;> (repeat first | refine nz ?_ | simp only [eA]))
         | exact zn
         | fail
       refine E7.frzS G11 ?_
       have aJ : (⟨frm, dn, ord, fen⟩ : Exec) ∈ Fx p :=
        List.mem_flatMap.2 ⟨dn, hdn, List.mem_flatMap.2 ⟨ord, bZ, List.mem_flatMap.2 ⟨frm, i5, by rw [hF]; exact List.mem_filter.2 ⟨List.mem_map.2 ⟨fen, cP, rfl⟩, eA⟩⟩⟩⟩
       refine Ky.callS (hy _ _ aJ _ G3 _ (Aa.le_trans tB (Aa.le_trans mR (Aa.le_trans mS (Aa.le_add _ _)))) (aF _ _ _ _ (Aa.le_trans mS (Aa.le_add _ _)) i6) (IsX.mono (Aa.le_add _ _) pT)) ?_
       rintro v12 M12 G12 tC (⟨rfl, pU⟩ | ⟨rfl, pV⟩)
       ·repeat' first
         | ((refine Mg (by first | with_reducible assumption | rfl) rfl ?_ (fun lq aB hc => ?_) (fun lq aB => ?_); rotate_left) <;> (try (exfalso; simp at hc; done)) <;> (repeat first | refine nz ?_ | simp only [Bool.not_true]))
         | ((first | refine zo (fun lq aB => ?_) | refine zl ?_ | fail); (repeat first | refine nz ?_ | simp only [Bool.not_true]))
         | refine zq (fun lq tq aB aE => ?_)
         | refine zf ?_
         | with_reducible rfl
         | fail
        repeat' first
          | refine EV.skip ?_
          | refine EV.inBlock ?_
          | (refine cX (fun h => ?_) (fun h => ?_) <;> try exact Ah h)
          | fail
        refine EV.rend fw mN (List.Perm.refl _) ⟨_, G12, List.Perm.refl _, ?_⟩
        rw [List.map_append, List.filter_append, List.map_singleton, List.filter_cons, List.filter_nil, eA, if_pos rfl, ← List.append_assoc]; exact pU
       ·repeat' first
         | ((refine Mg (by first | with_reducible assumption | rfl) rfl ?_ (fun lq aB hc => ?_) (fun lq aB => ?_); rotate_left) <;> (try (exfalso; simp at hc; done)) <;> (repeat first | refine nz ?_ | simp only [Bool.not_false]))
         | ((first | refine zo (fun lq aB => ?_) | refine zl ?_ | fail); (repeat first | refine nz ?_ | simp only [Bool.not_false]))
         | refine zq (fun lq tq aB aE => ?_)
         | refine zf ?_
         | with_reducible rfl
         | fail
        repeat' first
          | (refine cX (fun h => ?_) (fun h => ?_) <;> try exact Ah h)
          | fail
        exact EV.rret (List.Perm.refl _) ⟨rfl, _, G12, List.Perm.refl _, pV⟩
      ·have eA : decide (Cv p ⟨frm, dn, ord, fen⟩ = 0) = false := decide_eq_false hb
       repeat' first
         | ((refine Mg (by first | with_reducible assumption | rfl) rfl ?_ (fun lq aB hc => ?_) (fun lq aB => ?_); rotate_left) <;> (try (exfalso; simp at hc; done)) <;> (repeat first | refine nz ?_ | simp only [eA]))
         | ((first | refine zo (fun lq aB => ?_) | refine zl ?_ | fail); (repeat first | refine nz ?_ | simp only [eA]))
         | refine zq (fun lq tq aB aE => ?_)
         | (refine Exists.intro _ (And.intro (nX _) ?_); (repeat first | refine nz ?_ | simp only [eA]))
         | refine zf ?_
         | refine Cr3 (by first | with_reducible assumption | rfl) (fun tq aE => ?_)
         | ((refine Ad0 (by first | with_reducible assumption | rfl) rfl (fun tq aE h => ?_) (fun tq aE h => ?_)) <;> try (exfalso; simp at h; done))
         | ((first | refine xn ?_ | refine xrA rfl ?_ | fail); (repeat first | refine nz ?_ | simp only [eA]))
         | exact false
         | fail
       repeat' first
         | refine EV.skip ?_
         | refine EV.inBlock ?_
         | (refine cX (fun h => ?_) (fun h => ?_) <;> try exact Ah h)
         | fail
       refine EV.rend fw mN (List.Perm.refl _) ⟨_, G3, List.Perm.refl _, ?_⟩
       rw [List.map_append, List.filter_append, List.map_singleton, List.filter_cons, List.filter_nil, eA, if_neg (by decide), List.append_nil]; exact i6
     ·rintro M10 G10 kK ⟨fv, G3, gt, i6⟩
      repeat' first
        | refine EV.inBlock ?_
        | fail
      refine EV.permG ?_ gt
      refine EV.keepS ((l3, Obj.loop { r3 with state := .busy }) :: (l2, Obj.loop { r2 with state := .busy }) :: (l1, Obj.loop { r1 with state := .busy }) :: (d, Obj.deferred (some [])) :: G3) ?_
      refine EV.rend cu mJ (List.Perm.refl _) ⟨G3, List.Perm.refl _, ?_⟩
      rw [List.flatMap_append, List.flatMap_singleton, ← List.append_assoc, kJ, hF]
      exact aF _ _ _ _ (Aa.le_add _ _) i6
     ·rintro c M10 G10 kK ⟨rfl, fv, G3, gt, pW⟩
      refine EV.permG ?_ gt
      refine EV.keepS ((l3, Obj.loop { r3 with state := .busy }) :: (l2, Obj.loop { r2 with state := .busy }) :: (l1, Obj.loop { r1 with state := .busy }) :: (d, Obj.deferred (some [])) :: G3) ?_
      exact EV.rret (List.Perm.refl _) ⟨rfl, G3, List.Perm.refl _, lz _ _ _ (Aa.le_add _ _) pW⟩
   ·rintro M8 G8 nS ⟨G2, mK, kt⟩
    repeat' first
      | refine EV.inBlock ?_
      | fail
    refine EV.rend aS kE mK ⟨G2, List.Perm.refl _, ?_⟩
    rw [List.flatMap_append, List.flatMap_singleton, ← List.append_assoc, kH]; exact kt
   ·rintro c M8 G8 nS ⟨rfl, G2, mK, pB⟩
    exact EV.rret mK ⟨rfl, G2, List.Perm.refl _, pB⟩
  ·rintro M6 G6 fW ⟨G1, gq, kB⟩
   repeat' first
     | refine EV.inBlock ?_
     | fail
   refine EV.rend aW pJ gq ⟨G1, List.Perm.refl _, ?_⟩
   rw [List.flatMap_append, List.flatMap_singleton, ← List.append_assoc, ci]; exact kB
  ·rintro c M6 G6 fW ⟨rfl, G1, gq, pC⟩
   exact EV.rret gq ⟨rfl, G1, List.Perm.refl _, pC⟩
 ·rintro d M4 G4 dZ ⟨G0, dQ, jz⟩
  refine EV.inBlock ?_
  refine EV.doneM Q20_ok (ms := [d]) (by simpa [Me] using dQ) ?_
  (repeat first | refine nx ?_ | simp only [Q20])
  left; rw [nQ]; exact jz
 ·rintro d c M4 G4 dZ ⟨rfl, G0, dQ, pD⟩
  refine EV.retM Q20_ok (ms := [d]) (by simpa [Me] using dQ) ?_
  (repeat first | refine nx ?_ | simp only [Q20])
  right; exact pD
def Fe3 {α : Type} (L : List α) (El : α → Value → Aa → Prop) (v : Value) (M : Aa) (_ : Own) : Prop := ∃ g caps, v = .func (.func g) #[] caps ∧ Uy Tryz.prog g #[] caps M L El
set_option maxHeartbeats 4000000 in
theorem Xi (p : List Ev) (hp : POk p) {ps : Value} (hps : Sl M 6 A4 ps p) : Con Tryz.prog 34 #[ps] M [] (Fe3 (Fx p) ElX) := by
 have ax := hp.len
 refine Con.enter Q18_ok (args := [ps]) (by simp [Q18]) fun w0 => ?_
 simp only [Q18, A5]
 have cH := hps
 obtain ⟨ea, ec, rfl, am⟩ := hps
 refine EV.seq (EV.reg ?_)
 (repeat first | refine nx ?_ | simp only [Bc4])
 intro pb
 refine EV.frz [(pb, Cl 74 [.slice ea p.length ec])] ?_
 generalize hR : M.add _ = N
 have aC : M.le N := hR ▸ Aa.le_add _ _
 have nY : rd N pb 0 1 [.slice ea p.length ec] := hR ▸ Ap 0 rfl rfl (by simp)
 clear hR
 repeat' first
   | refine EV.seq ?_
   | refine rg ?_
   | (refine xn ?_; try refine nx ?_)
   | exact ⟨⟩
   | fail
 refine Con.callS (G1 := []) (Jq p _ ⟨ea, ec, rfl, am.mono aC⟩ (by omega) _ _ (fun i => (evAt p i).strong) ?_) ?_
 ·intro M' bR i hi
  obtain ⟨eb1, eo, rfl, hat⟩ := Sl.at (enc := A4) (fun _ => rfl) (by decide) am (by omega)
  exact Ri p (nY.mono bR) i hi ((Sl.evAt hat i hi).mono (Aa.le_trans aC bR))
 rintro v M2 G2 bE ⟨of, rfl, jH, rfl⟩
 repeat' first
   | refine EV.seq ?_
   | refine rg ?_
   | (with_reducible intro b; try refine nx ?_)
   | (refine xw ?_; refine nx ?_)
   | exact ⟨⟩
   | fail
 refine EV.keepS [] ?_
 generalize hR : M2.add _ = N2
 have eN : M2.le N2 := hR ▸ Aa.le_add _ _
 (refine rt Q18_ok ?_; try with_reducible exact ⟨⟩)
 refine ⟨_, _, rfl, Uz p hp (cH.mono (Aa.le_trans aC (Aa.le_trans bE eN))) (hR ▸ Hp (T := 3) jH rfl (fun q hq => by simp [hq])) (nY.mono (Aa.le_trans bE eN)) (hR ▸ Ap 0 rfl rfl (by simp))⟩
end
end Go.EV

namespace Go.EV
open Go.Proofs
theorem Np : ∀ (l : List (List OpV)) (n : Nat) (e : Ev), e ∈ Co n l → e.op ∈ l.flatten
 | [], _, e, h => by simp [Co] at h
 | t :: l, n, e, h => by
  simp only [Co, List.mem_append, List.mem_map] at h
  rcases h with ⟨o, ho, rfl⟩ | h
  ·exact List.mem_flatten.2 ⟨t, List.mem_cons_self .., ho⟩
  ·obtain ⟨l', h1, h2⟩ := List.mem_flatten.1 (Np l (n + 1) e h)
   exact List.mem_flatten.2 ⟨l', List.mem_cons_of_mem _ h1, h2⟩
theorem expOp_ok {o : OpV} (h : Lt o = true) : ∀ x ∈ Cf o, Bs x.ord = true ∧ 0 ≤ x.loc ∧ x.loc < 3 := by
 obtain ⟨q1, q2, q3⟩ := (Ew o).1 h
 have hl : 0 ≤ o.loc ∧ o.loc < 3 := by
  simp only [W5, Bool.and_eq_true, decide_eq_true_eq] at q3; exact q3.1
 have ho : Bs o.ord = true := by
  simp only [T4, Bool.and_eq_true] at q1; exact q1.2
 intro x hx
 unfold Cf at hx
 split at hx
 ·simp only [List.mem_singleton] at hx; subst hx; exact ⟨ho, hl⟩
 ·simp only [List.mem_cons, List.not_mem_nil, or_false] at hx
  rcases hx with rfl | rfl | rfl
  ·decide
  ·refine ⟨?_, hl⟩
   have : ∀ k : Int, Bs (Iq k o.ord) = true := fun k => by
    unfold Iq
    split
    ·exact ho
    ·split
     ·decide
     ·split <;> decide
   exact this _
  ·decide
theorem Wf (l : List OpV) (hall : ∀ o ∈ l, Lt o = true) : ((Ds l).length : Int) ≤ (Bb l).acc + (Bb l).fen ∧ True := by
 have key : ∀ (l : List OpV) (s : LimS), (∀ o ∈ l, Lt o = true) → ((Ds l).length : Int) + s.acc + s.fen ≤ (l.foldl Ak s).acc + (l.foldl Ak s).fen := by
  intro l
  induction l with
  | nil => intro s _; simp [Ds]
  | cons o l ih =>
   intro s h
   have ih2 := ih (Ak s o) (fun x hx => h x (List.mem_cons_of_mem _ hx))
   have ho := h o (List.mem_cons_self ..)
   obtain ⟨q1, q2, q3⟩ := (Ew o).1 ho
   have hk : 0 ≤ o.kind ∧ o.kind < 6 := by
    simp only [T4, Bool.and_eq_true, decide_eq_true_eq] at q1; exact q1.1
   have e : (Ds (o :: l)).length = (Cf o).length + (Ds l).length := by simp [Ds]
   have : ((Cf o).length : Int) + s.acc + s.fen ≤ (Ak s o).acc + (Ak s o).fen := by
    by_cases h5 : o.kind = 5
    ·have e1 : (Cf o).length = 1 := by unfold Cf Bj; rw [if_pos (by left; simp [h5])]; rfl
     have e2 : (Ak s o).acc = s.acc ∧ (Ak s o).fen = s.fen + 1 := by unfold Ak; rw [if_pos h5]; exact ⟨rfl, rfl⟩
     omega
    ·have ha : Bj o = true := by simp [Bj]; omega
     by_cases h4 : o.ord = 4
     ·have e1 : (Cf o).length = 3 := by unfold Cf; rw [if_neg (by simp [ha, h4])]; rfl
      have e2 : (Ak s o).acc = s.acc + 1 ∧ (Ak s o).fen = s.fen + 2 := by unfold Ak; rw [if_neg h5, if_pos ha]; simp [h4]
      omega
     ·have e1 : (Cf o).length = 1 := by unfold Cf; rw [if_pos (by right; exact h4)]; rfl
      have e2 : (Ak s o).acc = s.acc + 1 ∧ (Ak s o).fen = s.fen := by unfold Ak; rw [if_neg h5, if_pos ha]; simp [h4]
      omega
   rw [List.foldl_cons]
   omega
 exact ⟨by have := key l ⟨0, 0, 0, 0, 0⟩ hall; simpa [Bb] using this, trivial⟩
theorem Hu {ts : List (List OpV)} (h : A7 ts = 0) : POk (Al ts) := by
 obtain ⟨hl, hn, hall⟩ := Cz h
 have cV : ∀ o ∈ ts.flatten, Lt o = true := List.all_eq_true.1 hall
 have az : (ts.map Ds).flatten = Ds ts.flatten := by simp [Ds, List.flatMap_def, List.map_flatten, List.flatten_flatten, List.map_map]; rfl
 have aJ : ∀ i, i < (Al ts).length → Bs (evAt (Al ts) i).op.ord = true ∧ 0 ≤ (evAt (Al ts) i).op.loc ∧ (evAt (Al ts) i).op.loc < 3 := by
  intro i hi
  have he : evAt (Al ts) i = (Al ts)[i] := by simp [evAt, hi]
  rw [he]
  have := Np _ _ _ (List.getElem_mem hi)
  rw [az, Ds, List.mem_flatMap] at this
  obtain ⟨o, ho, hx⟩ := this
  exact expOp_ok (cV o ho) _ hx
 refine ⟨?_, fun i hi => (aJ i hi).1, fun i hi => (aJ i hi).2⟩
 have h1 := (Wf ts.flatten cV).1
 simp only [Fk, Bool.and_eq_true, decide_eq_true_eq] at hl
 have : (Al ts).length = (Ds ts.flatten).length := by rw [Al, Hk, az]
 omega
section
variable {M : Aa}
end
end Go.EV

namespace Go.EV
open Go.Proofs
theorem Gs {α : Type} [DecidableEq α] : ∀ {l m : List α}, l.Nodup → (∀ x ∈ l, x ∈ m) → l.length ≤ m.length
 | [], _, _, _ => Nat.zero_le _
 | x :: l, m, hn, h => by
  obtain ⟨h1, h2⟩ := List.nodup_cons.1 hn
  have hx : x ∈ m := h x (List.mem_cons_self ..)
  have := Gs (l := l) (m := m.erase x) h2 (fun y hy => (List.mem_erase_of_ne (fun e => by subst e; exact h1 hy)).2 (h y (List.mem_cons_of_mem _ hy)))
  rw [List.length_erase_of_mem hx] at this
  have hpos : 0 < m.length := List.length_pos_of_mem hx
  rw [List.length_cons]; omega
def Nq {α : Type} : List (List α) → List (List α)
 | [] => [[]]
 | l :: ls => l.flatMap fun x => (Nq ls).map (x :: ·)
theorem Nr {α : Type} : ∀ {ls : List (List α)} {x : List α}, x.length = ls.length → (∀ i (h : i < x.length) (h' : i < ls.length), x[i] ∈ ls[i]) → x ∈ Nq ls
 | [], x, hl, _ => by
  have : x = [] := List.length_eq_zero_iff.1 hl
  simp [Nq, this]
 | l :: ls, [], hl, _ => by simp at hl
 | l :: ls, y :: x, hl, h => by
  simp only [Nq, List.mem_flatMap, List.mem_map]
  exact ⟨y, h 0 (by simp) (by simp), x, Nr (by simpa using hl) (fun i h1 h2 => by have := h (i + 1) (by simpa using h1) (by simpa using h2); rwa [List.getElem_cons_succ, List.getElem_cons_succ] at this), rfl⟩
theorem Ko {α β : Type} {f : α → List β} {c : Nat} : ∀ {l : List α}, (∀ x ∈ l, (f x).length ≤ c) → (l.flatMap f).length ≤ l.length * c
 | [], _ => by simp
 | x :: l, h => by
  have h1 := Ko (l := l) (fun y hy => h y (List.mem_cons_of_mem _ hy))
  have h2 := h x (List.mem_cons_self ..)
  rw [List.flatMap_cons, List.length_append, List.length_cons, Nat.succ_mul]; omega
theorem Dq {α : Type} {l : List α} {ls : List (List α)} {a b : Nat} (h1 : l.length ≤ a) (h2 : (Nq ls).length ≤ b) : (Nq (l :: ls)).length ≤ a * b := by
 have : (Nq (l :: ls)).length ≤ l.length * b := Ko fun x _ => by rw [List.length_map]; exact h2
 exact Nat.le_trans this (Nat.mul_le_mul_right _ h1)
theorem Lc {f : Nat → List Int} {g : Nat → Bool} {c : Nat} (hc : 0 < c) (h1 : ∀ i, g i = true → (f i).length ≤ c) (h2 : ∀ i, g i = false → (f i).length ≤ 1) : ∀ (l : List Nat), (Nq (l.map f)).length ≤ c ^ (l.filter g).length
 | [] => by simp [Nq]
 | x :: l => by
  have ih := Lc hc h1 h2 l
  rw [List.map_cons]
  cases hg : g x with
  | true =>
   rw [List.filter_cons, hg, if_pos rfl, List.length_cons, Nat.pow_succ, Nat.mul_comm]
   exact Dq (h1 x hg) ih
  | false =>
   rw [List.filter_cons, hg, if_neg (by decide)]
   have := Dq (h2 x hg) ih
   rwa [Nat.one_mul] at this
theorem Xj (p : List Ev) : (List.range p.length).map (evAt p) = p := by
 refine List.ext_getElem (by simp) fun i h1 h2 => ?_
 rw [List.getElem_map, List.getElem_range, B8 h2]
theorem Ld (p : List Ev) (g : Ev → Bool) : ((List.range p.length).filter fun i => g (evAt p i)).length = (p.filter g).length := by
 conv => rhs; rw [← Xj p]
 rw [List.filter_map, List.length_map]; rfl
theorem Lf (g : OpV → Bool) : ∀ (l : List (List OpV)) (n : Nat), ((Co n l).filter fun e => g e.op).length = (l.flatten.filter g).length
 | [], n => rfl
 | t :: l, n => by
  rw [Co, List.filter_append, List.length_append, Lf g l (n + 1), List.flatten_cons, List.filter_append, List.length_append, List.filter_map, List.length_map]; rfl
theorem Ns {g : OpV → Bool} (h5 : g Hc = false) (ho : ∀ o : OpV, ∀ r, g { o with ord := r } = g o) : ∀ l : List OpV, ((Ds l).filter g).length = (l.filter g).length
 | [] => rfl
 | o :: l => by
  have ih := Ns h5 ho l
  have e : Ds (o :: l) = Cf o ++ Ds l := by simp [Ds]
  have h1 : ((Cf o).filter g).length = ([o].filter g).length := by
   unfold Cf
   split
   ·rfl
   ·simp only [List.filter_cons, h5, ho, List.filter_nil]
    cases g o <;> simp
  rw [e, List.filter_append, List.length_append, ih, h1, ← List.length_append, ← List.filter_append]; rfl
theorem Wg (ts : List (List OpV)) : (ts.map Ds).flatten = Ds ts.flatten := by simp [Ds, List.flatMap_def, List.map_flatten, List.flatten_flatten, List.map_map]; rfl
theorem Pv {g : OpV → Bool} (h5 : g Hc = false) (ho : ∀ o : OpV, ∀ r, g { o with ord := r } = g o) (ts : List (List OpV)) : ((Al ts).filter fun e => g e.op).length = (ts.flatten.filter g).length := by
 rw [Al, Lf, Wg, Ns h5 ho]
theorem Xk {o : OpV} (h : Lt o = true) : ∀ x ∈ Cf o, 0 ≤ x.kind ∧ x.kind ≤ 5 := by
 obtain ⟨q1, _, _⟩ := (Ew o).1 h
 have hk : 0 ≤ o.kind ∧ o.kind < 6 := by simp only [T4, Bool.and_eq_true, decide_eq_true_eq] at q1; exact q1.1
 intro x hx
 unfold Cf at hx
 split at hx
 ·simp only [List.mem_singleton] at hx; subst hx; omega
 ·simp only [List.mem_cons, List.not_mem_nil, or_false] at hx
  rcases hx with rfl | rfl | rfl
  ·decide
  ·exact ⟨hk.1, by have := hk.2; show o.kind ≤ 5; omega⟩
  ·decide
theorem Cr9 {ts : List (List OpV)} (h : A7 ts = 0) (i : Nat) (hi : i < (Al ts).length) : ∃ o, Lt o = true ∧ o ∈ ts.flatten ∧ (evAt (Al ts) i).op ∈ Cf o := by
 obtain ⟨_, _, hall⟩ := Cz h
 rw [B8 hi]
 have := Np _ _ _ (List.getElem_mem hi)
 rw [Wg, Ds, List.mem_flatMap] at this
 obtain ⟨o, ho, hx⟩ := this
 exact ⟨o, List.all_eq_true.1 hall o ho, ho, hx⟩
theorem L1 {ts : List (List OpV)} (h : A7 ts = 0) (i : Nat) (hi : i < (Al ts).length) : 0 ≤ (evAt (Al ts) i).op.kind ∧ (evAt (Al ts) i).op.kind ≤ 5 := by
 obtain ⟨o, h1, _, h2⟩ := Cr9 h i hi
 exact Xk h1 _ h2
theorem Pw : ∀ (l : List (List OpV)) (n : Nat), (Co n l).Pairwise (fun a b => a.th ≤ b.th) ∧ ∀ e ∈ Co n l, (n : Int) ≤ e.th
 | [], n => ⟨List.Pairwise.nil, fun e h => nomatch h⟩
 | t :: l, n => by
  obtain ⟨h1, h2⟩ := Pw l (n + 1)
  rw [Co]
  refine ⟨List.pairwise_append.2 ⟨?_, h1, ?_⟩, ?_⟩
  ·rw [List.pairwise_map]; exact List.pairwise_of_forall fun _ _ => Int.le_refl _
  ·intro a ha b hb
   obtain ⟨o, _, rfl⟩ := List.mem_map.1 ha
   have := h2 b hb
   show (n : Int) ≤ b.th
   omega
  ·intro e he
   rcases List.mem_append.1 he with he | he
   ·obtain ⟨o, _, rfl⟩ := List.mem_map.1 he
    exact Int.le_refl _
   ·have := h2 e he; omega
theorem E0 (ts : List (List OpV)) : Lw (Al ts) := by
 intro a b fD hb
 rcases Nat.lt_or_eq_of_le fD with h | h
 ·have := (List.pairwise_iff_getElem.1 (Pw (ts.map Ds) 0).1) a b (by rw [Al] at hb; omega) hb h
  rw [B8 hb, B8 (by omega)]; exact this
 ·rw [h]; exact Int.le_refl _
def isW (k : Int) (o : OpV) : Bool := decide (1 ≤ o.kind) && decide (o.kind ≤ 4) && decide (o.loc = k)
theorem Xl (l : List OpV) (hall : ∀ o ∈ l, Lt o = true) : ((l.filter fun o => decide (o.kind ≠ 5)).length : Int) ≤ (Bb l).acc ∧
  ((l.filter (isW 0)).length : Int) ≤ (Bb l).w0 ∧ ((l.filter (isW 1)).length : Int) ≤ (Bb l).w1 ∧ ((l.filter (isW 2)).length : Int) ≤ (Bb l).w2 := by
 have key : ∀ (l : List OpV) (s : LimS), (∀ o ∈ l, Lt o = true) → s.acc + ((l.filter fun o => decide (o.kind ≠ 5)).length : Int) ≤ (l.foldl Ak s).acc ∧
  s.w0 + ((l.filter (isW 0)).length : Int) ≤ (l.foldl Ak s).w0 ∧ s.w1 + ((l.filter (isW 1)).length : Int) ≤ (l.foldl Ak s).w1 ∧ s.w2 + ((l.filter (isW 2)).length : Int) ≤ (l.foldl Ak s).w2 := by
  intro l
  induction l with
  | nil => intro s _; simp
  | cons o l ih =>
   intro s h
   have ih2 := ih (Ak s o) (fun x hx => h x (List.mem_cons_of_mem _ hx))
   have ho := h o (List.mem_cons_self ..)
   obtain ⟨q1, _, _⟩ := (Ew o).1 ho
   have hk : 0 ≤ o.kind ∧ o.kind < 6 := by simp only [T4, Bool.and_eq_true, decide_eq_true_eq] at q1; exact q1.1
   rw [List.foldl_cons]
   by_cases h5 : o.kind = 5
   ·have e : Ak s o = { s with fen := s.fen + 1 } := by unfold Ak; rw [if_pos h5]
    rw [e] at ih2 ⊢
    simp only [List.filter_cons, isW, h5]
    simpa [isW] using ih2
   ·have ha : Bj o = true := by simp [Bj]; omega
    have e : Ak s o = { acc := s.acc + 1, fen := if o.ord = 4 then s.fen + 2 else s.fen, w0 := if o.kind ≠ 0 ∧ o.loc = 0 then s.w0 + 1 else s.w0, w1 := if o.kind ≠ 0 ∧ o.loc = 1 then s.w1 + 1 else s.w1, w2 := if o.kind ≠ 0 ∧ o.loc = 2 then s.w2 + 1 else s.w2 } := by
     unfold Ak; rw [if_neg h5, if_pos ha]
    have hw : ∀ k : Int, isW k o = decide (o.kind ≠ 0 ∧ o.loc = k) := fun k => by
     unfold isW
     rw [Bool.eq_iff_iff]
     simp only [Bool.and_eq_true, decide_eq_true_eq]; omega
    rw [e] at ih2 ⊢
    obtain ⟨i1, i2, i3, i4⟩ := ih2
    dsimp only at i1 i2 i3 i4
    generalize l.foldl Ak _ = z at i1 i2 i3 i4 ⊢
    have hh : ∀ (g : OpV → Bool), (((o :: l).filter g).length : Int) = (if g o = true then 1 else 0) + ((l.filter g).length : Int) := fun g => by
     rw [List.filter_cons]; split
     ·rw [List.length_cons]; omega
     ·omega
    refine ⟨?_, ?_, ?_, ?_⟩
    ·rw [hh]; split <;> omega
    ·rw [hh, hw]
     by_cases hc : o.kind ≠ 0 ∧ o.loc = 0
     ·rw [if_pos hc] at i2; rw [if_pos (decide_eq_true hc)]; omega
     ·rw [if_neg hc] at i2; rw [if_neg (by simpa using hc)]; omega
    ·rw [hh, hw]
     by_cases hc : o.kind ≠ 0 ∧ o.loc = 1
     ·rw [if_pos hc] at i3; rw [if_pos (decide_eq_true hc)]; omega
     ·rw [if_neg hc] at i3; rw [if_neg (by simpa using hc)]; omega
    ·rw [hh, hw]
     by_cases hc : o.kind ≠ 0 ∧ o.loc = 2
     ·rw [if_pos hc] at i4; rw [if_pos (decide_eq_true hc)]; omega
     ·rw [if_neg hc] at i4; rw [if_neg (by simpa using hc)]; omega
 have := key l ⟨0, 0, 0, 0, 0⟩ hall
 simpa [Bb] using this
structure Few (p : List Ev) : Prop where
 acc : (p.filter fun e => decide (e.op.kind ≠ 5)).length ≤ 6
 w : ∀ k : Int, (p.filter fun e => isW k e.op).length ≤ 4
 ws : (p.filter fun e => isW 0 e.op).length + (p.filter fun e => isW 1 e.op).length + (p.filter fun e => isW 2 e.op).length ≤ 6
theorem Nt {α : Type} {f g h t : α → Bool} (hd : ∀ x, (f x = true → g x = false ∧ h x = false ∧ t x = true) ∧ (g x = true → h x = false ∧ t x = true) ∧ (h x = true → t x = true)) : ∀ l : List α, (l.filter f).length + (l.filter g).length + (l.filter h).length ≤ (l.filter t).length
 | [] => by simp
 | x :: l => by
  have ih := Nt hd l
  obtain ⟨h1, h2, h3⟩ := hd x
  simp only [List.filter_cons]
  cases hf : f x with
  | true =>
   obtain ⟨a, b, c⟩ := h1 hf
   rw [a, b, c]; simp; omega
  | false =>
   cases hg : g x with
   | true =>
    obtain ⟨b, c⟩ := h2 hg
    rw [b, c]; simp; omega
   | false =>
    cases hh : h x with
    | true => rw [h3 hh]; simp; omega
    | false => cases t x <;> simp <;> omega
theorem Au2 {ts : List (List OpV)} (h : A7 ts = 0) : Few (Al ts) := by
 obtain ⟨hl, _, hall⟩ := Cz h
 obtain ⟨c1, c2, c3, c4⟩ := Xl ts.flatten (List.all_eq_true.1 hall)
 simp only [Fk, Bool.and_eq_true, decide_eq_true_eq] at hl
 obtain ⟨⟨⟨⟨⟨_, l1⟩, _⟩, l2⟩, l3⟩, l4⟩ := hl
 have ha : ((Al ts).filter fun e => decide (e.op.kind ≠ 5)).length ≤ 6 := by
  have := Pv (g := fun o => decide (o.kind ≠ 5)) (by simp) (fun _ _ => rfl) ts
  omega
 have hw : ∀ k : Int, ((Al ts).filter fun e => isW k e.op).length = (ts.flatten.filter (isW k)).length := fun k => Pv (g := isW k) (by simp [isW]) (fun _ _ => rfl) ts
 refine ⟨ha, fun k => ?_, ?_⟩
 ·by_cases h0 : k = 0
  ·subst h0; have := hw 0; omega
  ·by_cases h1 : k = 1
   ·subst h1; have := hw 1; omega
   ·by_cases h2 : k = 2
    ·subst h2; have := hw 2; omega
    ·have : ((Al ts).filter fun e => isW k e.op) = [] := by
      rw [List.filter_eq_nil_iff]
      intro e he hk
      obtain ⟨i, hi, rfl⟩ := List.getElem_of_mem he
      have := (Hu h).loc i hi
      rw [B8 hi] at this
      simp only [isW, Bool.and_eq_true, decide_eq_true_eq] at hk
      omega
     rw [this]; simp
 ·refine Nat.le_trans (Nt (t := fun e : Ev => decide (e.op.kind ≠ 5)) (fun x => ?_) _) ha
  simp only [isW, Bool.and_eq_true, decide_eq_true_eq, Bool.and_eq_false_iff, decide_eq_false_iff_not]
  refine ⟨fun h => ⟨.inr (by omega), .inr (by omega), by omega⟩, fun h => ⟨.inr (by omega), by omega⟩, fun h => by omega⟩
def Ie (p : List Ev) (k : Int) : List Int := Cy p.length fun i => isW k (evAt p i).op
theorem Lg {p : List Ev} {k : Int} : (Ie p k).length = (p.filter fun e => isW k e.op).length := by
 rw [Ie, Cy, List.length_map, ← Ld p fun e => isW k e.op]
theorem Lh {p : List Ev} {k : Int} {w : Nat} : (w : Int) ∈ Ie p k ↔ w < p.length ∧ 1 ≤ (evAt p w).op.kind ∧ (evAt p w).op.kind ≤ 4 ∧ (evAt p w).op.loc = k := by
 rw [Ie, Dm]
 simp only [isW, Bool.and_eq_true, decide_eq_true_eq]
 constructor
 ·rintro ⟨i, h1, ⟨⟨h2, h3⟩, h4⟩, h5⟩
  have : i = w := by omega
  subst this; exact ⟨h1, h2, h3, h4⟩
 ·rintro ⟨h1, h2, h3, h4⟩; exact ⟨w, h1, ⟨⟨h2, h3⟩, h4⟩, rfl⟩
def Ct5 (p : List Ev) : List (List Int) := Nq ((List.range p.length).map fun i => if (evAt p i).reads then -1 :: Ie p (evAt p i).op.loc else [-2])
def U0 (p : List Ev) (w : Wd) (k : Int) : List Int := 0 :: (Ie p k).map fun x => w.w[x.toNat]?.getD 0
def Ad7 (p : List Ev) : List (List Int) := (Ct5 p).flatMap fun f => (Nq [U0 p (An p f) 0, U0 p (An p f) 1, U0 p (An p f) 2]).map (A6 p (An p f) p.length ++ ·)
theorem Fe4 : ∀ a b c : Fin 5, a.1 + b.1 + c.1 ≤ 6 → (a.1 + 1) * ((b.1 + 1) * ((c.1 + 1) * 1)) ≤ 27 := by decide
theorem Zj {p : List Ev} (h : Few p) : (Ad7 p).length ≤ 421875 := by
 have h1 : (Ct5 p).length ≤ 5 ^ ((List.range p.length).filter fun i => (evAt p i).reads).length := by
  refine Lc (by decide) (fun i hi => ?_) (fun i hi => ?_) _
  ·rw [if_pos hi, List.length_cons, Lg]
   have := h.w (evAt p i).op.loc; omega
  ·rw [if_neg (by rw [hi]; decide)]; simp
 have h2 : ((List.range p.length).filter fun i => (evAt p i).reads).length ≤ 6 := by
  rw [Ld p Ev.reads]
  refine Nat.le_trans ?_ h.acc
  have : p.filter Ev.reads = (p.filter fun e => decide (e.op.kind ≠ 5)).filter Ev.reads := by
   rw [List.filter_filter]
   congr 1
   funext e
   simp only [Ev.reads]
   cases decide (e.op.kind ≠ 1) <;> cases decide (e.op.kind ≠ 5) <;> rfl
  rw [this]; exact List.length_filter_le _ _
 have h3 : (Ct5 p).length ≤ 15625 := Nat.le_trans h1 (Nat.le_trans (Nat.pow_le_pow_right (by decide) h2) (by decide))
 have h4 : (Ad7 p).length ≤ (Ct5 p).length * 27 := by
  refine Ko fun f _ => ?_
  rw [List.length_map]
  have hl : ∀ k, (U0 p (An p f) k).length ≤ (p.filter fun e => isW k e.op).length + 1 := fun k => by rw [U0, List.length_cons, List.length_map, Lg]; exact Nat.le_refl _
  refine Nat.le_trans (Dq (hl 0) (Dq (hl 1) (Dq (hl 2) (Nat.le_refl 1)))) ?_
  have w0 := h.w 0; have w1 := h.w 1; have w2 := h.w 2; have ws := h.ws
  exact Fe4 ⟨_, by omega⟩ ⟨_, by omega⟩ ⟨_, by omega⟩ ws
 omega
theorem Zk {p : List Ev} (hp : POk p) {e : Exec} (h : Shape p e) : Aw p e ∈ Ad7 p := by
 unfold Ad7
 rw [List.mem_flatMap]
 refine ⟨e.frm, Nr (by simp [h.fl]) fun i h1 h2 => ?_, ?_⟩
 ·simp only [List.getElem_map, List.getElem_range]
  have hi : i < p.length := by rw [← h.fl]; exact h1
  have hf : Ae e i = e.frm[i] := by simp [Ae, h1]
  cases hr : (evAt p i).reads with
  | false => rw [if_neg (by decide), List.mem_singleton, ← hf]; exact h.out i hi hr
  | true =>
   rw [if_pos rfl, ← hf]
   rcases h.src i hi hr with h3 | ⟨w, h3, h4, h5, h6⟩
   ·exact List.mem_cons.2 (.inl h3)
   ·have := h.dn0 w h4 h5
    exact List.mem_cons.2 (.inr (by rw [h3]; exact Lh.2 ⟨h4, this.1, this.2, h6⟩))
 ·refine List.mem_map.2 ⟨e.ord.map (Bm (An p e.frm)), Nr (by simp [h.ol]) fun i h1 h2 => ?_, rfl⟩
  rw [List.length_map] at h1
  have ga : i < 3 := by rw [h.ol] at h1; exact h1
  have bC := h.ord i ga
  rw [List.getElem?_eq_getElem h1, Option.getD_some] at bC
  have key : Bm (An p e.frm) e.ord[i] ∈ U0 p (An p e.frm) i := by
   unfold Bm U0
   split
   ·exact List.mem_cons_self ..
   ·rename_i hne
    refine List.mem_cons_of_mem _ (List.mem_map.2 ⟨Ad e.ord[i] (e.ord[i].length - 1), ?_, rfl⟩)
    have := bC.mem_iff.1 (Hs.2 ⟨e.ord[i].length - 1, by omega, rfl⟩)
    obtain ⟨w, q1, q2, _, q3, q4⟩ := A9.1 this
    have := h.dn0 w q2 q3
    rw [q1]; exact Lh.2 ⟨q2, this.1, this.2, q4⟩
  rw [List.getElem_map]
  have : i = 0 ∨ i = 1 ∨ i = 2 := by omega
  rcases this with rfl | rfl | rfl <;> exact key
def Au3 (p : List Ev) (x : List Int) : Prop := ∃ e, e ∈ Fx p ∧ Aw p e = x
theorem Ad8 {p : List Ev} (hp : POk p) (hm : Lw p) (hf : Few p) {l : List (List Int)} (hn : l.Nodup) (h : ∀ x ∈ l, Au3 p x) : l.length ≤ 421875 :=
 Nat.le_trans (Gs hn fun x hx => by
  obtain ⟨e, he, rfl⟩ := h x hx
  exact Zk hp ((Rg hp hm).1 he).1) (Zj hf)
end Go.EV

namespace Go.EV
open Go.Proofs
def Ad9 (a b : Int) : Int := if a < b then -1 else if a > b then 1 else 0
def Fh : List Int → List Int → Int
 | [], [] => 0
 | [], _ :: _ => -1
 | _ :: _, [] => 1
 | a :: l, b :: m => if Ad9 a b = 0 then Fh l m else Ad9 a b
theorem Au4 (a b : Int) : Ad9 a b < 0 ↔ a < b := by unfold Ad9; split <;> (try split) <;> omega
theorem Hv (a b : Int) : Ad9 a b = 0 ↔ a = b := by unfold Ad9; split <;> (try split) <;> omega
theorem Ef : ∀ xs, Fh xs xs = 0
 | [] => rfl
 | x :: xs => by rw [Fh, if_pos ((Hv x x).2 rfl), Ef xs]
theorem Hw {a b : Int} {l m : List Int} : Fh (a :: l) (b :: m) < 0 ↔ a < b ∨ (a = b ∧ Fh l m < 0) := by
 rw [Fh]
 split
 ·rename_i h; have := (Hv a b).1 h; subst this; simp
 ·rename_i h
  have h2 : a ≠ b := fun e => h ((Hv a b).2 e)
  rw [Au4]; simp [h2]
theorem F0 : ∀ xs ys zs, Fh xs ys < 0 → Fh ys zs < 0 → Fh xs zs < 0
 | [], [], _, h, _ => by simp [Fh] at h
 | [], _ :: _, [], _, h => by simp [Fh] at h
 | [], _ :: _, _ :: _, _, _ => by simp [Fh]
 | _ :: _, [], _, h, _ => by simp [Fh] at h
 | _ :: _, _ :: _, [], _, h => by simp [Fh] at h
 | a :: l, b :: m, c :: n, h1, h2 => by
  rw [Hw] at *
  rcases h1 with h1 | ⟨rfl, h1⟩ <;> rcases h2 with h2 | ⟨rfl, h2⟩
  ·left; omega
  ·left; exact h1
  ·left; exact h2
  ·right; exact ⟨rfl, F0 _ _ _ h1 h2⟩
theorem E5 : ∀ xs ys, Fh xs ys < 0 ∨ xs = ys ∨ Fh ys xs < 0
 | [], [] => by simp
 | [], _ :: _ => by simp [Fh]
 | _ :: _, [] => by simp [Fh]
 | a :: l, b :: m => by
  rw [Hw, Hw]
  have := E5 l m
  by_cases h1 : a < b
  ·left; left; exact h1
  ·by_cases h2 : b < a
   ·right; right; left; exact h2
   ·have : a = b := by omega
    subst this
    rcases E5 l m with h | rfl | h
    ·left; right; exact ⟨rfl, h⟩
    ·right; left; rfl
    ·right; right; right; exact ⟨rfl, h⟩
theorem Zl {xs ys : List Int} : ∀ {i : Nat}, xs.take i = ys.take i → Fh xs ys = Fh (xs.drop i) (ys.drop i) := by
 induction xs generalizing ys with
 | nil => intro i h; cases i with
  | zero => rfl
  | succ i => cases ys with
   | nil => rfl
   | cons y ys => simp at h
 | cons x xs ih => intro i h; cases i with
  | zero => rfl
  | succ i => cases ys with
   | nil => simp at h
   | cons y ys =>
    simp only [List.take_succ_cons, List.cons.injEq] at h
    rw [h.1, Fh, if_pos ((Hv y y).2 rfl), ih h.2]; rfl
section
variable {M : Aa}
theorem U1 (x : Int) : Aq Tryz.prog 152 #[vi x] M (vb false) := by
 refine Con.enter Q49_ok (args := [vi x]) (by simp [Q49]) fun w0 => ?_
 simp only [Q49, A5]
 repeat' first
   | refine EV.seq ?_
   | refine rg ?_
   | refine rt Q49_ok ?_
   | exact ⟨⟩
   | fail
 all_goals simp
theorem Rj (x y : Int) : Aq Tryz.prog 127 #[vi x, vi y] M (vi (Ad9 x y)) := by
 refine Con.enter Q48_ok (args := [vi x, vi y]) (by simp [Q48]) fun w0 => ?_
 simp only [Q48, A5]
 repeat' first
   | refine EV.seq ?_
   | refine EV.skip ?_
   | refine rg ?_
   | (refine Aq.call (U1 _) ?_; try refine nx ?_)
   | (refine cX (fun h => ?_) (fun h => ?_) <;> try exact Ah h)
   | refine rt Q48_ok ?_
   | exact ⟨⟩
   | fail
 all_goals (simp only [Ad9]; grind)
theorem Sr (xs ys : List Int) (s t : Value) (hs : Sl M 1 ei s xs) (ht : Sl M 1 ei t ys) (hb : xs.length < 1000000) (dS : ys.length < 1000000) : Aq Tryz.prog 88 #[s, t] M (vi (Fh xs ys)) := by
 obtain ⟨a, c, rfl, aH⟩ := hs
 obtain ⟨a2, c2, rfl, dD⟩ := ht
 refine Con.enter Q108_ok (args := [.slice a xs.length c, .slice a2 ys.length c2]) (by simp [Ed1]) fun w0 => ?_
 simp only [Ed1, A5]
 repeat' first
   | refine EV.seq ?_
   | refine EV.block ?_
   | refine rg ?_
   | exact ⟨⟩
   | fail
 refine EV.loopTo (fun i : Nat => ([(0, .slice a xs.length c), (1, .slice a2 ys.length c2), (9, .slice a xs.length c), (10, vi xs.length), (11, vi i)], M, [])) (fun i => i ≤ xs.length ∧ i ≤ ys.length ∧ xs.take i = ys.take i) (fun i => xs.length - i) 0 rfl ⟨Nat.zero_le _, Nat.zero_le _, rfl⟩ ?env1 (List.Sublist.refl _) ?_
 case env1 =>
  exact eE
 rintro i ⟨hi, tD, aa⟩ ih
 dsimp only at hi tD aa ih ⊢
 have fT := Zl aa
 repeat' first
   | refine EV.seq ?_
   | refine EV.skip ?_
   | refine EV.block ?_
   | refine rg ?_
   | (refine cX (fun h => ?_) (fun h => ?_) <;> try exact Ah h)
   | (refine EV.exit rfl ?_)
   | exact ⟨⟩
   | fail
 ·have aA : i < xs.length := by omega
  obtain ⟨wb, wo, rfl, hat⟩ := Sl.at (sz := 1) (enc := ei) (fun _ => rfl) (by decide) aH (by omega)
  have eX := hat i aA
  rw [Nat.mul_one] at eX
  rw [List.drop_eq_getElem_cons aA] at fT
  by_cases bk : i < ys.length
  ·obtain ⟨wb2, wo2, rfl, aL⟩ := Sl.at (sz := 1) (enc := ei) (fun _ => rfl) (by decide) dD (by omega)
   have ez := aL i bk
   rw [Nat.mul_one] at ez
   rw [List.drop_eq_getElem_cons bk, Fh] at fT
   have dJ : ¬ ((ys.length : Int) ≤ i) := by omega
   have ga : (i : Int) < (ys.length : Int) := by omega
   repeat' first
     | refine EV.seq ?_
     | refine EV.skip ?_
     | refine EV.inBlock ?_
     | refine rg ?_
     | (refine Aq.call (Rj xs[i] ys[i]) ?_; try refine nx ?_)
     | (refine cX (fun h => ?_) (fun h => ?_) <;> try exact Ah h)
     | (refine And.intro (by omega) ?_)
     | (refine xm ?_; try refine nx ?_)
     | exact ⟨⟩
     | fail
   ·(refine rt Q108_ok ?_; try with_reducible exact ⟨⟩)
    rw [fT, if_neg (by simp_all)]
   ·have hz : Ad9 xs[i] ys[i] = 0 := by simp_all
    have he := (Hv _ _).1 hz
    refine EV.to (ih (i + 1) ⟨by omega, by omega, ?_⟩ (by omega)) ?_ (List.Sublist.refl _)
    ·rw [List.take_succ_eq_append_getElem aA, List.take_succ_eq_append_getElem bk, aa, he]
    ·exact eE
  ·have dJ : ((ys.length : Int) ≤ i) := by omega
   have pX : ys.drop i = [] := List.drop_eq_nil_of_le (by omega)
   rw [pX, Fh] at fT
   repeat' first
     | refine EV.seq ?_
     | refine rg ?_
     | (refine cX (fun h => ?_) (fun h => ?_) <;> try exact Ah h)
     | (refine And.intro (by omega) ?_)
     | (refine xm ?_; try refine nx ?_)
     | exact ⟨⟩
     | fail
   (refine rt Q108_ok ?_; try with_reducible exact ⟨⟩)
   rw [fT]
 ·have bM : i = xs.length := by omega
  have fE : xs.drop i = [] := List.drop_eq_nil_of_le (by omega)
  have bk : i < ys.length := by omega
  rw [fE, List.drop_eq_getElem_cons bk, Fh] at fT
  (refine rt Q108_ok ?_; try with_reducible exact ⟨⟩)
  rw [fT]
 ·have fE : xs.drop i = [] := List.drop_eq_nil_of_le (by omega)
  have pX : ys.drop i = [] := List.drop_eq_nil_of_le (by omega)
  rw [fE, pX, Fh] at fT
  (refine rt Q108_ok ?_; try with_reducible exact ⟨⟩)
  rw [fT]
end
end Go.EV

namespace Go.EV
open Go.Proofs
theorem execsP_ok {p : List Ev} (hp : POk p) {e : Exec} (h : e ∈ Fx p) : XOk p e := by
 simp only [Fx, K5, Mx, List.mem_flatMap] at h
 obtain ⟨dn, hd, ord, ho, frm, hf, h⟩ := h
 unfold Is at h
 split at h
 ·obtain ⟨h, _⟩ := List.mem_filter.1 h
  obtain ⟨fen, hn, rfl⟩ := List.mem_map.1 h
  exact exec_ok hp hd ho hf (Kj hn)
 ·exact absurd h List.not_mem_nil
def Ab2 (p : List Ev) (outs : List (List Int)) : Prop := outs.Pairwise (fun x y => Fh x y < 0) ∧ ∀ x, x ∈ outs ↔ x ∈ (Fx p).map (Aw p)
end Go.EV

namespace Go.EV
open Go.Proofs
theorem Wh : ∀ {a b : List (List Int)}, a.Pairwise (fun x y => Fh x y < 0) → b.Pairwise (fun x y => Fh x y < 0) → (∀ x, x ∈ a ↔ x ∈ b) → a = b
 | [], [], _, _, _ => rfl
 | [], y :: b, _, _, h => absurd ((h y).2 (List.mem_cons_self ..)) List.not_mem_nil
 | x :: a, [], _, _, h => absurd ((h x).1 (List.mem_cons_self ..)) List.not_mem_nil
 | x :: a, y :: b, ha, hb, h => by
  obtain ⟨a1, a2⟩ := List.pairwise_cons.1 ha
  obtain ⟨b1, b2⟩ := List.pairwise_cons.1 hb
  have dq : x = y := by
   have h1 := (h x).1 (List.mem_cons_self ..)
   have h2 := (h y).2 (List.mem_cons_self ..)
   rcases List.mem_cons.1 h1 with h1 | h1
   ·exact h1
   ·rcases List.mem_cons.1 h2 with h2 | h2
    ·exact h2.symm
    ·have := F0 _ _ _ (a1 y h2) (b1 x h1)
     rw [Ef] at this; omega
  subst dq
  have : a = b := Wh a2 b2 fun z => by
   constructor
   ·intro hz
    rcases List.mem_cons.1 ((h z).1 (List.mem_cons_of_mem _ hz)) with e | e
    ·subst e
     have := a1 z hz
     rw [Ef] at this; omega
    ·exact e
   ·intro hz
    rcases List.mem_cons.1 ((h z).2 (List.mem_cons_of_mem _ hz)) with e | e
    ·subst e
     have := b1 z hz
     rw [Ef] at this; omega
    ·exact e
  rw [this]
def Ab3 (x : List Int) : List (List Int) → List (List Int)
 | [] => [x]
 | y :: l => if Fh x y < 0 then x :: y :: l else if x = y then y :: l else y :: Ab3 x l
theorem Rl {x z : List Int} : ∀ l : List (List Int), z ∈ Ab3 x l ↔ z = x ∨ z ∈ l
 | [] => by simp [Ab3]
 | y :: l => by
  rw [Ab3]
  split
  ·simp
  ·split
   ·rename_i h; subst h; simp
   ·simp only [List.mem_cons, Rl l]
    constructor
    ·rintro (h | h | h)
     ·exact .inr (.inl h)
     ·exact .inl h
     ·exact .inr (.inr h)
    ·rintro (h | h | h)
     ·exact .inr (.inl h)
     ·exact .inl h
     ·exact .inr (.inr h)
theorem Wi {x : List Int} : ∀ {l : List (List Int)}, l.Pairwise (fun x y => Fh x y < 0) → (Ab3 x l).Pairwise (fun x y => Fh x y < 0)
 | [], _ => by simp [Ab3]
 | y :: l, h => by
  obtain ⟨h1, h2⟩ := List.pairwise_cons.1 h
  rw [Ab3]
  split
  ·rename_i hx
   refine List.pairwise_cons.2 ⟨fun z hz => ?_, h⟩
   rcases List.mem_cons.1 hz with rfl | hz
   ·exact hx
   ·exact F0 _ _ _ hx (h1 z hz)
  ·rename_i hx
   split
   ·exact h
   ·rename_i hne
    refine List.pairwise_cons.2 ⟨fun z hz => ?_, Wi h2⟩
    rcases (Rl l).1 hz with rfl | hz
    ·rcases E5 y z with k | k | k
     ·exact k
     ·exact absurd k.symm hne
     ·exact absurd k hx
    ·exact h1 z hz
def Au5 (p : List Ev) : List (List Int) := ((Fx p).map (Aw p)).foldr Ab3 []
theorem Zm (l : List (List Int)) : (l.foldr Ab3 []).Pairwise (fun x y => Fh x y < 0) ∧ ∀ x, x ∈ l.foldr Ab3 [] ↔ x ∈ l := by
 induction l with
 | nil => exact ⟨List.Pairwise.nil, fun x => Iff.rfl⟩
 | cons y l ih => exact ⟨Wi ih.1, fun x => by rw [List.foldr_cons, Rl, ih.2, List.mem_cons]⟩
theorem Cs0 (p : List Ev) : Ab2 p (Au5 p) := Zm _
theorem Ab2.uniq {p : List Ev} {a b : List (List Int)} (h : Ab2 p a) (k : Ab2 p b) : a = b := Wh h.1 k.1 fun x => (h.2 x).trans (k.2 x).symm
theorem Ab2.eq {p : List Ev} {a : List (List Int)} (h : Ab2 p a) : a = Au5 p := h.uniq (Cs0 p)
def Jz : List (List OpV) := [[⟨1, 0, 1, 0, 0⟩, ⟨0, 1, 0, 0, 0⟩], [⟨1, 1, 1, 0, 0⟩, ⟨0, 0, 0, 0, 0⟩]]
theorem buffers_ok : A7 Jz = 0 := by decide +kernel
theorem Ss : Au5 (Al Jz) = [[0, 0, 1, 1, 0], [0, 1, 1, 1, 0], [1, 0, 1, 1, 0], [1, 1, 1, 1, 0]] := by decide +kernel
end Go.EV

namespace Go.EV
open Go.Proofs
variable {P : Program}
theorem Ext.grown {w w' : World} (e : Ext w w') : ∃ q os, w' = Go.Sort.grow (w.drewN q) os := by
 refine ⟨w'.drawn - w.drawn, w'.heap.extract w.heap.size w'.heap.size, ?_⟩
 have h1 : w'.heap = w.heap ++ w'.heap.extract w.heap.size w'.heap.size := by
  apply Array.ext_getElem?
  intro i
  rw [Array.getElem?_append]
  split
  ·rename_i hi; exact e.block i hi
  ·rename_i hi
   rw [Array.getElem?_extract]
   have := e.size
   by_cases h2 : i < w'.heap.size
   ·rw [if_pos (by omega)]; congr 1; omega
   ·rw [if_neg (by omega), Array.getElem?_eq_none (by omega)]
 have h2 := e.os
 have h3 := e.tape
 have h4 := e.output
 obtain ⟨h5, h6⟩ := h3
 cases w' with
 | mk heap' tape' drawn' os' output' =>
  dsimp only at h1 h2 h4 h5 h6 ⊢
  subst h2 h4 h5
  simp only [Go.Sort.grow, World.drewN]
  congr 1
  omega
theorem St.enterIn {w W : World} {F : List Nat} {M : Aa} {G : Own} (hs : St w F M M G w) (h : ∀ b o, M b o → W.heap[b]? = w.heap[b]?) : St W [] M M [] W :=
 St.enter (G := []) (fun b o hb => (h b o hb).trans (hs.agree b o hb)) (fun p hp => by cases hp) (fun p hp => by cases hp) (by simp)
theorem Aq.exact {g : FuncId} {args : Array Value} {M : Aa} {v : Value} (h : Aq P g args M v) {W : World} (hs : St W [] M M [] W) :
  Calls P g args W fun e w' => e = .returned v ∧ ∃ q os', w' = Go.Sort.grow (W.drewN q) os' :=
 (h.2 W hs).mono fun e w' ⟨u, he, M', G', h1, h2⟩ => ⟨by rw [he, h2], (Ext.of_st h1).grown⟩
theorem Li {α : Type} [Inhabited α] (enc : α → Value) (w : World) (b : Nat) (d : Array α) {T : TypeId} {cs : List Value} (hb : w.heap[b]? = some (Cl T cs)) (hl : d.size ≤ cs.length) :
  (Go.Sort.putRow enc w b 0 d).heap[b]? = some (Cl T (d.toList.map enc ++ cs.drop d.size)) := by
 unfold Go.Sort.putRow Go.Sort.mapBlock
 simp only [Array.getElem?_modify, if_true, hb, Option.map_some, Go.Sort.onCells, Option.some.injEq, Obj.cells.injEq, and_true]
 apply Array.ext_getElem?
 intro i
 simp only [Go.Sort.putCells, Array.getElem?_mapIdx, List.getElem?_toArray, Nat.zero_add, Nat.zero_le, true_and, Nat.sub_zero]
 by_cases hi : i < d.size
 ·rw [List.getElem?_append_left (by simpa using hi), List.getElem?_eq_getElem (by omega : i < cs.length)]
  simp [hi]
 ·rw [List.getElem?_append_right (by simpa using (by omega : d.size ≤ i))]
  simp only [hi, if_false, List.length_map, Array.length_toList, List.getElem?_drop]
  rw [show d.size + (i - d.size) = i by omega]
  simp
theorem Hx {α : Type} [Inhabited α] (enc : α → Value) (w : World) (b off : Nat) (d : Array α) {k : Nat} (hk : k ≠ b) : (Go.Sort.putRow enc w b off d).heap[k]? = w.heap[k]? := by
 unfold Go.Sort.putRow Go.Sort.mapBlock
 simp only [Array.getElem?_modify]
 rw [if_neg (fun h => hk h.symm)]
theorem C3 {α : Type} [Inhabited α] (enc : α → Value) (w : World) (b off : Nat) (d : Array α) : (Go.Sort.putRow enc w b off d).heap.size = w.heap.size := by
 simp [Go.Sort.putRow, Go.Sort.mapBlock]
end Go.EV

namespace Go.EV
open Go.Proofs
variable {P : Program}
theorem Su {α : Type} [Inhabited α] (enc : α → Value) {w : World} {b : Nat} {T : TypeId} {xs : List α} {sp : List Value} (hb : w.heap[b]? = some (Cl T (xs.map enc ++ sp))) : Go.Sort.Holds enc w b 0 xs.toArray := by
 intro j hj
 have aM : j < xs.length := by simpa using hj
 constructor
 ·simp only [World.cell?, hb, Option.isSome_none, Nat.zero_add]
  rw [List.getElem?_toArray, List.getElem?_append_left (by simpa using aM)]
  simp [aM]
 ·simp [World.frozen?, hb]
set_option maxHeartbeats 1000000 in
theorem Con.sort {ρ : Go.Shelf.Ren} (L : SlLaysF.n6 P ρ) {α : Type} [Inhabited α] (enc : α → Value) (h1 : ∀ x, (enc x).oneCell' = true) (cf : α → α → Int) (hO : Go.Sort.SWO (ltOf cf)) {g : FuncId} {M : Aa} (hgo : X6 P (ρ.f 6) = true)
  (mT : ∀ x y : α, Aq P g #[enc x, enc y] M (.int .i64 (cf x y))) {b : Nat} {T : TypeId} {xs : List α} {sp : List Value} {c : Nat} (aG : xs.length < 4611686018427387904) :
  Con P (ρ.f 6) #[.slice (some ⟨b, 0, none⟩) xs.length c, .func (.func g) #[] #[]] M [(b, Cl T (xs.map enc ++ sp))] fun v M' G' =>
   v = .tuple #[] ∧ M' = M ∧ ∃ ys : List α, ys.Perm xs ∧ ys.Pairwise (fun x y => ltOf cf y x = false) ∧ G' = [(b, Cl T (ys.map enc ++ sp))] := by
 refine ⟨hgo, fun w hs => ?_⟩
 have hb := hs.own (b, _) (List.mem_singleton_self ..)
 have fF := hs.lt (List.mem_singleton_self ..)
 dsimp only at hb fF
 have hH := Su enc hb
 have fx : ∀ b' o, M b' o → b' ≠ b := fun b' o hm e => hs.sep _ (List.mem_singleton_self ..) o (e ▸ hm)
 have hW : ∀ m os dk, St (sortWorld enc w b 0 m dk os) [] M M [] (sortWorld enc w b 0 m dk os) := fun m os dk => hs.enterIn fun b' o hm => by
  show ((Go.Sort.putRow enc (Go.Sort.ahead w m) b 0 dk).heap ++ os)[b']? = _
  rw [Array.getElem?_append_left (by rw [C3]; exact hs.ltM hm), Hx _ _ _ _ _ (fx b' o hm)]; rfl
 have eB := Any.slices_SortFunc L enc h1 cf hO g #[] b 0 c xs.toArray w (Gc (mT default default).1) (fun m os dk hd x y => by simpa using (mT x y).exact (hW m os dk)) hH fF (by simpa using aG)
 rw [List.size_toArray] at eB
 refine eB.mono ?_
 rintro e w' ⟨rfl, d', n, os, ⟨aN, _, hp⟩, tE, rfl⟩
 have cK : d'.size = xs.length := by simpa using aN
 have bC : d'.toList.Perm xs := by
  have := hp
  rw [show d'.extract 0 xs.length = d' by rw [← cK]; simp, show xs.toArray.extract 0 xs.length = xs.toArray by simp] at this
  simpa using this
 refine ⟨_, rfl, M, [(b, Cl T (d'.toList.map enc ++ sp))], ?_, rfl, rfl, d'.toList, bC, ?_, rfl⟩
 ·have bw := Li enc (Go.Sort.ahead w n) b d' (T := T) (cs := xs.map enc ++ sp) hb (by simp [cK])
  rw [cK, List.drop_left' (by simp)] at bw
  have gu : w.heap.size ≤ (sortWorld enc w b 0 n d' os).heap.size := by
   show _ ≤ ((Go.Sort.putRow enc (Go.Sort.ahead w n) b 0 d').heap ++ os).size
   rw [Array.size_append, C3]; exact Nat.le_add_right _ _
  have ck : ∀ k, k < w.heap.size → k ≠ b → (sortWorld enc w b 0 n d' os).heap[k]? = w.heap[k]? := fun k hk hne => by
   show ((Go.Sort.putRow enc (Go.Sort.ahead w n) b 0 d').heap ++ os)[k]? = _
   rw [Array.getElem?_append_left (by rw [C3]; exact hk), Hx _ _ _ _ _ hne]; rfl
  have hat : (sortWorld enc w b 0 n d' os).heap[b]? = some (Cl T (d'.toList.map enc ++ sp)) := by
   show ((Go.Sort.putRow enc (Go.Sort.ahead w n) b 0 d').heap ++ os)[b]? = _
   rw [Array.getElem?_append_left (by rw [C3]; exact fF)]; exact bw
  refine ⟨rfl, ⟨rfl, Nat.le_add_right _ _⟩, rfl, gu, fun k hk hf => ck k hk (fun e => hf (by simp [e])), fun k o hk => (ck k (hs.ltM hk) (fx k o hk)).trans (hs.agree k o hk), ?_, ?_, ?_, by simp, Aa.le_refl _, fun k o hk => .inl hk⟩
  ·intro p hp; rw [List.mem_singleton] at hp; subst hp; exact hat
  ·intro p hp o hm; rw [List.mem_singleton] at hp; subst hp; exact fx _ _ hm rfl
  ·intro p hp; rw [List.mem_singleton] at hp; subst hp; exact .inl (by simp)
 ·rw [List.pairwise_iff_getElem]
  intro i j hi hj gQ
  have := tE i j (Nat.zero_le _) gQ (by simpa [cK] using hj)
  rw [getElem!_pos d' i (by simpa using hi), getElem!_pos d' j (by simpa using hj)] at this
  simpa using this
theorem Con.sortNone {ρ : Go.Shelf.Ren} (L : SlLaysF0.n6 P ρ) (hgo : X6 P (ρ.f 6) = true) {M : Aa} (p : Option Addr) (cap : Nat) (fv : Value) :
  Con P (ρ.f 6) #[.slice p 0 cap, fv] M [] fun v _ G' => v = .tuple #[] ∧ G' = [] := by
 refine ⟨hgo, fun w hs => (AnyF.slices_SortFunc_none L p cap fv w).mono ?_⟩
 rintro e w' ⟨rfl, rfl⟩
 exact ⟨_, rfl, M, [], hs, rfl, rfl⟩
end Go.EV

namespace Go.Proofs
open Go.Shelf Go.RowKit Go.Lib Go.Sort
def Tryz.sortRows_ren : Go.Shelf.Ren := ⟨fun | 6 => 87 | 15 => 126 | 14 => 125 | 28 => 150 | 29 => 151 | 20 => 142 | 21 => 143 | 22 => 144 | 23 => 145 | 24 => 146 | 25 => 147 | 26 => 148 | 27 => 149 | 46 => 160 | 47 => 161 | 48 => 162 | 49 => 163 | 50 => 164 | 57 => 169 | n => n, fun | 22 => 26 | 24 => 34 | 25 => 138 | 3 => 3 | 39 => 67 | 0 => 0 | 53 => 144 | 55 => 175 | 4 => 4 | 46 => 167 | 45 => 166 | 50 => 171 | 5 => 5 | 9 => 9 | 66 => 181 | 70 => 185 | 76 => 188 | 77 => 189 | n => n, fun | n => n⟩
theorem Tryz.sortRows : Go.Proofs.SlLaysF.n6 Tryz.prog Tryz.sortRows_ren := {
 mixed := by kernel_rfl
 f6 := ⟨Tryz.f87.name, by decide, Tryz.func87.trans (congrArg some (by kernel_rfl))⟩
 f14 := ⟨Tryz.f125.name, by decide, Tryz.func125.trans (congrArg some (by kernel_rfl))⟩
 f15 := Tryz.func126.trans (congrArg some (by kernel_rfl))
 f20 := ⟨Tryz.f142.name, by decide, Tryz.func142.trans (congrArg some (by kernel_rfl))⟩
 f21 := ⟨Tryz.f143.name, by decide, Tryz.func143.trans (congrArg some (by kernel_rfl))⟩
 f22 := ⟨Tryz.f144.name, by decide, Tryz.func144.trans (congrArg some (by kernel_rfl))⟩
 f23 := ⟨Tryz.f145.name, by decide, Tryz.func145.trans (congrArg some (by kernel_rfl))⟩
 f24 := ⟨Tryz.f146.name, by decide, Tryz.func146.trans (congrArg some (by kernel_rfl))⟩
 f25 := ⟨Tryz.f147.name, by decide, Tryz.func147.trans (congrArg some (by kernel_rfl))⟩
 f26 := ⟨Tryz.f148.name, by decide, Tryz.func148.trans (congrArg some (by kernel_rfl))⟩
 f27 := ⟨Tryz.f149.name, by decide, Tryz.func149.trans (congrArg some (by kernel_rfl))⟩
 f28 := Tryz.func150.trans (congrArg some (by kernel_rfl))
 f29 := Tryz.func151.trans (congrArg some (by kernel_rfl))
 f46 := ⟨Tryz.f160.name, by decide, Tryz.func160.trans (congrArg some (by kernel_rfl))⟩
 f47 := Tryz.func161.trans (congrArg some (by kernel_rfl))
 f48 := Tryz.func162.trans (congrArg some (by kernel_rfl))
 f49 := ⟨Tryz.f163.name, by decide, Tryz.func163.trans (congrArg some (by kernel_rfl))⟩
 f50 := ⟨Tryz.f164.name, by decide, Tryz.func164.trans (congrArg some (by kernel_rfl))⟩
 f57 := ⟨Tryz.f169.name, by decide, Tryz.func169.trans (congrArg some (by kernel_rfl))⟩
 t0 := Tryz.underlying0
 a0 := Tryz.isAgg0
 z0 := Tryz.sizeOf0
 v0 := Tryz.zeroValue0
 t3 := Tryz.underlying3
 a3 := Tryz.isAgg3
 z3 := Tryz.sizeOf3
 v3 := Tryz.zeroValue3
 t4 := Tryz.underlying4
 a4 := Tryz.isAgg4
 z4 := Tryz.sizeOf4
 v4 := Tryz.zeroValue4
 t5 := Tryz.underlying5
 a5 := Tryz.isAgg5
 z5 := Tryz.sizeOf5
 v5 := Tryz.zeroValue5
 t9 := Tryz.underlying9
 a9 := Tryz.isAgg9
 z9 := Tryz.sizeOf9
 v9 := Tryz.zeroValue9
 t22 := Tryz.underlying26
 a22 := Tryz.isAgg26
 z22 := Tryz.sizeOf26
 v22 := Tryz.zeroValue26
 a24 := Tryz.isAgg34
 z24 := Tryz.sizeOf34
 t25 := Tryz.underlying138
 a25 := Tryz.isAgg138
 z25 := Tryz.sizeOf138
 v25 := Tryz.zeroValue138
 t39 := Tryz.underlying67
 a39 := Tryz.isAgg67
 z39 := Tryz.sizeOf67
 v39 := Tryz.zeroValue67
 t45 := Tryz.underlying166
 a45 := Tryz.isAgg166
 z45 := Tryz.sizeOf166
 v45 := Tryz.zeroValue166
 t46 := Tryz.underlying167
 a46 := Tryz.isAgg167
 z46 := Tryz.sizeOf167
 v46 := Tryz.zeroValue167
 t50 := Tryz.underlying171
 a50 := Tryz.isAgg171
 z50 := Tryz.sizeOf171
 v50 := Tryz.zeroValue171
 t53 := Tryz.underlying144
 a53 := Tryz.isAgg144
 z53 := Tryz.sizeOf144
 v53 := Tryz.zeroValue144
 t55 := Tryz.underlying175
 a55 := Tryz.isAgg175
 z55 := Tryz.sizeOf175
 v55 := Tryz.zeroValue175
 t66 := Tryz.underlying181
 a66 := Tryz.isAgg181
 z66 := Tryz.sizeOf181
 v66 := Tryz.zeroValue181
 t70 := Tryz.underlying185
 a70 := Tryz.isAgg185
 z70 := Tryz.sizeOf185
 v70 := Tryz.zeroValue185
 t76 := Tryz.underlying188
 a76 := Tryz.isAgg188
 z76 := Tryz.sizeOf188
 v76 := Tryz.zeroValue188
 t77 := Tryz.underlying189
 a77 := Tryz.isAgg189
 z77 := Tryz.sizeOf189
 v77 := Tryz.zeroValue189 }
end Go.Proofs
namespace Go.EV
open Go.Proofs
def Bo (M : Aa) : Type := { p : Value × List Int // SlC M 1 ei p.1 p.2 ∧ p.2.length < 1000000 }
instance (M : Aa) : Inhabited (Bo M) := ⟨⟨(.slice none 0 0, []), ⟨none, 0, rfl, Nat.le_refl _, .inl ⟨rfl, rfl⟩⟩, by decide⟩⟩
def Bo.v {M : Aa} (r : Bo M) : Value := r.1.1
def Bo.xs {M : Aa} (r : Bo M) : List Int := r.1.2
theorem Bo.one {M : Aa} (r : Bo M) : r.v.oneCell' = true := by
 obtain ⟨⟨v, xs⟩, ⟨a, c, h, _⟩, _⟩ := r
 show Value.oneCell' v = true
 dsimp only at h; rw [h]; rfl
theorem Au6 (M : Aa) : Go.Sort.SWO (ltOf fun x y : Bo M => Fh x.xs y.xs) where
 irrefl x := by simp [ltOf, Ef]
 trans x y z h1 h2 := by
  simp only [ltOf, decide_eq_true_eq] at *
  exact F0 _ _ _ h1 h2
 ntrans x y z h1 h2 := by
  simp only [ltOf, decide_eq_false_iff_not] at *
  intro h3
  rcases E5 x.xs y.xs with h | h | h
  ·exact h1 h
  ·rw [h] at h3; exact h2 h3
  ·exact h2 (F0 _ _ _ h h3)
section
variable {M : Aa}
theorem Zn {b : Nat} {T : TypeId} {rs : List (Bo M)} {sp : List Value} {c : Nat} (hl : rs.length < 1000000000000) :
  Con Tryz.prog 87 #[.slice (some ⟨b, 0, none⟩) rs.length c, .func (.func 88) #[] #[]] M [(b, Cl T (rs.map Bo.v ++ sp))] fun v M' G' =>
   v = .tuple #[] ∧ M' = M ∧ ∃ ys : List (Bo M), ys.Perm rs ∧ ys.Pairwise (fun x y => ¬ Fh y.xs x.xs < 0) ∧ G' = [(b, Cl T (ys.map Bo.v ++ sp))] := by
 have h := Con.sort (P := Tryz.prog) Tryz.sortRows (M := M) Bo.v Bo.one (fun x y => Fh x.xs y.xs) (Au6 M) (g := 88) rfl
  (fun x y => Sr x.xs y.xs x.v y.v x.2.1.sl y.2.1.sl x.2.2 y.2.2) (b := b) (T := T) (xs := rs) (sp := sp) (c := c) (by omega)
 refine ⟨h.1, fun w hs => (h.2 w hs).mono ?_⟩
 rintro e w' ⟨v, he, M', G', aV, rfl, rfl, ys, h1, h2, h3⟩
 refine ⟨_, he, _, G', aV, rfl, rfl, ys, h1, h2.imp fun {x y} h => by simpa [ltOf] using h, h3⟩
end
end Go.EV

namespace Go.EV
open Go.Proofs
theorem Bo.slice {M : Aa} (r : Bo M) : ∃ a n c, r.v = .slice a n c := by
 obtain ⟨⟨v, xs⟩, ⟨a, c, h, _⟩, _⟩ := r
 exact ⟨a, xs.length, c, h⟩
section
variable {M : Aa}
def J8 (l : List (Bo M)) : Nat → List (Bo M)
 | 0 => []
 | n + 1 => J8 l n ++ (if n = 0 ∨ (l[n]!).xs ≠ (l[n - 1]!).xs then [l[n]!] else [])
def Xm (l : List (Bo M)) : List (Bo M) := J8 l l.length
theorem Au7 {α : Type} (f : α → Value) (xs : List α) (sp : List Value) {i : Nat} (hi : i < xs.length) (x : α) : (xs.map f ++ sp).take i ++ (f x :: (xs.map f ++ sp).drop (i + 1)) = (xs.set i x).map f ++ sp := by
 rw [List.take_append_of_le_length (by rw [List.length_map]; omega), List.drop_append_of_le_length (by rw [List.length_map]; omega), ← List.cons_append, ← List.append_assoc, Ar f xs hi x]
theorem Gt {l : List (Bo M)} {i : Nat} (h : i < l.length) : l[i]! = l[i] := getElem!_pos l i h
set_option maxHeartbeats 4000000 in
theorem Sv {b : Nat} {T : TypeId} {l : List (Bo M)} {sp : List Value} {c : Nat} (hl : l.length < 1000000000000) (hc : c = l.length + sp.length) :
  Con Tryz.prog 89 #[.slice (some ⟨b, 0, none⟩) l.length c, .func (.func 41) #[] #[]] M [(b, Cl T (l.map Bo.v ++ sp))] fun v M' G' =>
   M' = M ∧ ∃ sp', v = .slice (some ⟨b, 0, none⟩) (Xm l).length c ∧ G' = [(b, Cl T ((Xm l).map Bo.v ++ sp'))] ∧ c = (Xm l).length + sp'.length := by
 have kz : ∀ (x y : Bo M) (G : Own), Aq Tryz.prog 41 #[x.v, y.v] (M.add G) (vb (decide (x.xs = y.xs))) := fun x y G =>
  Pl x.xs y.xs x.v y.v (x.2.1.sl.mono (Aa.le_add _ _)) (y.2.1.sl.mono (Aa.le_add _ _)) x.2.2 y.2.2
 refine Con.enter Q107_ok (args := [.slice (some ⟨b, 0, none⟩) l.length c, .func (.func 41) #[] #[]]) (by simp [Bw9]) fun w0 => ?_
 simp only [Bw9, A5]
 repeat' first
   | refine EV.seq ?_
   | refine EV.skip ?_
   | refine EV.block ?_
   | refine rg ?_
   | (refine cX (fun h => ?_) (fun h => ?_) <;> try exact Ah h)
   | exact ⟨⟩
   | fail
 ·have aO : Xm l = l := by
   rcases l with _ | ⟨x, _ | ⟨y, l⟩⟩
   ·rfl
   ·simp [Xm, J8]
   ·exfalso; simp at h; omega
  (refine rt Q107_ok ?_; try with_reducible exact ⟨⟩)
  rw [aO]; first | exact ⟨rfl, sp, rfl, hc⟩ | exact ⟨sp, rfl, hc⟩ | exact ⟨sp, hc⟩ | exact ⟨sp, c, rfl, rfl, hc⟩ | exact ⟨rfl, sp, c, rfl, rfl, hc⟩ | exact ⟨sp, c, rfl, hc⟩ | fail
 ·have h2 : 2 ≤ l.length := by omega
  refine EV.loopTo (fun i : Nat => ([(0, .slice (some ⟨b, 0, none⟩) l.length c), (1, .func (.func 41) #[] #[]), (5, vi i)], M, [(b, Cl T (l.map Bo.v ++ sp))])) (fun i => 1 ≤ i ∧ i ≤ l.length ∧ J8 l i = l.take i) (fun i => l.length - i) 1 rfl ⟨Nat.le_refl _, by omega, by rw [J8, J8, if_pos (.inl rfl), Gt (by omega), List.nil_append]; cases l with | nil => simp at h2 | cons x l => rfl⟩ ?env1 (List.Sublist.refl _) ?_
  case env1 =>
   exact eE
  rintro i ⟨qu, hi, kw⟩ ih
  dsimp only at qu hi kw ih ⊢
  repeat' first
    | refine EV.seq ?_
    | refine EV.skip ?_
    | refine EV.block ?_
    | refine rg ?_
    | (refine cX (fun h => ?_) (fun h => ?_) <;> try exact Ah h)
    | (refine EV.exit rfl ?_)
    | exact ⟨⟩
    | fail
  ·have aA : i < l.length := by omega
   have aq : IntKind.i64.wrap ((i : Int) - 1) = ((i - 1 : Nat) : Int) := by rw [w64 (by omega) (by omega)]; omega
   have aW := V0 (M := M) (G := [(b, Cl T (l.map Bo.v ++ sp))]) (b := b) (T := T) (f := Bo.v) (xs := l) (sp := sp) aA
   have aS := V0 (M := M) (G := [(b, Cl T (l.map Bo.v ++ sp))]) (b := b) (T := T) (f := Bo.v) (xs := l) (sp := sp) (i := i - 1) (by omega)
   obtain ⟨a1, n1, c1, e1⟩ := (l[i]).slice
   obtain ⟨a2, n2, c2, e2⟩ := (l[i - 1]'(by omega)).slice
   have hq := kz l[i] (l[i - 1]'(by omega))
   rw [e1, e2] at hq
   rw [e1] at aW
   rw [e2] at aS
   have gv : J8 l (i + 1) = J8 l i ++ (if (l[i]).xs ≠ (l[i - 1]'(by omega)).xs then [l[i]] else []) := by
    rw [J8, Gt aA, Gt (show i - 1 < l.length by omega)]
    simp only [show ¬ i = 0 by omega, false_or]
   refine EV.any (t := Vv) [(b, Cl T (l.map Bo.v ++ sp))] (List.Sublist.refl _) ?_
   simp only [Ao, As, Am, Au, reduceIte, Nat.reduceEqDiff]
   by_cases aa : (l[i]).xs = (l[i - 1]'(by omega)).xs
   ·have hd : decide ((l[i]).xs = (l[i - 1]'(by omega)).xs) = true := decide_eq_true aa
    rw [hd] at hq
    rw [if_neg (by simpa using aa), List.append_nil, kw] at gv
    refine Cr2 (t := Vv) rfl (fun lq tq aB aE => ?_)
    repeat' first
      | ((first | refine zo (fun lq aB => ?_) | refine zl ?_ | fail); (repeat first | refine nz ?_ | simp only [aq]))
      | refine zq (fun lq tq aB aE => ?_)
      | ((first | refine Aq.call (hq _) ?_ | refine Exists.intro _ (Exists.intro _ (Exists.intro _ (And.intro (aW) ?_))) | refine Exists.intro _ (Exists.intro _ (Exists.intro _ (And.intro (aS) ?_))) | fail); (repeat first | refine nz ?_ | simp only [aq]))
      | (refine Ec (by first | with_reducible assumption | rfl) (fun tq aE => ?_) (fun tq aE => ?_) <;> (repeat first | refine nz ?_ | simp only [aq]))
      | exact zn
      | refine zf ?_
      | (refine And.intro (by omega) ?_)
      | fail
    repeat' first
      | refine EV.seq ?_
      | refine rg ?_
      | (refine cX (fun h => ?_) (fun h => ?_) <;> try exact Ah h)
      | exact ⟨⟩
      | fail
    simp only [Option.map_some, Cb]
    refine ⟨i, rfl, by omega, by omega, Or.inr rfl, ?_⟩
    obtain ⟨ro, bJ, ero⟩ := Qo (wb := b) (wo := 0) (n := l.length) (c := c) (i := i) (by omega)
    have ju : ro = i := by have := bJ aA; omega
    subst ju
    rw [ero]
    clear bJ ero
    repeat' first
      | refine EV.seq ?_
      | refine EV.block ?_
      | refine rg ?_
      | exact ⟨⟩
      | fail
    have km : (J8 l (ro + 1)).length = ro := by rw [gv, List.length_take]; omega
    refine EV.loopTo (fun x : Nat × List (Bo M) => ([(0, .slice (some ⟨b, 0, none⟩) l.length c), (1, .func (.func 41) #[] #[]), (5, vi (J8 l (ro + x.1)).length), (6, .slice (some ⟨b, ro, none⟩) (l.length - ro) (c - ro)), (7, vi x.1)], M, [(b, Cl T (x.2.map Bo.v ++ sp))]))
     (fun x => 1 ≤ x.1 ∧ ro + x.1 ≤ l.length ∧ x.2.length = l.length ∧ x.2.take (J8 l (ro + x.1)).length = J8 l (ro + x.1) ∧ (J8 l (ro + x.1)).length + 1 ≤ ro + x.1 ∧ ∀ j, ro + x.1 ≤ j + 1 → x.2[j]? = l[j]?) (fun x => l.length - (ro + x.1)) (1, l) rfl ⟨Nat.le_refl _, by dsimp only; omega, rfl, by dsimp only; rw [km, gv], by dsimp only; omega, fun j _ => rfl⟩ ?env2 (List.Sublist.refl _) ?_
    case env2 =>
     simp only [km]
     exact eE
    rintro ⟨k, C⟩ ⟨cG, hk, nZ, n5, tF, mU⟩ ih2
    dsimp only at cG hk nZ n5 tF mU ih2 ⊢
    repeat' first
      | refine EV.seq ?_
      | refine EV.skip ?_
      | refine EV.block ?_
      | refine rg ?_
      | (refine cX (fun h => ?_) (fun h => ?_) <;> try exact Ah h)
      | (refine EV.exit rfl ?_)
      | exact ⟨⟩
      | fail
    ·have a8 : ro + k < l.length := by omega
     have g1 : C[ro + k]'(by omega) = l[ro + k] := by
      have := mU (ro + k) (by omega)
      rw [List.getElem?_eq_getElem (by omega), List.getElem?_eq_getElem a8] at this
      exact Option.some.inj this
     have g2 : C[ro + (k - 1)]'(by omega) = l[ro + (k - 1)]'(by omega) := by
      have := mU (ro + (k - 1)) (by omega)
      rw [List.getElem?_eq_getElem (by omega), List.getElem?_eq_getElem (by omega)] at this
      exact Option.some.inj this
     have dM : IntKind.i64.wrap ((k : Int) - 1) = ((k - 1 : Nat) : Int) := by rw [w64 (by omega) (by omega)]; omega
     have cu := V0 (M := M) (G := [(b, Cl T (C.map Bo.v ++ sp))]) (b := b) (T := T) (f := Bo.v) (xs := C) (sp := sp) (i := ro + k) (by omega)
     have fw := V0 (M := M) (G := [(b, Cl T (C.map Bo.v ++ sp))]) (b := b) (T := T) (f := Bo.v) (xs := C) (sp := sp) (i := ro + (k - 1)) (by omega)
     rw [g1] at cu
     rw [g2] at fw
     obtain ⟨a3, n3, c3, e3⟩ := (l[ro + k]).slice
     obtain ⟨a4, n4, c4, e4⟩ := (l[ro + (k - 1)]'(by omega)).slice
     have kL := kz l[ro + k] (l[ro + (k - 1)]'(by omega))
     rw [e3, e4] at kL
     rw [e3] at cu
     rw [e4] at fw
     have fG : J8 l (ro + (k + 1)) = J8 l (ro + k) ++ (if (l[ro + k]).xs ≠ (l[ro + (k - 1)]'(by omega)).xs then [l[ro + k]] else []) := by
      rw [← Nat.add_assoc, J8, Gt a8, Gt (show ro + k - 1 < l.length by omega)]
      simp only [show ¬ ro + k = 0 by omega, false_or, show ro + k - 1 = ro + (k - 1) by omega]
     refine EV.any (t := Vw) [(b, Cl T (C.map Bo.v ++ sp))] (List.Sublist.refl _) ?_
     simp only [Ao, As, Am, Au, reduceIte, Nat.reduceEqDiff]
     by_cases d8 : (l[ro + k]).xs = (l[ro + (k - 1)]'(by omega)).xs
     ·have iJ : decide ((l[ro + k]).xs = (l[ro + (k - 1)]'(by omega)).xs) = true := decide_eq_true d8
      rw [iJ] at kL
      rw [if_neg (by simpa using d8), List.append_nil] at fG
      refine Cr2 (t := Vw) rfl (fun lq tq aB aE => ?_)
      repeat' first
        | ((first | refine zo (fun lq aB => ?_) | refine zl ?_ | fail); (repeat first | refine nz ?_ | simp only [dM]))
        | refine zq (fun lq tq aB aE => ?_)
        | ((first | refine Aq.call (kL _) ?_ | refine Exists.intro _ (Exists.intro _ (Exists.intro _ (And.intro (cu) ?_))) | refine Exists.intro _ (Exists.intro _ (Exists.intro _ (And.intro (fw) ?_))) | fail); (repeat first | refine nz ?_ | simp only [dM]))
        | (refine Ec (by first | with_reducible assumption | rfl) (fun tq aE => ?_) (fun tq aE => ?_) <;> (repeat first | refine nz ?_ | simp only [dM]))
        | exact zn
        | refine zf ?_
        | (refine And.intro (by omega) ?_)
        | fail
      repeat' first
        | refine EV.skip ?_
        | refine EV.inBlock ?_
        | refine rg ?_
        | (refine cX (fun h => ?_) (fun h => ?_) <;> try exact Ah h)
        | exact ⟨⟩
        | fail
      refine EV.to (ih2 (k + 1, C) ⟨by dsimp only; omega, by dsimp only; omega, nZ, by dsimp only; rw [fG]; exact n5, by dsimp only; rw [fG]; omega, fun j hj => mU j (by dsimp only at hj; omega)⟩ (by dsimp only; omega)) ?_ (List.Sublist.refl _)
      simp only [fG]
      exact eE
     ·have iJ : decide ((l[ro + k]).xs = (l[ro + (k - 1)]'(by omega)).xs) = false := decide_eq_false d8
      rw [iJ] at kL
      rw [if_pos d8] at fG
      refine Cr2 (t := Vw) rfl (fun lq tq aB aE => ?_)
      repeat' first
        | ((first | refine zo (fun lq aB => ?_) | refine zl ?_ | fail); (repeat first | refine nz ?_ | simp only [dM]))
        | refine zq (fun lq tq aB aE => ?_)
        | ((first | refine Aq.call (kL _) ?_ | refine Exists.intro _ (Exists.intro _ (Exists.intro _ (And.intro (cu) ?_))) | refine Exists.intro _ (Exists.intro _ (Exists.intro _ (And.intro (fw) ?_))) | fail); (repeat first | refine nz ?_ | simp only [dM]))
        | (refine Ec (by first | with_reducible assumption | rfl) (fun tq aE => ?_) (fun tq aE => ?_) <;> (repeat first | refine nz ?_ | simp only [dM]))
        | exact zn
        | refine zf ?_
        | (refine And.intro (by omega) ?_)
        | fail
      repeat' first
        | refine EV.seq ?_
        | refine rg ?_
        | (refine cX (fun h => ?_) (fun h => ?_) <;> try exact Ah h)
        | (refine And.intro (by omega) ?_)
        | (refine Exists.intro _ (Exists.intro _ (Exists.intro _ (And.intro (by assumption) ?_))); try refine nx ?_)
        | (refine xw ?_; refine nx ?_)
        | exact ⟨⟩
        | fail
      refine ⟨by rw [List.length_append, List.length_map]; omega, ?_⟩
      rw [← e3, Au7 Bo.v C sp (show (J8 l (ro + k)).length < C.length by omega)]
      have kM : (J8 l (ro + (k + 1))).length = (J8 l (ro + k)).length + 1 := by rw [fG, List.length_append, List.length_singleton]
      repeat' first
        | refine EV.inBlock ?_
        | refine rg ?_
        | exact ⟨⟩
        | fail
      refine EV.to (ih2 (k + 1, C.set (J8 l (ro + k)).length l[ro + k]) ⟨by dsimp only; omega, by dsimp only; omega, by rw [List.length_set]; exact nZ, ?_, by dsimp only; rw [kM]; omega, fun j hj => ?_⟩ (by dsimp only; omega)) ?_ (List.Sublist.refl _)
      ·dsimp only
       rw [kM, fG, List.take_succ_eq_append_getElem (by rw [List.length_set]; omega), List.getElem_set_self, List.take_set, List.set_eq_of_length_le (by rw [List.length_take]; omega), n5]
      ·dsimp only at hj ⊢
       rw [List.getElem?_set_ne (by omega)]; exact mU j (by omega)
      ·simp only [kM]
       exact eE
    ·have dY : ro + k = l.length := by omega
     have tG : Xm l = J8 l (ro + k) := by rw [Xm, dY]
     generalize hm : J8 l (ro + k) = m at *
     simp only [Option.map_some, Cb]
     refine ⟨m.length, rfl, by omega, by omega, Or.inr rfl, ?_⟩
     obtain ⟨r2, kE, er2⟩ := Qo (wb := b) (wo := 0) (n := l.length) (c := c) (i := m.length) (by omega)
     have cu : r2 = m.length := by have := kE (by omega); omega
     subst cu
     rw [er2]
     refine Or.inr ⟨b, m.length, rfl, by omega, T, C.map Bo.v ++ sp, [], [], rfl, by rw [List.length_append, List.length_map]; omega, ?_⟩
     have tH : (C.map Bo.v ++ sp).take m.length = m.map Bo.v := by
      rw [List.take_append_of_le_length (by rw [List.length_map]; omega), ← List.map_take, n5]
     rw [tH]
     have mV : (C.map Bo.v ++ sp).length = l.length + sp.length := by rw [List.length_append, List.length_map, nZ]
     generalize aw : (List.replicate (l.length - m.length) (Value.slice none 0 0) ++ List.drop (m.length + (List.replicate (l.length - m.length) (Value.slice none 0 0)).length) (C.map Bo.v ++ sp)) = sp'
     have fy : c = m.length + sp'.length := by
      rw [← aw, List.length_append, List.length_drop, mV, List.length_replicate]; omega
     rw [List.nil_append]
     repeat' first
       | refine EV.seq ?_
       | refine rg ?_
       | exact ⟨⟩
       | fail
     simp only [Option.map_some, Cb]
     refine ⟨m.length, rfl, by omega, Or.inl rfl, ?_⟩
     rw [At4]
     repeat' first
       | fail
     (refine rt Q107_ok ?_; try with_reducible exact ⟨⟩)
     rw [tG]; first | exact ⟨rfl, sp', rfl, fy⟩ | exact ⟨sp', rfl, fy⟩ | exact ⟨sp', fy⟩ | exact ⟨sp', c, rfl, rfl, fy⟩ | exact ⟨rfl, sp', c, rfl, rfl, fy⟩ | exact ⟨sp', c, rfl, fy⟩ | fail
   ·have hd : decide ((l[i]).xs = (l[i - 1]'(by omega)).xs) = false := decide_eq_false aa
    rw [hd] at hq
    rw [if_pos aa, kw, ← List.take_succ_eq_append_getElem aA] at gv
    refine Cr2 (t := Vv) rfl (fun lq tq aB aE => ?_)
    repeat' first
      | ((first | refine zo (fun lq aB => ?_) | refine zl ?_ | fail); (repeat first | refine nz ?_ | simp only [aq]))
      | refine zq (fun lq tq aB aE => ?_)
      | ((first | refine Aq.call (hq _) ?_ | refine Exists.intro _ (Exists.intro _ (Exists.intro _ (And.intro (aW) ?_))) | refine Exists.intro _ (Exists.intro _ (Exists.intro _ (And.intro (aS) ?_))) | fail); (repeat first | refine nz ?_ | simp only [aq]))
      | (refine Ec (by first | with_reducible assumption | rfl) (fun tq aE => ?_) (fun tq aE => ?_) <;> (repeat first | refine nz ?_ | simp only [aq]))
      | exact zn
      | refine zf ?_
      | (refine And.intro (by omega) ?_)
      | fail
    repeat' first
      | refine EV.skip ?_
      | refine EV.inBlock ?_
      | refine rg ?_
      | (refine cX (fun h => ?_) (fun h => ?_) <;> try exact Ah h)
      | exact ⟨⟩
      | fail
    refine EV.to (ih (i + 1) ⟨by omega, by omega, gv⟩ (by omega)) ?_ (List.Sublist.refl _)
    exact eE
  ·have bM : i = l.length := by omega
   subst bM
   have aO : Xm l = l := by rw [Xm, kw, List.take_length]
   (refine rt Q107_ok ?_; try with_reducible exact ⟨⟩)
   rw [aO]; first | exact ⟨rfl, sp, rfl, hc⟩ | exact ⟨sp, rfl, hc⟩ | exact ⟨sp, hc⟩ | exact ⟨sp, c, rfl, rfl, hc⟩ | exact ⟨rfl, sp, c, rfl, rfl, hc⟩ | exact ⟨sp, c, rfl, hc⟩ | fail
end
end Go.EV
