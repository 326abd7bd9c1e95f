/- Part of the proof of a statement about executions of litmus programs: walks and laws. -/
import Derived.Test.YtmgnpoleilcjoaaGreatVPac
import Derived.Shelf.GgSortFunc.Insertion
import Derived.Shelf.SlSortCmp.NoneTotal
import Derived.Shelf.SlGeneric
import Derived.Ground.SlsfProg
set_option maxRecDepth 8000
set_option linter.unusedSimpArgs false
set_option linter.unusedVariables false
set_option linter.unusedSectionVars false
namespace Go.EV
open Go.Proofs
def Bj (p : List Ev) : List Int := Cr p.length fun i => decide ((evAt p i).op.kind = 3) || decide ((evAt p i).op.kind = 4)
def J7 (p : List Ev) : Nat → List Bool
 | 0 => List.replicate p.length false
 | i + 1 => (J7 p i).set i (decide ((evAt p i).op.kind = 1) || decide ((evAt p i).op.kind = 2))
def Jj (p : List Ev) (set : Nat) : Nat → List Bool
 | 0 => J7 p p.length
 | k + 1 => (Jj p set k).set (Ad (Bj p) k).toNat (set.testBit k)
def Ig (p : List Ev) (set : Nat) : List Bool := Jj p set (Bj p).length
def Kq (p : List Ev) : List (List Bool) := (List.range (2 ^ (Bj p).length)).map (Ig p)
theorem Jk (p : List Ev) : ∀ i, (J7 p i).length = p.length
 | 0 => by simp [J7]
 | i + 1 => by simp [J7, Jk p i]
theorem Jl (p : List Ev) (set : Nat) : ∀ k, (Jj p set k).length = p.length
 | 0 => Jk p _
 | k + 1 => by simp [Jj, Jl p set k]
theorem Ex (p : List Ev) (set : Nat) : (Ig p set).length = p.length := Jl p set _
theorem Cl2 {x : Nat} : BitVec.ofInt IntKind.i64.bits (x : Int) = (BitVec.ofNat 64 x : BitVec IntKind.i64.bits) := BitVec.ofInt_natCast 64 x
theorem Ar9 {x b : Nat} (hx : x < 2 ^ 62) (hb : b < 64) : decide (IntKind.i64.wrap ((BitVec.ofInt IntKind.i64.bits ((x : Int).fdiv (2 ^ min b IntKind.i64.bits)) &&& BitVec.ofInt IntKind.i64.bits 1).toNat : Int) = 1) = x.testBit b := by
 have e0 : min b IntKind.i64.bits = b := Nat.min_eq_left (show b ≤ 64 by omega)
 rw [e0]
 have e1 : (x : Int).fdiv (2 ^ b) = ((x / 2 ^ b : Nat) : Int) := by
  rw [Int.fdiv_eq_ediv_of_nonneg _ (by exact_mod_cast Nat.zero_le _)]; simp
 have hd : x / 2 ^ b < 2 ^ 64 := Nat.lt_of_le_of_lt (Nat.div_le_self _ _) (Nat.lt_trans hx (by decide))
 rw [e1, Cl2]
 have e : (BitVec.ofNat 64 (x / 2 ^ b) &&& BitVec.ofInt 64 1).toNat = (x / 2 ^ b) % 2 := by
  rw [BitVec.toNat_and, BitVec.toNat_ofNat, Nat.mod_eq_of_lt hd]
  show (x / 2 ^ b) &&& 1 = _
  exact Nat.and_one_is_mod _
 show decide (IntKind.i64.wrap ((BitVec.ofNat 64 (x / 2 ^ b) &&& BitVec.ofInt 64 1).toNat : Int) = 1) = _
 rw [e, w64 (by omega) (by omega)]
 rw [Nat.testBit_eq_decide_div_mod_eq]
 simp only [decide_eq_decide]
 omega
theorem As0 {b : Nat} (hb : b < 62) : IntKind.i64.wrap (1 * 2 ^ min b IntKind.i64.bits) = ((2 ^ b : Nat) : Int) := by
 have e0 : min b IntKind.i64.bits = b := Nat.min_eq_left (show b ≤ 64 by omega)
 rw [e0, Int.one_mul]
 have h : 2 ^ b < 2 ^ 62 := Nat.pow_lt_pow_right (by decide) hb
 rw [show ((2 : Int) ^ b) = ((2 ^ b : Nat) : Int) from by simp]
 generalize 2 ^ b = y at *
 exact w64 (by omega) (by omega)
def ElB (x : List Bool) (v : Value) (M : Aa) : Prop := SlC M 1 eb v x
section
variable {M : Aa}
theorem Qa (p : List Ev) {pb po pc b1 : Nat} (h1 : rd M b1 0 1 [.slice (some ⟨pb, po, none⟩) p.length pc]) (i : Nat) (hi : i < p.length) (hp : rd M pb (po + i * 6) 6 (A2 (evAt p i))) :
  Aq Tryz.prog 108 #[vi i, pv b1 0] M (vb (decide ((evAt p i).op.kind = 3) || decide ((evAt p i).op.kind = 4))) := by
 have hp0 := hp.pt 0 1 (by omega) rfl
 have hi' : (i : Int) < p.length := by omega
 refine Con.enter Q14_ok (args := [vi i, pv b1 0]) (by simp [Q14]) fun w0 => ?_
 simp only [Q14, A3]
 repeat' first
   | refine EV.seq ?_
   | refine rg ?_
   | with_reducible assumption
   | (refine Az.merge ?_ (fun hc K' hK => ?_) ?_; rotate_left)
   | refine rt Q14_ok ?_
   | (refine And.intro (by omega) ?_)
   | ((first | refine xm ?_ | refine xn ?_ | fail); try refine nx ?_)
   | exact ⟨⟩
   | fail
 all_goals simp_all
set_option maxHeartbeats 4000000 in
theorem T5 (p : List Ev) (hpl : p.length ≤ 32) {ps : Value} {pb : Nat} (hps : Sl M 6 A2 ps p) (h1 : rd M pb 0 1 [ps]) : Yn Tryz.prog 107 #[] #[pv pb 0] M (Kq p) ElB := by
 intro ly I S M1 G hM hmono hy xs hI
 have h1' := h1.mono hM
 have hps1 := hps.mono hM
 obtain ⟨ea, ec, rfl, hpr⟩ := hps1
 refine Con.enter Q13_ok (args := [yv ly, pv pb 0]) (by simp [Q13]) fun w0 => ?_
 simp only [Q13, A3]
 repeat' first
   | refine EV.seq ?_
   | refine rg ?_
   | (refine xn ?_; try refine nx ?_)
   | exact ⟨⟩
   | fail
 refine Con.callB (G1 := []) (Jg p _ ⟨ea, ec, rfl, hpr.mono (Aa.le_add _ _)⟩ (by omega) _ _ (fun i => decide ((evAt p i).op.kind = 3) || decide ((evAt p i).op.kind = 4)) ?_) (Aa.le_refl _) (List.Perm.refl _) ?_
 ·intro M' hM' i hi
  obtain ⟨eb1, eo, rfl, hat⟩ := Sl.at (enc := A2) (fun _ => rfl) (by decide) hpr (by omega)
  have hle := Aa.le_trans (Aa.le_add M1 G) hM'
  exact Qa p (h1'.mono hle) i hi ((Sl.evAt hat i hi).mono hle)
 rintro v M' G' ⟨of, rfl, hof, rfl⟩
 change E7 1 of (Bj p).length ((Bj p).map vi) at hof
 have hfi : He p (Bj p) := fun x hx => by
  obtain ⟨i, h1, _, rfl⟩ := Dj.1 hx; omega
 have hfl : (Bj p).length ≤ p.length := Bw _ _
 rw [show Cr p.length (fun i => decide ((evAt p i).op.kind = 3) || decide ((evAt p i).op.kind = 4)) = Bj p from rfl]
 have hneg : ¬ (((Bj p).length : Int) < 0) := by omega
 have hshl := As0 (b := (Bj p).length) (by omega)
 have h2n : 2 ^ (Bj p).length ≤ 2 ^ 32 := Nat.pow_le_pow_right (by decide) (by omega)
 repeat' first
   | fail
 refine EV.keep G ?_
 generalize hR : M1.add _ = N
 have hMN : M1.le N := hR ▸ Aa.le_add _ _
 have hrf : rdS N 1 (oad of) (Bj p).length ((Bj p).map vi) := hR ▸ D7 (T := 3) hof (fun q hq => by simpa using hq)
 have h1N := h1'.mono hMN
 have hIN := hmono _ _ _ _ hMN hI
 clear hR
 repeat' first
   | refine EV.seq ?_
   | refine EV.block ?_
   | (refine EV.reg ?_; (conv => (arg 2; whnf)); (repeat first | refine nx ?_ | simp only [hneg, hshl]))
   | fail
 have hcast : (2 : Int) ^ (Bj p).length = ((2 ^ (Bj p).length : Nat) : Int) := by simp
 generalize hn2 : 2 ^ (Bj p).length = n2 at *
 refine EV.loopTo (fun x : Nat × Aa × Own => ([(0, yv ly), (1, pv pb 0), (3, osv of (Bj p).length), (15, vi n2), (16, vi x.1)], x.2.1, x.2.2))
  (fun x => x.1 ≤ n2 ∧ N.le x.2.1 ∧ I (xs ++ (List.range x.1).map (Ig p)) x.2.1 x.2.2) (fun x => n2 - x.1) (0, N, G) rfl ⟨Nat.zero_le _, Aa.le_refl _, by simpa using hIN⟩ ?env1 (List.Sublist.refl _) ?_
 case env1 =>
  simp only [hcast]
  exact eE
 rintro ⟨set, Mi, Gi⟩ ⟨hset, hMi, hIi⟩ ih
 dsimp only at hset hMi hIi ih ⊢
 repeat' first
   | refine EV.seq ?_
   | refine EV.skip ?_
   | refine EV.block ?_
   | refine rg ?_
   | (refine cX (fun h => ?_) (fun h => ?_) <;> try exact Ah h)
   | (refine EV.exit rfl ?_)
   | exact ⟨⟩
   | fail
 ·have h1i := h1N.mono hMi
  repeat' first
    | refine EV.seq ?_
    | refine EV.block ?_
    | (refine EV.reg ?_; (conv => (arg 2; whnf)); (repeat first | refine nx ?_ | simp only [A1]))
    | (with_reducible intro b; (repeat first | refine nx ?_ | simp only [A1]))
    | (refine And.intro (by omega) ?_)
    | (refine xn ?_; (repeat first | refine nx ?_ | simp only [A1]))
    | fail
  rename Nat => db
  refine EV.loopTo (fun i : Nat => ([(0, yv ly), (1, pv pb 0), (3, osv of (Bj p).length), (4, vi set), (5, A8 db p.length p.length), (15, vi n2), (16, vi set), (22, .slice ea p.length ec), (23, vi p.length), (24, vi i)], Mi, (db, Cl 4 ((J7 p i).map vb)) :: Gi))
   (fun i => i ≤ p.length) (fun i => p.length - i) 0 rfl (Nat.zero_le _) ?env2 ?sub2 ?_
  case env2 =>
   exact eE
  case sub2 =>
   simp only [J7, List.map_replicate]
   exact List.Sublist.refl _
  intro i hi ih2
  dsimp only at hi ih2 ⊢
  repeat' first
    | refine EV.seq ?_
    | refine EV.skip ?_
    | refine EV.block ?_
    | refine rg ?_
    | (refine cX (fun h => ?_) (fun h => ?_) <;> try exact Ah h)
    | (refine EV.exit rfl ?_)
    | exact ⟨⟩
    | fail
  ·have hi' : i < p.length := by omega
   obtain ⟨pb1, po, rfl, hat⟩ := Sl.at (enc := A2) (fun _ => rfl) (by decide) hpr (by omega)
   have hpi := (Sl.evAt hat i hi').mono (Aa.le_trans hMN hMi)
   have hdl := Jk p i
   have ih3 := ih2 (i + 1) (by omega) (by omega)
   rw [show J7 p (i + 1) = (J7 p i).set i (decide ((evAt p i).op.kind = 1) || decide ((evAt p i).op.kind = 2)) from rfl] at ih3
   generalize J7 p i = q at *
   clear ih ih2 hat
   repeat' first
     | refine EV.inBlock ?_
     | (refine EV.reg ?_; (conv => (arg 2; whnf)); (repeat first | refine nx ?_ | simp only [Ao, List.length_map, hdl, hi']))
     | with_reducible assumption
     | (refine Az.merge ?_ (fun hc K' hK => ?_) ?_; rotate_left)
     | (with_reducible intro b; (repeat first | refine nx ?_ | simp only [Ao, List.length_map, hdl, hi']))
     | (refine And.intro (by omega) ?_)
     | ((first | refine xm ?_ | refine xiA rfl ?_ | fail); (repeat first | refine nx ?_ | simp only [Ao, List.length_map, hdl, hi']))
     | (refine xw ?_; (repeat first | refine nx ?_ | simp only [Ao, List.length_map, hdl, hi']))
     | fail
   refine EV.toS ih3 ?_
   exact eE
  ·have hie : i = p.length := by omega
   subst hie
   clear ih2
   repeat' first
     | fail
   refine EV.loopTo (fun k : Nat => ([(0, yv ly), (1, pv pb 0), (3, osv of (Bj p).length), (4, vi set), (5, A8 db p.length p.length), (15, vi n2), (16, vi set), (43, osv of (Bj p).length), (44, vi (Bj p).length), (45, vi k)], Mi, (db, Cl 4 ((Jj p set k).map vb)) :: Gi))
    (fun k => k ≤ (Bj p).length) (fun k => (Bj p).length - k) 0 rfl (Nat.zero_le _) ?env3 (List.Sublist.refl _) ?_
   case env3 =>
    exact eE
   intro k hk ih2
   dsimp only at hk ih2 ⊢
   repeat' first
     | refine EV.seq ?_
     | refine EV.skip ?_
     | refine EV.block ?_
     | refine rg ?_
     | (refine cX (fun h => ?_) (fun h => ?_) <;> try exact Ah h)
     | (refine EV.exit rfl ?_)
     | exact ⟨⟩
     | fail
   ·have hk' : k < (Bj p).length := by omega
    have hrf2 : rdS Mi 1 (oad of) (Bj p).length ((Bj p).flatMap ei) := by rw [Av]; exact hrf.mono hMi
    obtain ⟨wb, wo, hao, hatf⟩ := Sl.at (sz := 1) (enc := ei) (fun _ => rfl) (by decide) hrf2 (by omega)
    have hfk := Cd hatf k hk'
    have hkin := Er hfi hk'
    have hdl := Jl p set k
    have hlt : (Ad (Bj p) k).toNat < p.length := by omega
    have hbit := Ar9 (x := set) (b := k) (by omega) (by omega)
    have hkn : ¬ ((k : Int) < 0) := by omega
    have ih3 := ih2 (k + 1) (by omega) (by omega)
    rw [show Jj p set (k + 1) = (Jj p set k).set (Ad (Bj p) k).toNat (set.testBit k) from rfl] at ih3
    generalize Jj p set k = q at *
    clear ih ih2 hatf
    rw [hao]
    repeat' first
      | refine EV.inBlock ?_
      | (refine EV.reg ?_; (conv => (arg 2; whnf)); (repeat first | refine nx ?_ | simp only [Ao, List.length_map, hdl, hlt, hbit, hkn]))
      | (refine And.intro (by omega) ?_)
      | (refine xm ?_; (repeat first | refine nx ?_ | simp only [Ao, List.length_map, hdl, hlt, hbit, hkn]))
      | (refine xw ?_; (repeat first | refine nx ?_ | simp only [Ao, List.length_map, hdl, hlt, hbit, hkn]))
      | fail
    refine EV.toS ih3 ?_
    exact eE
   ·have hke : k = (Bj p).length := by omega
    subst hke
    clear ih2
    rw [show Jj p set (Bj p).length = Ig p set from rfl]
    have hdl := Ex p set
    repeat' first
      | fail
    refine E0.keep Gi ?_
    have hel : ElB (Ig p set) (A8 db p.length p.length) (Mi.add [(db, Cl 4 ((Ig p set).map vb))]) := by
     refine ⟨some ⟨db, 0, none⟩, p.length, by rw [hdl], by omega, Or.inr ⟨db, 0, rfl, ?_⟩⟩
     rw [Hx, hdl, Nat.mul_one]
     exact E8 hdl
    refine Kl.run (hy (xs ++ (List.range set).map (Ig p)) (Ig p set) (List.mem_map.2 ⟨set, List.mem_range.2 (by omega), rfl⟩) _ Gi _ (Aa.le_trans hMN (Aa.le_trans hMi (Aa.le_add _ _))) (hmono _ _ _ _ (Aa.le_add _ _) hIi) (by simpa using hel)) ?_
    rintro v3 M3 G3 hM3 (⟨rfl, hI3⟩ | ⟨rfl, hS3⟩)
    ·simp only [wpS, wpA, Lc, push_cast, Int.cast_ofNat_Int, reduceIte, Nat.reduceEqDiff, reduceCtorEq, Nat.reduceAdd, Nat.reduceSub, Nat.reduceMul, Int.reduceToNat, Nat.reduceLeDiff]
     repeat' first
       | refine EV.skip ?_
       | refine EV.inBlock ?_
       | (refine EV.reg ?_; (conv => (arg 2; whnf)); (repeat first | refine nx ?_ | simp only [Bool.not_true]))
       | (refine cX (fun h => ?_) (fun h => ?_) <;> try exact Ah h)
       | fail
     have ih3 := ih (set + 1, M3, G3) ⟨by dsimp only; omega, Aa.le_trans hMi (Aa.le_trans (Aa.le_add _ _) hM3), by
      dsimp only
      rw [List.range_succ, List.map_append, List.map_singleton, ← List.append_assoc]; exact hI3⟩ (by dsimp only; omega)
     dsimp only at ih3
     refine EV.toS ih3 ?_
     exact eE
    ·simp only [wpS, wpA, Lc, push_cast, Int.cast_ofNat_Int, reduceIte, Nat.reduceEqDiff, reduceCtorEq, Nat.reduceAdd, Nat.reduceSub, Nat.reduceMul, Int.reduceToNat, Nat.reduceLeDiff]
     repeat' first
       | (refine cX (fun h => ?_) (fun h => ?_) <;> try exact Ah h)
       | fail
     (refine rt Q13_ok ?_; try with_reducible exact ⟨⟩)
     exact Or.inr hS3
 ·have hse : set = n2 := by omega
  refine EV.done Q13_ok ?_
  (repeat first | refine nx ?_ | simp only [Q13])
  left
  subst hse
  rw [Kq, hn2]; exact hIi
theorem Ws (p : List Ev) (hpl : p.length ≤ 32) {ps : Value} (hps : Sl M 6 A2 ps p) : Con Tryz.prog 78 #[ps] M [] (Its (Kq p) ElB) := by
 refine Con.enter Q12_ok (args := [ps]) (by simp [Q12]) fun w0 => ?_
 simp only [Q12, A3]
 have hps0 := hps
 obtain ⟨ea, ec, rfl, hpr⟩ := hps
 repeat' first
   | refine EV.seq ?_
   | refine rg ?_
   | (with_reducible intro b; try refine nx ?_)
   | exact ⟨⟩
   | fail
 refine EV.keep [] ?_
 generalize hR : M.add _ = N
 have hMN : M.le N := hR ▸ Aa.le_add _ _
 (refine rt Q12_ok ?_; try with_reducible exact ⟨⟩)
 exact ⟨_, _, rfl, T5 p hpl (hps0.mono hMN) (hR ▸ Bz (T := 74) (cs := [.slice ea p.length ec]) (by simp) rfl (by simp))⟩
end
end Go.EV

namespace Go.EV
open Go.Proofs
def Hz (p : List Ev) (ord : List (List Int)) (i : Nat) : List Int := -1 :: (ord[(evAt p i).op.loc.toNat]?.getD [])
def Fk (l : List Int) (i : Nat) : Int := Ad l (l.findIdx (fun y => decide ((i : Int) = y)) - 1)
def Br (p : List Ev) (dn : List Bool) (ord : List (List Int)) (i : Nat) : List Int :=
 if (evAt p i).reads = false then [-2] else if dn[i]?.getD false then [Fk (Hz p ord i) i] else Hz p ord i
def Cg (p : List Ev) (dn : List Bool) (ord : List (List Int)) : Nat → Nat → List (List Int)
 | 0, _ => [[]]
 | k + 1, i => (Br p dn ord i).flatMap fun w => (Cg p dn ord k (i + 1)).map (w :: ·)
def Kr (p : List Ev) (dn : List Bool) (ord : List (List Int)) : List (List Int) := Cg p dn ord p.length 0
structure OrdsOk (p : List Ev) (dn : List Bool) (ord : List (List Int)) : Prop where
 len : ord.length = 3
 bnd : ∀ l ∈ ord, l.length ≤ p.length
 mem : ∀ i, i < p.length → (evAt p i).reads = true → dn[i]?.getD false = true → (i : Int) ∈ ord[(evAt p i).op.loc.toNat]?.getD []
structure FromB (p : List Ev) (dn : List Bool) (ord : List (List Int)) (M : Aa) (l pb yb rb wb ob db fb : Nat) (ea da oa : Option Addr) (ec dc oc : Nat) (ovs : List Value) : Prop where
 hp : rd M pb 0 1 [.slice ea p.length ec]
 hy : rd M yb 0 1 [yv l]
 hr : rd M rb 0 1 [A8 fb p.length p.length]
 hw : rd M wb 0 1 [.func (.func 112) #[] #[pv pb 0, pv yb 0, pv rb 0, pv wb 0, pv ob 0, pv db 0]]
 ho : rd M ob 0 1 [.slice oa ord.length oc]
 hd : rd M db 0 1 [.slice da dn.length dc]
 pr : rdS M 6 ea p.length (p.flatMap A2)
 dr : rdS M 1 da dn.length (dn.flatMap eb)
 ol : ovs.length = ord.length
 orr : rdS M 1 oa ord.length ovs
 ok : ∀ i (h : i < ovs.length) (h' : i < ord.length), SlC M 1 ei ovs[i] ord[i]
section
variable {p : List Ev} {dn : List Bool} {ord : List (List Int)} {l pb yb rb wb ob db fb : Nat} {ea da oa : Option Addr} {ec dc oc : Nat} {ovs : List Value}
theorem FromB.mono {M M' : Aa} (h : FromB p dn ord M l pb yb rb wb ob db fb ea da oa ec dc oc ovs) (hM : M.le M') : FromB p dn ord M' l pb yb rb wb ob db fb ea da oa ec dc oc ovs :=
 ⟨h.hp.mono hM, h.hy.mono hM, h.hr.mono hM, h.hw.mono hM, h.ho.mono hM, h.hd.mono hM, h.pr.mono hM, h.dr.mono hM, h.ol, h.orr.mono hM, fun i a b => (h.ok i a b).mono hM⟩
theorem Ac0 {ord0 : List Int} {i : Nat} (hm : (i : Int) ∈ ord0) : ∃ k, (-1 :: ord0).findIdx (fun y => decide ((i : Int) = y)) = k + 1 ∧ k + 1 < (-1 :: ord0 : List Int).length := by
 have h1 : ((-1 :: ord0 : List Int)).findIdx (fun y => decide ((i : Int) = y)) = ord0.findIdx (fun y => decide ((i : Int) = y)) + 1 := by
  rw [List.findIdx_cons]
  have : decide ((i : Int) = -1) = false := decide_eq_false (by omega)
  rw [this]; rfl
 refine ⟨_, h1, ?_⟩
 have := List.findIdx_lt_length (p := fun y => decide ((i : Int) = y)).2 ⟨(i : Int), hm, decide_eq_true rfl⟩
 simp only [List.length_cons]; omega
theorem take_set {cur : List Int} {i : Nat} (hi : i < cur.length) (w : Int) : (cur.set i w).take (i + 1) = cur.take i ++ [w] := by
 rw [List.take_succ_eq_append_getElem (by simpa using hi), List.take_set_of_le (Nat.le_refl i)]
 simp
set_option maxHeartbeats 4000000 in
theorem Wt (hp : POk p) (hdl : dn.length = p.length) (hoo : OrdsOk p dn ord) {L : List (List Int)} {I : List (List Int) → Aa → Own → Prop} {S : Aa → Own → Prop} {M0 : Aa}
  (hmono : ∀ xs M2 M3 G2, M2.le M3 → I xs M2 G2 → I xs M3 G2)
  (hy : ∀ xs x, x ∈ L → ∀ M2 G2 v, M0.le M2 → I xs M2 G2 → SlC M2 1 ei v x → Kl Tryz.prog l #[v] M2 G2 fun b M3 G3 => (b = .bool true ∧ I (xs ++ [x]) M3 G3) ∨ (b = .bool false ∧ S M3 G3)) :
  ∀ (k i : Nat) (cur : List Int) (xs : List (List Int)) (M : Aa) (G : Own), i + k = p.length → cur.length = p.length → M0.le M → FromB p dn ord M l pb yb rb wb ob db fb ea da oa ec dc oc ovs →
   (∀ m ∈ Cg p dn ord k i, cur.take i ++ m ∈ L) → I xs M G →
   Con Tryz.prog 112 #[vi i, pv pb 0, pv yb 0, pv rb 0, pv wb 0, pv ob 0, pv db 0] M ((fb, Cl 3 (cur.map vi)) :: G) fun v M' G' =>
    ∃ (cur' : List Int) (G1 : Own), G'.Perm ((fb, Cl 3 (cur'.map vi)) :: G1) ∧ cur'.length = p.length ∧ cur'.take i = cur.take i ∧
     ((v = .bool true ∧ I (xs ++ (Cg p dn ord k i).map (cur.take i ++ ·)) M' G1) ∨ (v = .bool false ∧ S M' G1)) := by
 have hb := hp.len
 intro k
 induction k with
 | zero =>
  intro i cur xs M G hik hcl hM hB hL hI
  have hi : i = p.length := by omega
  subst hi
  have h1 := hB.hp
  have h2 := hB.hy
  have h3 := hB.hr
  refine Con.enter Q25_ok (args := [vi p.length, pv pb 0, pv yb 0, pv rb 0, pv wb 0, pv ob 0, pv db 0]) (by simp [Q25]) fun w0 => ?_
  simp only [Q25, A3]
  repeat' first
    | refine EV.seq ?_
    | (refine EV.reg ?_; (conv => (arg 2; whnf)); (repeat first | refine nx ?_ | simp only [decide_true]))
    | (refine cX (fun h => ?_) (fun h => ?_) <;> try exact Ah h)
    | (refine xn ?_; (repeat first | refine nx ?_ | simp only [decide_true]))
    | fail
  refine EV.any (t := Cb0) [] (List.nil_sublist _) ?_
  simp only [Am, Au, Al, As, reduceIte, Nat.reduceEqDiff]
  repeat' first
    | ((first | refine zo (fun lq hlq => ?_) | refine zl ?_ | fail); try refine nz ?_)
    | (refine Vc (by first | with_reducible assumption | rfl) (fun tq htq => ?_) (fun tq htq => ?_) <;> try refine nz ?_)
    | exact zn
    | ((first | refine xm ?_ | refine xn ?_ | fail); try refine nz ?_)
    | exact ⟨⟩
    | fail
  have hrow : Sl (M.add ((fb, Cl 3 (cur.map vi)) :: G)) 1 ei (A8 fb p.length p.length) cur := ⟨some ⟨fb, 0, none⟩, p.length, by rw [hcl], Or.inr ⟨fb, 0, rfl, by rw [Av, Nat.mul_one, hcl]; exact E8 hcl⟩⟩
  refine Con.callB (G1 := []) (Ft cur _ hrow (by omega)) (Aa.le_refl _) (List.Perm.refl _) ?_
  rintro v1 M1 G1 ⟨o1, rfl, ho1, rfl⟩
  refine ⟨Aa.le_refl _, fun q hq => absurd hq List.not_mem_nil, ?_⟩
  repeat' first
    | (refine zl ?_; try refine nz ?_)
    | refine zq (fun lq tq hlq htq => ?_)
    | (refine Ea (by first | with_reducible assumption | rfl) (fun tq htq => ?_) (fun tq htq => ?_) <;> try refine nz ?_)
    | exact zn
    | exact ⟨⟩
    | fail
  refine E0.frzS (osg 3 o1 (cur.map vi)) ?_
  have hmem : cur ∈ L := by
   have := hL [] (by simp [Cg])
   rwa [List.append_nil, List.take_of_length_le (by omega)] at this
  have hsl : SlC (M.add (osg 3 o1 (cur.map vi))) 1 ei (osv o1 cur.length) cur := Hh ho1 rfl (fun q hq => hq)
  refine Kl.callS (hy xs cur hmem _ G _ (Aa.le_trans hM (Aa.le_add _ _)) (hmono _ _ _ _ (Aa.le_add _ _) hI) hsl) ?_
  rintro b M2 G2 hM2 hb2
  repeat' first
    | ((first | refine zo (fun lq hlq => ?_) | refine zl ?_ | fail); try refine nz ?_)
    | refine zq (fun lq tq hlq htq => ?_)
    | refine zf ?_
    | exact ⟨⟩
    | fail
  (refine rt Q25_ok ?_; try with_reducible exact ⟨⟩)
  refine ⟨cur, G2, List.Perm.refl _, hcl, rfl, ?_⟩
  simpa [Cg, List.take_of_length_le (Nat.le_of_eq hcl)] using hb2
 | succ k ihk =>
  intro i cur xs M G hik hcl hM hB hL hI
  have hi : i < p.length := by omega
  have h1 := hB.hp
  have h2 := hB.hy
  have h3 := hB.hr
  have h4 := hB.hw
  have h5 := hB.ho
  have h6 := hB.hd
  obtain ⟨eb1, eo, rfl, hat⟩ := Sl.at (enc := A2) (fun _ => rfl) (by decide) hB.pr (by omega)
  have hpi := Sl.evAt hat i hi
  have hpi1 := hpi.pt 1 1 (by omega) rfl
  have hI1 : (i : Int) < p.length := by omega
  have hne : decide ((i : Int) = p.length) = false := decide_eq_false (by omega)
  have hic : i < cur.length := by omega
  have hw1 : IntKind.i64.wrap ((i : Int) + 1) = ((i + 1 : Nat) : Int) := w64 (by omega) (by omega)
  refine Con.enter Q25_ok (args := [vi i, pv pb 0, pv yb 0, pv rb 0, pv wb 0, pv ob 0, pv db 0]) (by simp [Q25]) fun w0 => ?_
  simp only [Q25, A3]
  cases hre : (evAt p i).reads with
  | false =>
   have hch : Br p dn ord i = [-2] := by simp [Br, hre]
   repeat' first
     | refine EV.seq ?_
     | refine EV.skip ?_
     | (refine EV.reg ?_; (conv => (arg 2; whnf)); (repeat first | refine nx ?_ | simp only [hne, hre, hw1, Ao, List.length_map, hcl, hi]))
     | (refine Aq.call (Bv (evAt p i)) ?_; (repeat first | refine nx ?_ | simp only [hne, hre, hw1, Ao, List.length_map, hcl, hi]))
     | (refine cX (fun h => ?_) (fun h => ?_) <;> try exact Ah h)
     | (refine And.intro (by omega) ?_)
     | ((first | refine xm ?_ | refine xn ?_ | fail); (repeat first | refine nx ?_ | simp only [hne, hre, hw1, Ao, List.length_map, hcl, hi]))
     | (refine xw ?_; (repeat first | refine nx ?_ | simp only [hne, hre, hw1, Ao, List.length_map, hcl, hi]))
     | fail
   have hts := take_set hic (-2)
   refine Con.run (ihk (i + 1) (cur.set i (-2)) xs M G (by omega) (by rw [List.length_set]; exact hcl) hM hB (fun m hm => ?_) hI) ?_
   ·rw [hts, List.append_assoc]
    refine hL _ ?_
    simp only [Cg, hch, List.flatMap_singleton]
    exact List.mem_map.2 ⟨m, hm, rfl⟩
   rintro v M' G' hM' ⟨cur', G1, hpe, hl', ht', hres⟩
   repeat' first
     | fail
   (refine rt Q25_ok ?_; try with_reducible exact ⟨⟩)
   rw [hts] at ht' hres
   refine ⟨cur', G1, hpe, hl', ?_, ?_⟩
   ·have := congrArg (List.take i) ht'
    rw [List.take_take, Nat.min_eq_left (by omega)] at this
    rw [this, List.take_append_of_le_length (by rw [List.length_take]; omega), List.take_take, Nat.min_self]
   ·have e : (Cg p dn ord (k + 1) i).map (cur.take i ++ ·) = (Cg p dn ord k (i + 1)).map ((cur.take i ++ [-2]) ++ ·) := by
     simp only [Cg, hch, List.flatMap_singleton, List.map_map]
     apply List.map_congr_left; intro y _; simp
    rw [e]; exact hres
  | true =>
   have hch : Br p dn ord i = if dn[i]?.getD false then [Fk (Hz p ord i) i] else Hz p ord i := by simp [Br, hre]
   have hloc := hp.loc i hi
   have hol3 := hoo.len
   have hlo : (evAt p i).op.loc.toNat < ord.length := by omega
   obtain ⟨ob1, oo, rfl, hato⟩ := Di.at hB.orr hB.ol hB.ok (by omega)
   obtain ⟨db1, do1, rfl, hatd⟩ := Sl.at (sz := 1) (enc := eb) (fun _ => rfl) (by decide) hB.dr (by omega)
   obtain ⟨la, lc, hr1, hlc, hr2⟩ := hato _ hlo
   rw [Nat.mul_one] at hr1
   rw [Av] at hr2
   have hdi : rd M db1 (do1 + i) 1 [vb (dn[i]?.getD false)] := by
    have := hatd i (by omega)
    rw [Nat.mul_one] at this
    rwa [List.getElem?_eq_getElem (by omega : i < dn.length)]
   have hloI : (evAt p i).op.loc < (ord.length : Int) := by omega
   have hdI : (i : Int) < dn.length := by omega
   have hsrc : Hz p ord i = -1 :: ord[(evAt p i).op.loc.toNat] := by simp only [Hz]; rw [List.getElem?_eq_getElem hlo]; rfl
   have hbl := hoo.bnd _ (List.getElem_mem hlo)
   have hmm := hoo.mem i hi hre
   rw [show ord[(evAt p i).op.loc.toNat]?.getD [] = ord[(evAt p i).op.loc.toNat] from by rw [List.getElem?_eq_getElem hlo]; rfl] at hmm
   generalize ord[(evAt p i).op.loc.toNat] = o0 at *
   repeat' first
     | refine EV.seq ?_
     | refine EV.skip ?_
     | (refine EV.reg ?_; (conv => (arg 2; whnf)); (repeat first | refine nx ?_ | simp only [hne, hre]))
     | (refine Aq.call (Bv (evAt p i)) ?_; (repeat first | refine nx ?_ | simp only [hne, hre]))
     | (refine cX (fun h => ?_) (fun h => ?_) <;> try exact Ah h)
     | (refine And.intro (by omega) ?_)
     | ((first | refine xm ?_ | refine xn ?_ | fail); (repeat first | refine nx ?_ | simp only [hne, hre]))
     | fail
   refine EV.any (t := Cb1) [] (List.nil_sublist _) ?_
   simp only [Am, Au, Al, As, reduceIte, Nat.reduceEqDiff]
   repeat' first
     | ((first | refine zo (fun lq hlq => ?_) | refine zl ?_ | fail); try refine nz ?_)
     | refine zq (fun lq tq hlq htq => ?_)
     | (refine Vc (by first | with_reducible assumption | rfl) (fun tq htq => ?_) (fun tq htq => ?_) <;> try refine nz ?_)
     | (refine Ea (by first | with_reducible assumption | rfl) (fun tq htq => ?_) (fun tq htq => ?_) <;> try refine nz ?_)
     | exact zn
     | (refine And.intro (by omega) ?_)
     | ((first | with_reducible intro b | refine xm ?_ | refine xn ?_ | refine And.intro (Aa.le_refl _) (And.intro (Ba ?_) ?_); focus ((repeat' first | exact List.Sublist.refl _ | exact List.nil_sublist _ | exact List.sublist_append_left _ _ | refine List.Sublist.cons_cons _ ?_ | refine List.Sublist.append_left ?_ _ | refine List.sublist_append_of_sublist_right ?_ | refine List.Sublist.cons _ ?_); done) | fail); try refine nz ?_)
     | exact ⟨⟩
     | fail
   refine ⟨o0.map vi, Yb hr2, Yp _, Or.inl ⟨some (b, 1, []), 1, rfl, [vi (-1)], ⟨rfl, rfl, Nat.le_refl _, by decide⟩, (fb, Cl 3 (cur.map vi)) :: G, by simp [osg], by simp only [maxLen]; omega, by omega, fun o2 ho2 _ => ?_⟩⟩
   repeat' first
     | ((first | refine zo (fun lq hlq => ?_) | refine zl ?_ | fail); try refine nz ?_)
     | refine zq (fun lq tq hlq htq => ?_)
     | refine zf ?_
     | exact ⟨⟩
     | fail
   have ho2' : E7 1 o2 (1 + o0.length) ((Hz p ord i).map vi) := by rw [hsrc]; simpa using ho2
   rw [show vi (-1) :: o0.map vi = (Hz p ord i).map vi from by rw [hsrc]; rfl]
   refine EV.frz (osg 3 o2 ((Hz p ord i).map vi)) ?_
   have hsll : (Hz p ord i).length = 1 + o0.length := by rw [hsrc, List.length_cons]; omega
   have hsl : SlC (M.add (osg 3 o2 ((Hz p ord i).map vi))) 1 ei (osv o2 (1 + o0.length)) (Hz p ord i) := Hh ho2' hsll.symm (fun q hq => hq)
   generalize hN : M.add (osg 3 o2 ((Hz p ord i).map vi)) = N at *
   have hMN : M.le N := hN ▸ Aa.le_add _ _
   have hBN := hB.mono hMN
   have hIN := hmono _ _ _ _ hMN hI
   have hdN := hdi.mono hMN
   have h6N := h6.mono hMN
   clear hN hr1 hr2 hpi hpi1 h1 h2 h5 hat hatd hato
   refine EV.seq (EV.thru (fun ρ' M' G' => ∃ ca cc, M' = N ∧ rdS N 1 ca (Br p dn ord i).length ((Br p dn ord i).map vi) ∧ (∀ q ∈ [(0, vi i), (1, pv pb 0), (2, pv yb 0), (3, pv rb 0), (4, pv wb 0), (5, pv ob 0), (6, pv db 0), (9, .slice ca (Br p dn ord i).length cc)], get ρ' q.1 = some q.2) ∧ G' = (fb, Cl 3 (cur.map vi)) :: G) ?_ ?_)
   ·intro k' key
    cases hdn : dn[i]?.getD false with
    | false =>
     rw [hdn] at hdN hch
     rw [if_neg (by simp)] at hch
     repeat' first
       | refine EV.seq ?_
       | refine EV.skip ?_
       | refine rg ?_
       | (refine cX (fun h => ?_) (fun h => ?_) <;> try exact Ah h)
       | (refine And.intro (by omega) ?_)
       | ((first | refine xm ?_ | refine xn ?_ | fail); try refine nx ?_)
       | exact ⟨⟩
       | fail
     obtain ⟨a9, c9, e9, _, hr9⟩ := hsl
     rw [e9]
     refine EV.reS (key _ _ _ ⟨a9, c9, rfl, ?_, ?_, rfl⟩)
     ·rw [hch]; rwa [Av] at hr9
     ·rw [hch]
      exact eE
    | true =>
     rw [hdn] at hdN hch
     rw [if_pos rfl] at hch
     obtain ⟨k0, hk0, hk1⟩ := Ac0 (hmm hdn)
     rw [← hsrc] at hk0 hk1
     have hidx : Fj (fun y => decide ((i : Int) = y)) (Hz p ord i) = ((k0 + 1 : Nat) : Int) := by
      rw [Fj, dif_pos (by omega), hk0]
     have hfr : Fk (Hz p ord i) i = Ad (Hz p ord i) k0 := by rw [Fk, hk0]; rfl
     repeat' first
       | refine EV.seq ?_
       | refine rg ?_
       | (refine Aq.call (Wr (Hz p ord i) _ (hsl.sl.mono (Aa.le_add _ _)) (by omega) i) ?_; try refine nx ?_)
       | (refine cX (fun h => ?_) (fun h => ?_) <;> try exact Ah h)
       | (refine And.intro (by omega) ?_)
       | ((first | refine xm ?_ | refine xn ?_ | fail); try refine nx ?_)
       | exact ⟨⟩
       | fail
     obtain ⟨a9, c9, e9, hc9, hr9⟩ := hsl
     cases o2 with
     | none => exact absurd ho2'.1 (by omega)
     | some ob2 =>
      obtain ⟨b2, cap2, sp2⟩ := ob2
      simp only [Value.slice.injEq, Ht, Fo] at e9
      obtain ⟨ea9, en9, ec9⟩ := e9
      subst ea9 ec9
      simp only [Option.map_some, Ch, hidx, Fo, Ht]
      have hw2 : IntKind.i64.wrap (((k0 + 1 : Nat) : Int) - 1) = k0 := (w64 (by omega) (by omega)).trans (by omega)
      refine ⟨k0, by rw [hw2], k0 + 1, rfl, by omega, by omega, Or.inl rfl, ?_⟩
      have eadd : (⟨b2, 0, none⟩ : Addr).add k0 = ⟨b2, 0 + k0, none⟩ := by
       unfold Addr.add; split
       ·rename_i h0; rw [h0]
       ·rfl
      rw [Nat.add_sub_cancel_left, eadd]
      have hne2 : ¬ cap2 = k0 := by omega
      simp only [hne2, if_false]
      refine EV.reS (key _ _ _ ⟨some ⟨b2, 0 + k0, none⟩, cap2 - k0, rfl, ?_, ?_, rfl⟩)
      ·rw [hch, hfr]
       rcases hr9 with ⟨h0, _⟩ | ⟨b', o', e', hr'⟩
       ·omega
       ·cases e'
        refine Or.inr ⟨b2, 0 + k0, rfl, ?_⟩
        have hk2 : k0 < (Hz p ord i).length := by omega
        have := hr'.pt (out := [vi (Hz p ord i)[k0]]) k0 1 (by omega) (by rw [Av]; exact Jf vi _ hk2)
        simp only [Ad, List.getElem?_eq_getElem (by omega : k0 < (Hz p ord i).length), Option.getD_some]
        exact this
      ·rw [hch]
       exact eE
   rintro ρ2 M2 G2 ⟨ca, cc, rfl, hrc, hq, rfl⟩
   refine EV.to ?_ hq (List.Sublist.refl _)
   clear hq hsl
   have hchl : (Br p dn ord i).length ≤ 33 := by
    rw [hch]; split
    ·simp
    ·rw [hsll]; omega
   have hfrn : Cg p dn ord (k + 1) i = (Br p dn ord i).flatMap fun w => (Cg p dn ord k (i + 1)).map (w :: ·) := rfl
   generalize Br p dn ord i = ch at *
   repeat' first
     | refine EV.seq ?_
     | refine EV.block ?_
     | refine rg ?_
     | exact ⟨⟩
     | fail
   refine EV.loopTo (fun x : Nat × Aa × Own × List Int => ([(0, vi i), (1, pv pb 0), (2, pv yb 0), (3, pv rb 0), (4, pv wb 0), (5, pv ob 0), (6, pv db 0), (57, .slice ca ch.length cc), (58, vi ch.length), (59, vi x.1)], x.2.1, (fb, Cl 3 (x.2.2.2.map vi)) :: x.2.2.1))
    (fun x => x.1 ≤ ch.length ∧ M2.le x.2.1 ∧ x.2.2.2.length = p.length ∧ x.2.2.2.take i = cur.take i ∧ I (xs ++ ((ch.take x.1).flatMap fun w => (Cg p dn ord k (i + 1)).map (w :: ·)).map (cur.take i ++ ·)) x.2.1 x.2.2.1) (fun x => ch.length - x.1) (0, M2, G, cur) rfl ⟨Nat.zero_le _, Aa.le_refl _, hcl, rfl, by simpa using hIN⟩ ?env1 (List.Sublist.refl _) ?_
   case env1 =>
    exact eE
   rintro ⟨j, Mj, Gj, cj⟩ ⟨hj, hMj, hcjl, hcjt, hIj⟩ ih
   dsimp only at hj hMj hcjl hcjt hIj ih ⊢
   repeat' first
     | refine EV.seq ?_
     | refine EV.skip ?_
     | refine EV.block ?_
     | refine rg ?_
     | (refine cX (fun h => ?_) (fun h => ?_) <;> try exact Ah h)
     | (refine EV.exit rfl ?_)
     | exact ⟨⟩
     | fail
   ·have hj' : j < ch.length := by omega
    obtain ⟨cb, co, rfl, hatc⟩ := Sl.at (sz := 1) (enc := ei) (fun _ => rfl) (by decide) (by rw [Av]; exact hrc) (by omega)
    have hcj := (Cd hatc j hj').mono hMj
    have h3j := (hBN.mono hMj).hr
    have h4j := (hBN.mono hMj).hw
    have hicj : i < cj.length := by omega
    have hcheq : Ad ch j = ch[j] := by simp only [Ad, List.getElem?_eq_getElem hj', Option.getD_some]
    clear hatc
    repeat' first
      | refine EV.seq ?_
      | (refine EV.reg ?_; (conv => (arg 2; whnf)); (repeat first | refine nx ?_ | simp only [hw1, Ao, List.length_map, hcjl, hi]))
      | (refine And.intro (by omega) ?_)
      | ((first | refine xm ?_ | refine xn ?_ | fail); (repeat first | refine nx ?_ | simp only [hw1, Ao, List.length_map, hcjl, hi]))
      | (refine xw ?_; (repeat first | refine nx ?_ | simp only [hw1, Ao, List.length_map, hcjl, hi]))
      | fail
    have hts := take_set hicj (Ad ch j)
    rw [hcjt] at hts
    refine Con.run (ihk (i + 1) (cj.set i (Ad ch j)) (xs ++ ((ch.take j).flatMap fun w => (Cg p dn ord k (i + 1)).map (w :: ·)).map (cur.take i ++ ·)) Mj Gj (by omega) (by rw [List.length_set]; exact hcjl) (Aa.le_trans hM (Aa.le_trans hMN hMj)) (hBN.mono hMj) (fun m hm => ?_) hIj) ?_
    ·rw [hts, List.append_assoc]
     refine hL _ ?_
     rw [hfrn]
     exact List.mem_flatMap.2 ⟨ch[j], List.getElem_mem hj', List.mem_map.2 ⟨m, hm, by rw [hcheq]; rfl⟩⟩
    rintro v M' G' hM' ⟨cur', G1, hpe, hl', ht', hres⟩
    rw [hts] at ht' hres
    have ht2 : cur'.take i = cur.take i := by
     have := congrArg (List.take i) ht'
     rw [List.take_take, Nat.min_eq_left (by omega)] at this
     rw [this, List.take_append_of_le_length (by rw [List.length_take]; omega), List.take_take, Nat.min_self]
    have esum : xs ++ ((ch.take (j + 1)).flatMap fun w => (Cg p dn ord k (i + 1)).map (w :: ·)).map (cur.take i ++ ·) = (xs ++ ((ch.take j).flatMap fun w => (Cg p dn ord k (i + 1)).map (w :: ·)).map (cur.take i ++ ·)) ++ (Cg p dn ord k (i + 1)).map ((cur.take i ++ [Ad ch j]) ++ ·) := by
     rw [List.take_succ_eq_append_getElem hj', List.flatMap_append, List.map_append, ← List.append_assoc, List.flatMap_singleton, List.map_map, hcheq]
     congr 1
     apply List.map_congr_left; intro y _; simp
    rcases hres with ⟨rfl, hres⟩ | ⟨rfl, hres⟩
    ·repeat' first
      | refine EV.skip ?_
      | refine EV.inBlock ?_
      | (refine EV.reg ?_; (conv => (arg 2; whnf)); (repeat first | refine nx ?_ | simp only [Bool.not_true]))
      | (refine cX (fun h => ?_) (fun h => ?_) <;> try exact Ah h)
      | fail
     have ih3 := ih (j + 1, M', G1, cur') ⟨by dsimp only; omega, Aa.le_trans hMj hM', hl', ht2, by rw [esum]; exact hres⟩ (by dsimp only; omega)
     dsimp only at ih3
     refine EV.permG ?_ hpe
     refine EV.toS ih3 ?_
     exact eE
    ·repeat' first
      | refine EV.seq ?_
      | (refine EV.reg ?_; (conv => (arg 2; whnf)); (repeat first | refine nx ?_ | simp only [Bool.not_false]))
      | (refine cX (fun h => ?_) (fun h => ?_) <;> try exact Ah h)
      | fail
     (refine rt Q25_ok ?_; try with_reducible exact ⟨⟩)
     exact ⟨cur', G1, hpe, hl', ht2, Or.inr hres⟩
   ·have hje : j = ch.length := by omega
    subst hje
    rw [List.take_length] at hIj
    (refine rt Q25_ok ?_; try with_reducible exact ⟨⟩)
    exact ⟨cj, Gj, List.Perm.refl _, hcjl, hcjt, Or.inl (hfrn ▸ hIj)⟩
set_option maxHeartbeats 4000000 in
theorem T6 {M : Aa} (hp : POk p) (hdl : dn.length = p.length) (hoo : OrdsOk p dn ord) {ps ds os : Value} (hps : Sl M 6 A2 ps p) (hds : Sl M 1 eb ds dn) (hos : Di M 1 ei os ord)
  (h1 : rd M pb 0 1 [ps]) (h2 : rd M ob 0 1 [os]) (h3 : rd M db 0 1 [ds]) : Yn Tryz.prog 111 #[] #[pv pb 0, pv ob 0, pv db 0] M (Kr p dn ord) ElI := by
 intro ly I S M1 G hM hmono hy xs hI
 have hb := hp.len
 have h1' := h1.mono hM
 have h2' := h2.mono hM
 have h3' := h3.mono hM
 obtain ⟨ea, ec, rfl, hpr⟩ := hps
 obtain ⟨da, dc, rfl, hdr⟩ := hds
 obtain ⟨oa, oc, ovs, rfl, hol, hor, hok⟩ := hos
 refine Con.enter Q24_ok (args := [yv ly, pv pb 0, pv ob 0, pv db 0]) (by simp [Q24]) fun w0 => ?_
 simp only [Q24, A3]
 refine EV.seq (EV.reg ?_)
 (repeat first | refine nx ?_ | simp only [Ca9])
 intro yb
 repeat' first
   | fail
 refine EV.seq ?_
 repeat' first
   | (refine EV.reg ?_; (conv => (arg 2; whnf)); (repeat first | refine nx ?_ | simp only [A1]))
   | (with_reducible intro b; (repeat first | refine nx ?_ | simp only [A1]))
   | (refine And.intro (by omega) ?_)
   | (refine xn ?_; (repeat first | refine nx ?_ | simp only [A1]))
   | (refine xw ?_; (repeat first | refine nx ?_ | simp only [A1]))
   | fail
 rename Nat => rb
 rename Nat => fb
 refine EV.seq ?_
 repeat' first
   | refine rg ?_
   | (with_reducible intro b; try refine nx ?_)
   | exact ⟨⟩
   | fail
 rename Nat => wb
 refine EV.seq ?_
 repeat' first
   | refine rg ?_
   | (refine xiA rfl ?_; try refine nx ?_)
   | (refine xw ?_; refine nx ?_)
   | exact ⟨⟩
   | fail
 have hrowb : b = b := rfl
 generalize b = rowb at *
 refine Dr.frzS [(wb, Cl 123 [.func (.func 112) #[] #[pv pb 0, pv yb 0, pv fb 0, pv wb 0, pv ob 0, pv db 0]]), (fb, Cl 34 [A8 rowb p.length p.length]), (yb, Cl 151 [yv ly])] ?_
 generalize hR : M1.add _ = N
 have hMN : M1.le N := hR ▸ Aa.le_add _ _
 have hMN0 := Aa.le_trans hM hMN
 have hB : FromB p dn ord N ly pb yb fb wb ob db rowb ea da oa ec dc oc ovs :=
  ⟨h1'.mono hMN, hR ▸ An 2 rfl rfl (by simp), hR ▸ An 1 rfl rfl (by simp), hR ▸ An 0 rfl rfl (by simp), h2'.mono hMN, h3'.mono hMN, hpr.mono hMN0, hdr.mono hMN0, hol, hor.mono hMN0, fun i a b => (hok i a b).mono hMN0⟩
 clear hR
 rw [show (List.replicate p.length (Value.int IntKind.i64 0)) = (List.replicate p.length (0 : Int)).map vi from by simp]
 refine Con.callS (Wt hp hdl hoo (L := Kr p dn ord) hmono (fun xs x hx M2 G2 v h4 h5 h6 => hy xs x hx M2 G2 v (Aa.le_trans hMN h4) h5 h6) p.length 0 (List.replicate p.length 0) xs N G (by omega) (by simp) (Aa.le_refl _) hB (fun m hm => by simpa [Kr] using hm) (hmono _ _ _ _ hMN hI)) ?_
 rintro v M' G' hM' ⟨cur', G1, hpe, hl', ht', hres⟩
 refine EV.permG (G' := (rowb, Cl 3 (cur'.map vi)) :: G1) ?_ (by simpa using hpe)
 refine EV.to (ρ' := []) (G' := G1) ?_ (fun _ h => absurd h List.not_mem_nil) (List.sublist_cons_self _ _)
 refine EV.done Q24_ok ?_
 (repeat first | refine nx ?_ | simp only [Q24])
 rcases hres with ⟨_, hres⟩ | ⟨_, hres⟩
 ·left; simpa [Kr] using hres
 ·right; exact hres
theorem Wu {M : Aa} (hp : POk p) (hdl : dn.length = p.length) (hoo : OrdsOk p dn ord) {ps ds os : Value} (hps : Sl M 6 A2 ps p) (hds : Sl M 1 eb ds dn) (hos : Di M 1 ei os ord) :
  Con Tryz.prog 80 #[ps, ds, os] M [] (Its (Kr p dn ord) ElI) := by
 have hps0 := hps
 have hds0 := hds
 have hos0 := hos
 obtain ⟨ea, ec, rfl, hpr⟩ := hps
 obtain ⟨da, dc, rfl, hdr⟩ := hds
 obtain ⟨oa, oc, ovs, rfl, hol, hor, hok⟩ := hos
 refine Con.enter Q23_ok (args := [.slice ea p.length ec, .slice da dn.length dc, .slice oa ord.length oc]) (by simp [Q23]) fun w0 => ?_
 simp only [Q23, A3]
 repeat' first
   | refine EV.seq ?_
   | refine rg ?_
   | (with_reducible intro b; try refine nx ?_)
   | exact ⟨⟩
   | fail
 refine EV.keep [] ?_
 generalize hR : M.add _ = N
 have hMN : M.le N := hR ▸ Aa.le_add _ _
 (refine rt Q23_ok ?_; try with_reducible exact ⟨⟩)
 refine ⟨_, _, rfl, T6 hp hdl hoo (hps0.mono hMN) (hds0.mono hMN) (hos0.mono hMN) ?_ ?_ ?_⟩
 ·exact hR ▸ Bz (T := 74) (cs := [.slice ea p.length ec]) (by simp) rfl (by simp)
 ·exact hR ▸ Bz (T := 26) (cs := [.slice oa ord.length oc]) (by simp) rfl (by simp)
 ·exact hR ▸ Bz (T := 35) (cs := [.slice da dn.length dc]) (by simp) rfl (by simp)
end
end Go.EV

namespace Go.EV
open Go.Proofs
def B0 (p : List Ev) (dn : List Bool) : Nat → Int → List (List (List Int))
 | 0, _ => [[]]
 | k + 1, loc => (Cy p (Ar p dn loc)).flatMap fun l => (B0 p dn k (loc + 1)).map (l :: ·)
def Qb (p : List Ev) (dn : List Bool) : List (List (List Int)) := B0 p dn 3 0
def ElO (x : List (List Int)) (v : Value) (M : Aa) : Prop := Di M 1 ei v x
theorem Di.ok1 {H : Aa} {vs : List Value} {xss : List (List Int)} (hl : vs.length = xss.length) (hk : ∀ i (h : i < vs.length) (h' : i < xss.length), SlC H 1 ei vs[i] xss[i]) : ok1 vs := by
 intro v hv
 obtain ⟨i, hi, rfl⟩ := List.getElem_of_mem hv
 obtain ⟨a, c, e, _⟩ := hk i hi (by omega)
 rw [e]; rfl
theorem Is {p : List Ev} {dn : List Bool} : ∀ (k : Nat) (loc : Int) (x : List (List Int)), x ∈ B0 p dn k loc → x.length = k
 | 0, _, x, h => by simp [B0] at h; subst h; rfl
 | k + 1, loc, x, h => by
  simp only [B0, List.mem_flatMap, List.mem_map] at h
  obtain ⟨l, _, y, hy, rfl⟩ := h
  simp [Is k _ y hy]
theorem J8 (p : List Ev) (dn : List Bool) (loc : Int) : He p (Ar p dn loc) := fun x hx => by
 obtain ⟨i, h1, _, rfl⟩ := Dj.1 hx; omega
section
variable {M : Aa}
set_option maxHeartbeats 4000000 in
theorem Ks (p : List Ev) (dn : List Bool) (hpl : p.length ≤ 32) (hdl : dn.length = p.length) (k : Nat) (loc : Int) (hk : loc + k = 3) (h0 : 0 ≤ loc)
  (hrec : ∀ k', k = k' + 1 → ∀ M' (ps ds : Value), Sl M' 6 A2 ps p → Sl M' 1 eb ds dn → Con Tryz.prog 79 #[ps, ds, vi (loc + 1)] M' [] (Its (B0 p dn k' (loc + 1)) ElO))
  {ps ds : Value} {lb pb db : Nat} (hps : Sl M 6 A2 ps p) (hds : Sl M 1 eb ds dn) (h1 : rd M lb 0 1 [vi loc]) (h2 : rd M pb 0 1 [ps]) (h3 : rd M db 0 1 [ds]) :
  Yn Tryz.prog 109 #[] #[pv lb 0, pv pb 0, pv db 0] M (B0 p dn k loc) ElO := by
 intro ly I S M1 G hM hmono hy xs hI
 have h1' := h1.mono hM
 have h2' := h2.mono hM
 have h3' := h3.mono hM
 have hps1 := hps.mono hM
 have hds1 := hds.mono hM
 obtain ⟨ea, ec, rfl, hpr⟩ := hps
 obtain ⟨da, dc, rfl, hdr⟩ := hds
 refine Con.enter Q31_ok (args := [yv ly, pv lb 0, pv pb 0, pv db 0]) (by simp [Q31]) fun w0 => ?_
 simp only [Q31, A3]
 refine EV.seq (EV.reg ?_)
 (repeat first | refine nx ?_ | simp only [Ca6])
 intro yb
 refine EV.frz [(yb, Cl 149 [yv ly])] ?_
 generalize hR : M1.add _ = N
 have hMN : M1.le N := hR ▸ Aa.le_add _ _
 have hyN : rd N yb 0 1 [yv ly] := hR ▸ An 0 rfl rfl (by simp)
 clear hR
 have h1N := h1'.mono hMN
 have h2N := h2'.mono hMN
 have h3N := h3'.mono hMN
 have hIN := hmono _ _ _ _ hMN hI
 cases k with
 | zero =>
  have hl3 : decide (loc = 3) = true := decide_eq_true (by omega)
  repeat' first
    | refine EV.seq ?_
    | (refine EV.reg ?_; (conv => (arg 2; whnf)); (repeat first | refine nx ?_ | simp only [hl3]))
    | (refine cX (fun h => ?_) (fun h => ?_) <;> try exact Ah h)
    | (refine xm ?_; (repeat first | refine nx ?_ | simp only [hl3]))
    | fail
  refine Kl.run (hy xs [] (by simp [B0]) N G _ hMN hIN ⟨none, 0, [], rfl, rfl, .inl ⟨rfl, rfl⟩, fun i h => absurd h (Nat.not_lt_zero _)⟩) ?_
  intro v M' G' hM' hv
  repeat' first
    | fail
  (refine rt Q31_ok ?_; try with_reducible exact ⟨⟩)
  rcases hv with ⟨_, hv⟩ | ⟨_, hv⟩
  ·left; exact hv
  ·right; exact hv
 | succ k =>
  have hl3 : decide (loc = 3) = false := decide_eq_false (by omega)
  repeat' first
    | refine EV.seq ?_
    | refine EV.skip ?_
    | (refine EV.reg ?_; (conv => (arg 2; whnf)); (repeat first | refine nx ?_ | simp only [hl3]))
    | (refine cX (fun h => ?_) (fun h => ?_) <;> try exact Ah h)
    | (refine xm ?_; (repeat first | refine nx ?_ | simp only [hl3]))
    | fail
  refine EV.any (t := Ca7) [] (List.nil_sublist _) ?_
  simp only [Am, Au, Al, As, reduceIte, Nat.reduceEqDiff]
  repeat' first
    | ((first | refine zo (fun lq hlq => ?_) | refine zl ?_ | fail); try refine nz ?_)
    | (refine Vc (by first | with_reducible assumption | rfl) (fun tq htq => ?_) (fun tq htq => ?_) <;> try refine nz ?_)
    | exact zn
    | ((first | refine xm ?_ | refine xn ?_ | fail); try refine nz ?_)
    | exact ⟨⟩
    | fail
  refine Con.callS (G1 := []) (Kp p _ (hps1.mono hMN) (by omega) dn _ (hds1.mono hMN) hdl loc) ?_
  rintro v M2 G2 hM2 ⟨_, ⟨ow, rfl, how, rfl⟩, rfl⟩
  refine ⟨hM2, fun q hq => absurd hq List.not_mem_nil, ?_⟩
  repeat' first
    | (refine zl ?_; try refine nz ?_)
    | refine zq (fun lq tq hlq htq => ?_)
    | (refine Ea (by first | with_reducible assumption | rfl) (fun tq htq => ?_) (fun tq htq => ?_) <;> try refine nz ?_)
    | exact zn
    | exact ⟨⟩
    | fail
  refine Dr.keep G ?_
  generalize hR : M2.add _ = N2
  have hMN2 : M2.le N2 := hR ▸ Aa.le_add _ _
  have hws : SlC N2 1 ei (osv ow (Ar p dn loc).length) (Ar p dn loc) := hR ▸ Hh (T := 3) how rfl (fun q hq => by simp [hq])
  clear hR
  have hNN2 := Aa.le_trans hM2 hMN2
  have hwl : (Ar p dn loc).length ≤ p.length := Bw _ _
  refine Con.callS (G1 := []) (Me p (by omega) (hps1.mono (Aa.le_trans hMN hNN2)) hws (J8 p dn loc) (by omega)) ?_
  rintro v M3 G3 hM3 ⟨g, caps, rfl, hit⟩
  repeat' first
    | (refine zl ?_; try refine nz ?_)
    | refine zq (fun lq tq hlq htq => ?_)
    | refine zf ?_
    | exact ⟨⟩
    | fail
  have hNM3 := Aa.le_trans hNN2 hM3
  refine EV.toS (ρ' := [(0, yv ly), (1, pv lb 0), (2, pv pb 0), (3, pv db 0), (4, pv yb 0), (16, .func (.func g) #[] caps)]) (G' := G) ?_ ?env1
  case env1 =>
   exact eE
  refine EV.block ?_
  have hrl := hrec k rfl
  have hLs : B0 p dn (k + 1) loc = (Cy p (Ar p dn loc)).flatMap fun l => (B0 p dn k (loc + 1)).map (l :: ·) := rfl
  have hwl1 : IntKind.i64.wrap (loc + 1) = loc + 1 := w64 (by omega) (by omega)
  generalize Cy p (Ar p dn loc) = ms at *
  generalize hrs : B0 p dn k (loc + 1) = rs at *
  refine EV.over rfl rfl rfl hit (fun d ls M G' => ∃ G0, G'.Perm ((d, Obj.deferred (some [])) :: G0) ∧ I (xs ++ ls.flatMap fun l => rs.map (l :: ·)) M G0)
   (fun d c M G' => c = .ret ∧ ∃ G0, G'.Perm ((d, Obj.deferred (some [])) :: G0) ∧ S M G0) ?_ ?_ ?_ ?_ ?_
  ·rintro d ls M4 M5 G4 hle ⟨G0, hp, hI0⟩
   exact ⟨G0, hp, hmono _ _ _ _ hle hI0⟩
  ·intro d
   exact ⟨G, List.Perm.refl _, by simpa using hmono _ _ _ _ hNM3 hIN⟩
  ·intro l d r hr1 hr2 ls x v M4 G4 w1 F hx hM4 ⟨G0, hp4, hI4⟩ hel
   refine EV.permG ?_ (List.Perm.cons _ hp4)
   have hel0 := hel
   obtain ⟨xa, xc, rfl, hxc, hxr⟩ := hel
   refine EV.reg (sts := Ap2) ?_
   (repeat first | refine nx ?_ | simp only [Ap2])
   intro xb
   repeat' first
     | (refine xw ?_; refine nx ?_)
     | exact ⟨⟩
     | fail
   refine EV.frz [(xb, Cl 34 [.slice xa x.length xc])] ?_
   generalize hR : M4.add _ = N4
   have hMN4 : M4.le N4 := hR ▸ Aa.le_add _ _
   have hxb : rd N4 xb 0 1 [.slice xa x.length xc] := hR ▸ An 0 rfl rfl (by simp)
   clear hR
   refine EV.rbegin hr1 ?_
   have hN4 := Aa.le_trans hNM3 (Aa.le_trans hM4 hMN4)
   have h1q := h1N.mono hN4
   have h2q := h2N.mono hN4
   have h3q := h3N.mono hN4
   have hyq := hyN.mono hN4
   have hIq := hmono _ _ _ _ hMN4 hI4
   clear h1N h2N h3N hyN
   refine EV.block ?_
   repeat' first
     | refine EV.seq ?_
     | (refine EV.reg ?_; (conv => (arg 2; whnf)); (repeat first | refine nx ?_ | simp only [hwl1]))
     | ((first | refine xm ?_ | refine xn ?_ | fail); (repeat first | refine nx ?_ | simp only [hwl1]))
     | fail
   refine Con.callS (G1 := []) (hrl N4 _ _ (hps1.mono (Aa.le_trans hMN hN4)) (hds1.mono (Aa.le_trans hMN hN4))) ?_
   rintro v5 M5 G5 hM5 ⟨g5, caps5, rfl, hit5⟩
   repeat' first
     | refine EV.block ?_
     | fail
   refine EV.toS (ρ' := [(0, yv ly), (1, pv lb 0), (2, pv pb 0), (3, pv db 0), (4, pv yb 0), (5, pv xb 0), (22, .func (.func g5) #[] caps5)]) (G' := (l, Obj.loop { r with state := .busy }) :: (d, Obj.deferred (some [])) :: G0) ?_ ?env2
   case env2 =>
    exact eE
   refine EV.overI (l0 := l) (r0 := { r with state := .busy }) rfl (by simp) rfl rfl hit5 (fun zs M G' => ∃ G1, G'.Perm ((l, Obj.loop { r with state := .busy }) :: (d, Obj.deferred (some [])) :: G1) ∧ I ((xs ++ ls.flatMap fun l => rs.map (l :: ·)) ++ zs.map (x :: ·)) M G1)
    (fun c M G' => c = .ret ∧ ∃ G1, G'.Perm ((l, Obj.loop { r with state := .busy }) :: (d, Obj.deferred (some [])) :: G1) ∧ S M G1) ?_ ?_ ?_ ?_ ?_
   ·rintro zs M6 M7 G6 hle ⟨G1, hp, hI0⟩
    exact ⟨G1, hp, hmono _ _ _ _ hle hI0⟩
   ·exact ⟨G0, List.Perm.refl _, by simpa using hmono _ _ _ _ hM5 hIq⟩
   ·intro l2 r2 hr3 hr4 zs z vz M6 G6 w2 F2 hz hM6 ⟨G1, hp6, hI6⟩ helz
    refine EV.permG ?_ (List.Perm.cons _ hp6)
    have hyz := hyq.mono (Aa.le_trans hM5 hM6)
    have hxz := hxb.mono (Aa.le_trans hM5 hM6)
    have hel6 := (hel0.mono (Aa.le_trans hMN4 (Aa.le_trans hM5 hM6)))
    have hzk := Is k (loc + 1) z (hrs ▸ hz)
    obtain ⟨za, zc, zvs, rfl, hzl, hzr, hzs⟩ := helz
    refine EV.reg (sts := Ap3) ?_
    (repeat first | refine nx ?_ | simp only [Ap3])
    refine EV.rbegin hr3 ?_
    refine EV.block (EV.seq ?_)
    refine EV.any (t := Ca8) [] (List.nil_sublist _) ?_
    simp only [Am, Au, Al, As, reduceIte, Nat.reduceEqDiff]
    repeat' first
      | ((first | refine zo (fun lq hlq => ?_) | refine zl ?_ | fail); try refine nz ?_)
      | refine zq (fun lq tq hlq htq => ?_)
      | (refine Vc (by first | with_reducible assumption | rfl) (fun tq htq => ?_) (fun tq htq => ?_) <;> try refine nz ?_)
      | exact zn
      | ((first | with_reducible intro b | refine xm ?_ | refine xn ?_ | refine And.intro (Aa.le_refl _) (And.intro (Ba ?_) ?_); focus ((repeat' first | exact List.Sublist.refl _ | exact List.nil_sublist _ | exact List.sublist_append_left _ _ | refine List.Sublist.cons_cons _ ?_ | refine List.Sublist.append_left ?_ _ | refine List.sublist_append_of_sublist_right ?_ | refine List.Sublist.cons _ ?_); done) | fail); try refine nz ?_)
      | exact ⟨⟩
      | fail
    refine ⟨zvs, Yb hzr, Di.ok1 hzl hzs, Or.inl ⟨some (b, 1, []), 1, rfl, [.slice xa x.length xc], ⟨rfl, rfl, Nat.le_refl _, by decide⟩, (l2, Obj.loop { r2 with state := .busy }) :: (l, Obj.loop { r with state := .busy }) :: (d, Obj.deferred (some [])) :: G1, by simp [osg], by simp only [maxLen]; omega, by omega, fun o2 ho2 _ => ?_⟩⟩
    repeat' first
      | (refine zl ?_; try refine nz ?_)
      | refine zq (fun lq tq hlq htq => ?_)
      | (refine Ea (by first | with_reducible assumption | rfl) (fun tq htq => ?_) (fun tq htq => ?_) <;> try refine nz ?_)
      | exact zn
      | (refine And.intro (Aa.le_refl _) (And.intro (Ba ?_) ?_); focus ((repeat' first | exact List.Sublist.refl _ | exact List.nil_sublist _ | exact List.sublist_append_left _ _ | refine List.Sublist.cons_cons _ ?_ | refine List.Sublist.append_left ?_ _ | refine List.sublist_append_of_sublist_right ?_ | refine List.Sublist.cons _ ?_); done); try refine nz ?_)
      | exact ⟨⟩
      | fail
    have ho2' : E7 1 o2 (1 + z.length) (.slice xa x.length xc :: zvs) := by simpa using ho2
    refine E0.frzS (osg 34 o2 (.slice xa x.length xc :: zvs)) ?_
    have hmem : x :: z ∈ B0 p dn (k + 1) loc := by rw [hLs]; exact List.mem_flatMap.2 ⟨x, hx, List.mem_map.2 ⟨z, hz, rfl⟩⟩
    have helO : ElO (x :: z) (osv o2 (1 + z.length)) (M6.add (osg 34 o2 (.slice xa x.length xc :: zvs))) := by
     refine ⟨oad o2, Lt o2, .slice xa x.length xc :: zvs, by rw [List.length_cons, Nat.add_comm], by simp [hzl], ?_, ?_⟩
     ·rw [List.length_cons, Nat.add_comm]; exact D7 ho2' (fun q hq => hq)
     ·intro i hi hi2
      cases i with
      | zero => exact hel6.mono (Aa.le_add _ _)
      | succ i => exact (hzs i (by simpa using hi) (by simpa using hi2)).mono (Aa.le_add _ _)
    refine Kl.callS (hy _ (x :: z) hmem _ G1 _ (Aa.le_trans hMN (Aa.le_trans hN4 (Aa.le_trans hM5 (Aa.le_trans hM6 (Aa.le_add _ _))))) (hmono _ _ _ _ (Aa.le_add _ _) hI6) helO) ?_
    rintro v8 M8 G8 hM8 (⟨rfl, hI8⟩ | ⟨rfl, hS8⟩)
    ·repeat' first
      | ((first | refine zo (fun lq hlq => ?_) | refine zl ?_ | fail); (repeat first | refine nz ?_ | simp only [Bool.not_true]))
      | refine zq (fun lq tq hlq htq => ?_)
      | refine zf ?_
      | fail
     repeat' first
       | refine EV.skip ?_
       | refine EV.inBlock ?_
       | (refine cX (fun h => ?_) (fun h => ?_) <;> try exact Ah h)
       | fail
     refine EV.rend hr3 hr4 (List.Perm.refl _) ⟨G8, List.Perm.refl _, ?_⟩
     simpa only [List.map_append, List.map_singleton, List.append_assoc] using hI8
    ·repeat' first
      | ((first | refine zo (fun lq hlq => ?_) | refine zl ?_ | fail); (repeat first | refine nz ?_ | simp only [Bool.not_false]))
      | refine zq (fun lq tq hlq htq => ?_)
      | refine zf ?_
      | fail
     repeat' first
       | (refine cX (fun h => ?_) (fun h => ?_) <;> try exact Ah h)
       | fail
     exact EV.rret (List.Perm.refl _) ⟨rfl, G8, List.Perm.refl _, hS8⟩
   ·rintro M6 G6 hM6 ⟨G1, hp6, hI6⟩
    repeat' first
      | refine EV.inBlock ?_
      | fail
    refine EV.rend hr1 hr2 hp6 ⟨G1, List.Perm.refl _, ?_⟩
    rw [List.flatMap_append, List.flatMap_singleton, ← List.append_assoc]; exact hI6
   ·rintro c M6 G6 hM6 ⟨rfl, G1, hp6, hS6⟩
    exact EV.rret hp6 ⟨rfl, G1, List.Perm.refl _, hS6⟩
  ·rintro d M4 G4 hM4 ⟨G0, hp4, hI4⟩
   refine EV.inBlock ?_
   refine EV.doneM Q31_ok (ms := [d]) (by simpa [L1] using hp4) ?_
   (repeat first | refine nx ?_ | simp only [Q31])
   left; rw [hLs]; exact hI4
  ·rintro d c M4 G4 hM4 ⟨rfl, G0, hp4, hS4⟩
   refine EV.retM Q31_ok (ms := [d]) (by simpa [L1] using hp4) ?_
   (repeat first | refine nx ?_ | simp only [Q31])
   right; exact hS4
theorem T7 (p : List Ev) (dn : List Bool) (hpl : p.length ≤ 32) (hdl : dn.length = p.length) : ∀ (k : Nat) (loc : Int), loc + k = 3 → 0 ≤ loc → ∀ M (ps ds : Value), Sl M 6 A2 ps p → Sl M 1 eb ds dn →
  Con Tryz.prog 79 #[ps, ds, vi loc] M [] (Its (B0 p dn k loc) ElO) := by
 intro k
 induction k with
 | zero =>
  intro loc hk h0 M ps ds hps hds
  have hps0 := hps
  have hds0 := hds
  obtain ⟨ea, ec, rfl, hpr⟩ := hps
  obtain ⟨da, dc, rfl, hdr⟩ := hds
  refine Con.enter Q30_ok (args := [.slice ea p.length ec, .slice da dn.length dc, vi loc]) (by simp [Q30]) fun w0 => ?_
  simp only [Q30, A3]
  repeat' first
    | refine EV.seq ?_
    | refine rg ?_
    | (with_reducible intro b; try refine nx ?_)
    | exact ⟨⟩
    | fail
  refine EV.keep [] ?_
  generalize hR : M.add _ = N
  have hMN : M.le N := hR ▸ Aa.le_add _ _
  (refine rt Q30_ok ?_; try with_reducible exact ⟨⟩)
  refine ⟨_, _, rfl, Ks p dn hpl hdl 0 loc hk h0 (fun k' e => by cases e) (hps0.mono hMN) (hds0.mono hMN) ?_ ?_ ?_⟩
  ·exact hR ▸ Bz (T := 3) (cs := [vi loc]) (by simp) rfl (by simp)
  ·exact hR ▸ Bz (T := 74) (cs := [.slice ea p.length ec]) (by simp) rfl (by simp)
  ·exact hR ▸ Bz (T := 35) (cs := [.slice da dn.length dc]) (by simp) rfl (by simp)
 | succ k ih =>
  intro loc hk h0 M ps ds hps hds
  have hps0 := hps
  have hds0 := hds
  obtain ⟨ea, ec, rfl, hpr⟩ := hps
  obtain ⟨da, dc, rfl, hdr⟩ := hds
  refine Con.enter Q30_ok (args := [.slice ea p.length ec, .slice da dn.length dc, vi loc]) (by simp [Q30]) fun w0 => ?_
  simp only [Q30, A3]
  repeat' first
    | refine EV.seq ?_
    | refine rg ?_
    | (with_reducible intro b; try refine nx ?_)
    | exact ⟨⟩
    | fail
  refine EV.keep [] ?_
  generalize hR : M.add _ = N
  have hMN : M.le N := hR ▸ Aa.le_add _ _
  (refine rt Q30_ok ?_; try with_reducible exact ⟨⟩)
  refine ⟨_, _, rfl, Ks p dn hpl hdl (k + 1) loc hk h0 (fun k' e M' ps' ds' h1 h2 => by cases e; exact ih (loc + 1) (by omega) (by omega) M' ps' ds' h1 h2) (hps0.mono hMN) (hds0.mono hMN) ?_ ?_ ?_⟩
  ·exact hR ▸ Bz (T := 3) (cs := [vi loc]) (by simp) rfl (by simp)
  ·exact hR ▸ Bz (T := 74) (cs := [.slice ea p.length ec]) (by simp) rfl (by simp)
  ·exact hR ▸ Bz (T := 35) (cs := [.slice da dn.length dc]) (by simp) rfl (by simp)
end
end Go.EV

namespace Go.EV
open Go.Proofs
def Bi (p : List Ev) : List Int := Cr p.length fun i => (evAt p i).strong
def Ih (p : List Ev) (dn : List Bool) (ord : List (List Int)) (frm : List Int) : List Exec :=
 if Dl p ⟨frm, dn, ord, []⟩ then ((Cy p (Bi p)).map fun f => (⟨frm, dn, ord, f⟩ : Exec)).filter fun e => decide (Cp p e = 0) else []
def Mf (p : List Ev) (dn : List Bool) (ord : List (List Int)) : List Exec := (Kr p dn ord).flatMap (Ih p dn ord)
def Kt (p : List Ev) (dn : List Bool) : List Exec := (Qb p dn).flatMap (Mf p dn)
def Gu (p : List Ev) : List Exec := (Kq p).flatMap (Kt p)
theorem Ku {p : List Ev} : ∀ (n : Nat) (l m : List Int), l.length = n → m ∈ Cf p n l → m.Perm l
 | 0, l, m, hl, hm => by
  simp only [Cf, List.mem_singleton] at hm
  rw [hm, List.length_eq_zero_iff.1 hl]
 | n + 1, l, m, hl, hm => by
  simp only [Cf, List.mem_flatMap, List.mem_range] at hm
  obtain ⟨i, hi, hm⟩ := hm
  split at hm
  ·exact absurd hm List.not_mem_nil
  ·obtain ⟨m', hm', rfl⟩ := List.mem_map.1 hm
   have hil : i < l.length := by omega
   have ih := Ku n (l.eraseIdx i) m' (by rw [List.length_eraseIdx_of_lt hil]; omega) hm'
   have e : Ad l i = l[i] := by simp only [Ad, List.getElem?_eq_getElem hil, Option.getD_some]
   rw [e]
   refine (List.Perm.cons _ ih).trans ?_
   have h1 : l.Perm (l[i] :: l.eraseIdx i) := by
    have h2 : l = l.take i ++ l[i] :: l.drop (i + 1) := by rw [List.getElem_cons_drop, List.take_append_drop]
    rw [List.eraseIdx_eq_take_drop_succ]
    conv => lhs; rw [h2]
    exact List.perm_middle
   exact h1.symm
theorem Fa {p : List Ev} {l m : List Int} (h : m ∈ Cy p l) : m.Perm l := Ku _ l m rfl h
theorem He.perm {p : List Ev} {l m : List Int} (h : He p l) (hp : m.Perm l) : He p m := fun x hx => h x (hp.mem_iff.1 hx)
theorem Mg (p : List Ev) : He p (Bi p) := fun x hx => by
 obtain ⟨i, h1, _, rfl⟩ := Dj.1 hx; omega
theorem Mh {p : List Ev} {dn : List Bool} : ∀ (k : Nat) (loc : Int) (x : List (List Int)), x ∈ B0 p dn k loc → ∀ j (h : j < x.length), x[j].Perm (Ar p dn (loc + j))
 | 0, _, x, h => by simp [B0] at h; subst h; intro j hj; simp at hj
 | k + 1, loc, x, h => by
  simp only [B0, List.mem_flatMap, List.mem_map] at h
  obtain ⟨l, hl, y, hy, rfl⟩ := h
  intro j hj
  cases j with
  | zero => simpa using Fa hl
  | succ j =>
   have := Mh k (loc + 1) y hy j (by simpa using hj)
   simpa [Int.add_assoc, Int.add_comm 1] using this
theorem ordersP_ok {p : List Ev} {dn : List Bool} {ord : List (List Int)} (hp : POk p) (hdl : dn.length = p.length) (h : ord ∈ Qb p dn) : OrdsOk p dn ord ∧ ∀ l ∈ ord, He p l ∧ l.length ≤ p.length := by
 have hl := Is 3 0 ord h
 have hm := Mh 3 0 ord h
 have hall : ∀ l ∈ ord, He p l ∧ l.length ≤ p.length := by
  intro l hlm
  obtain ⟨j, hj, rfl⟩ := List.getElem_of_mem hlm
  have := hm j hj
  exact ⟨(J8 p dn _).perm this, by rw [this.length_eq]; exact Bw _ _⟩
 refine ⟨⟨hl, fun l hlm => (hall l hlm).2, ?_⟩, hall⟩
 intro i hi hr hd
 have hloc := hp.loc i hi
 have hj : (evAt p i).op.loc.toNat < ord.length := by omega
 rw [List.getElem?_eq_getElem hj, Option.getD_some]
 have := hm _ hj
 rw [this.mem_iff, Ar, Dj]
 refine ⟨i, hi, ?_, rfl⟩
 have hk5 : (evAt p i).op.kind ≠ 5 := by
  simp only [Ev.reads, Bool.and_eq_true, decide_eq_true_eq] at hr; exact hr.2
 simp only [Bool.and_eq_true, decide_eq_true_eq]
 exact ⟨⟨hk5, hd⟩, by omega⟩
theorem O5 {p : List Ev} {dn : List Bool} {ord : List (List Int)} : ∀ (k i : Nat) (x : List Int), x ∈ Cg p dn ord k i → x.length = k ∧ ∀ j (h : j < x.length), x[j] ∈ Br p dn ord (i + j)
 | 0, _, x, h => by simp [Cg] at h; subst h; exact ⟨rfl, fun j hj => by simp at hj⟩
 | k + 1, i, x, h => by
  simp only [Cg, List.mem_flatMap, List.mem_map] at h
  obtain ⟨w, hw, y, hy, rfl⟩ := h
  obtain ⟨h1, h2⟩ := O5 k (i + 1) y hy
  refine ⟨by simp [h1], fun j hj => ?_⟩
  cases j with
  | zero => simpa using hw
  | succ j =>
   have := h2 j (by simpa using hj)
   simpa [Nat.add_assoc, Nat.add_comm 1] using this
theorem choices_ok {p : List Ev} {dn : List Bool} {ord : List (List Int)} (hin : ∀ l ∈ ord, He p l) {i : Nat} {w : Int} (h0 : 0 < p.length) (h : w ∈ Br p dn ord i) : w < p.length ∧ ((evAt p i).reads = true → -1 ≤ w) := by
 have hsrc : ∀ y ∈ Hz p ord i, -1 ≤ y ∧ y < p.length := by
  intro y hy
  rcases List.mem_cons.1 hy with rfl | hy
  ·omega
  ·rcases hq : ord[(evAt p i).op.loc.toNat]? with _ | l
   ·rw [hq] at hy; exact absurd hy List.not_mem_nil
   ·rw [hq] at hy
    have := hin l (List.mem_of_getElem? hq) y hy
    omega
 unfold Br at h
 split at h
 ·rename_i hr
  simp only [List.mem_singleton] at h
  subst h
  exact ⟨by omega, fun h2 => by rw [hr] at h2; cases h2⟩
 ·split at h
  ·simp only [List.mem_singleton] at h
   subst h
   have : -1 ≤ Fk (Hz p ord i) i ∧ Fk (Hz p ord i) i < p.length := by
    unfold Fk Ad
    rcases hq : (Hz p ord i)[(Hz p ord i).findIdx (fun y => decide ((i : Int) = y)) - 1]? with _ | y
    ·simp only [Option.getD_none]; omega
    ·simp only [Option.getD_some]; exact hsrc y (List.mem_of_getElem? hq)
   exact ⟨this.2, fun _ => this.1⟩
  ·exact ⟨(hsrc w h).2, fun _ => (hsrc w h).1⟩
theorem exec_ok {p : List Ev} {dn : List Bool} {ord : List (List Int)} {frm fen : List Int} (hp : POk p) (hd : dn ∈ Kq p) (ho : ord ∈ Qb p dn) (hf : frm ∈ Kr p dn ord) (hn : He p fen ∧ fen.length ≤ p.length) : XOk p ⟨frm, dn, ord, fen⟩ := by
 have hdl : dn.length = p.length := by
  obtain ⟨set, _, rfl⟩ := List.mem_map.1 hd; exact Ex p set
 obtain ⟨ho1, ho2⟩ := ordersP_ok hp hdl ho
 obtain ⟨hf1, hf2⟩ := O5 _ _ _ hf
 refine ⟨hf1, hdl, ho1.len, ?_, ho2, hn⟩
 intro i hi
 have hif : i < frm.length := by rw [hf1]; exact hi
 have := hf2 i hif
 rw [Nat.zero_add] at this
 rw [show (⟨frm, dn, ord, fen⟩ : Exec).frm[i]?.getD 0 = frm[i] from by simp [hif]]
 exact choices_ok (fun l hl => (ho2 l hl).1) (by omega) this
theorem J9 {p : List Ev} {f : List Int} (h : f ∈ Cy p (Bi p)) : He p f ∧ f.length ≤ p.length := by
 have := Fa h
 exact ⟨(Mg p).perm this, by rw [this.length_eq]; exact Bw _ _⟩
end Go.EV

namespace Go.EV
open Go.Proofs
inductive TG (R : Nat → Nat → Prop) : Nat → Nat → Prop
 | one {a b : Nat} (h : R a b) : TG R a b
 | more {a b c : Nat} (h : R a b) (t : TG R b c) : TG R a c
namespace TG
theorem trans {R : Nat → Nat → Prop} {a b c : Nat} (h : TG R a b) (k : TG R b c) : TG R a c := by
 induction h with
 | one h => exact .more h k
 | more h _ ih => exact .more h (ih k)
theorem mono {R S : Nat → Nat → Prop} {a b : Nat} (h : TG R a b) (hk : ∀ a b, R a b → S a b) : TG S a b := by
 induction h with
 | one h => exact .one (hk _ _ h)
 | more h _ ih => exact .more (hk _ _ h) ih
theorem flat {R S : Nat → Nat → Prop} {a b : Nat} (h : TG R a b) (hk : ∀ a b, R a b → TG S a b) : TG S a b := by
 induction h with
 | one h => exact hk _ _ h
 | more h _ ih => exact (hk _ _ h).trans ih
theorem last {R : Nat → Nat → Prop} {a b : Nat} (h : TG R a b) : ∃ c, R c b ∧ (c = a ∨ TG R a c) := by
 induction h with
 | one h => exact ⟨_, h, .inl rfl⟩
 | more h _ ih =>
  obtain ⟨c, h1, h2⟩ := ih
  refine ⟨c, h1, .inr ?_⟩
  rcases h2 with rfl | h2
  ·exact .one h
  ·exact .more h h2
theorem first {R : Nat → Nat → Prop} {a b : Nat} (h : TG R a b) : ∃ c, R a c ∧ (c = b ∨ TG R c b) := by
 cases h with
 | one h => exact ⟨_, h, .inl rfl⟩
 | more h t => exact ⟨_, h, .inr t⟩
theorem iff {R S : Nat → Nat → Prop} (h1 : ∀ a b, R a b → TG S a b) (h2 : ∀ a b, S a b → TG R a b) {a b : Nat} : TG R a b ↔ TG S a b := ⟨fun h => h.flat h1, fun h => h.flat h2⟩
theorem congr {R S : Nat → Nat → Prop} (h : ∀ a b, R a b ↔ S a b) {a b : Nat} : TG R a b ↔ TG S a b := iff (fun a b k => .one ((h a b).1 k)) (fun a b k => .one ((h a b).2 k))
theorem map {R S : Nat → Nat → Prop} (f : Nat → Nat) {a b : Nat} (h : TG R a b) (hk : ∀ a b, R a b → S (f a) (f b)) : TG S (f a) (f b) := by
 induction h with
 | one h => exact .one (hk _ _ h)
 | more h _ ih => exact .more (hk _ _ h) ih
theorem of_trans {R : Nat → Nat → Prop} (ht : ∀ a b c, R a b → R b c → R a c) {a b : Nat} (h : TG R a b) : R a b := by
 induction h with
 | one h => exact h
 | more h _ ih => exact ht _ _ _ h ih
end TG
theorem Jm {r : Rel} {a b : Nat} (h : r.length ≤ a) : A0 r a b = false := by
 simp [A0, List.getElem?_eq_none h]
theorem Ml {r : Rel} {a m x y : Nat} : A0 (orR r a m) x y = (A0 r x y || (decide (x = a ∧ a < r.length) && m.testBit y)) := by
 simp only [A0, orR, List.getElem?_set]
 by_cases h : a = x
 ·subst h
  by_cases h2 : a < r.length
  ·simp [h2, Nat.testBit_or]
  ·simp [h2, List.getElem?_eq_none (Nat.le_of_not_lt h2)]
 ·have h' : ¬ x = a := fun e => h e.symm
  simp [h, h']
theorem Et {r : Rel} {a b x y : Nat} : A0 (Li r a b) x y = true ↔ A0 r x y = true ∨ (x = a ∧ a < r.length ∧ y = b) := by
 rw [Li, Ml]
 simp only [Bool.or_eq_true, Bool.and_eq_true, decide_eq_true_eq, Nat.testBit_two_pow]
 constructor
 ·rintro (h | ⟨⟨h1, h2⟩, h3⟩)
  ·exact .inl h
  ·exact .inr ⟨h1, h2, h3.symm⟩
 ·rintro (h | ⟨h1, h2, h3⟩)
  ·exact .inl h
  ·exact .inr ⟨⟨h1, h2⟩, h3.symm⟩
theorem Mm {n a b : Nat} : A0 (List.replicate n 0) a b = false := by
 simp only [A0, List.getElem?_replicate]
 split <;> simp
theorem RelOk.has {n : Nat} {r : Rel} (h : RelOk n r) {a b : Nat} (k : A0 r a b = true) : a < n ∧ b < n := by
 constructor
 ·apply Decidable.byContradiction; intro hn
  rw [Jm (by rw [h.len]; omega)] at k; cases k
 ·apply Decidable.byContradiction; intro hn
  have := h.lt a
  have h2 : (r[a]?.getD 0).testBit b = false := Nat.testBit_lt_two_pow (Nat.lt_of_lt_of_le this (Nat.pow_le_pow_right (by decide) (by omega)))
  rw [A0, h2] at k; cases k
theorem Qc {r : Rel} {a m : Nat} : (orR r a m).length = r.length := by simp [orR]
theorem Fb (r : Rel) (k : Nat) : ∀ a, (closeRow r k a).length = r.length
 | 0 => rfl
 | a + 1 => by
  simp only [closeRow]
  split
  ·rw [Qc, Fb r k a]
  ·exact Fb r k a
theorem Gd (r : Rel) : ∀ k, (closeGo r k).length = r.length
 | 0 => rfl
 | k + 1 => by rw [closeGo, Fb, Gd r k]
theorem Kv (r : Rel) (k : Nat) : ∀ m, m ≤ r.length → ∀ a b, A0 (closeRow r k m) a b = (A0 r a b || (decide (a < m) && A0 r a k && A0 r k b))
 | 0, _, a, b => by simp [closeRow]
 | m + 1, hm, a, b => by
  have ih := Kv r k m (by omega)
  have hk : A0 (closeRow r k m) m k = A0 r m k := by
   rw [ih]; simp
  have hrow : ∀ y, ((closeRow r k m)[k]?.getD 0).testBit y = A0 r k y := by
   intro y
   have := ih k y
   rw [A0] at this
   rw [this]
   cases h1 : A0 r k y <;> cases h2 : A0 r k k <;> simp
  rw [closeRow, hk]
  by_cases h : A0 r m k = true
  ·rw [if_pos h, Ml, ih, hrow, Fb]
   by_cases ha : a = m
   ·subst ha
    have : a < r.length := by omega
    simp [h, this]
   ·have : (decide (a < m + 1)) = decide (a < m) := by rw [decide_eq_decide]; omega
    simp [ha, this]
  ·have h' : A0 r m k = false := by simpa using h
   rw [if_neg h, ih]
   by_cases ha : a = m
   ·subst ha; simp [h']
   ·have : (decide (a < m + 1)) = decide (a < m) := by rw [decide_eq_decide]; omega
    rw [this]
theorem Hi {n : Nat} {r : Rel} (h : r.length = n) (k a b : Nat) : A0 (closeGo r (k + 1)) a b = (A0 (closeGo r k) a b || (A0 (closeGo r k) a k && A0 (closeGo r k) k b)) := by
 rw [closeGo, Kv _ _ _ (by rw [Gd]; omega)]
 by_cases ha : a < r.length
 ·simp [ha]
 ·rw [Jm (a := a) (b := b) (by rw [Gd]; omega), Jm (a := a) (b := k) (by rw [Gd]; omega)]
  simp
theorem Ey {n : Nat} {r : Rel} (h : RelOk n r) {a b : Nat} : A0 (Cc r) a b = true ↔ TG (fun x y => A0 r x y = true) a b := by
 have up : ∀ k a b, A0 r a b = true → A0 (closeGo r k) a b = true := by
  intro k
  induction k with
  | zero => intro a b h; exact h
  | succ k ih => intro a b hab; rw [Hi h.len, ih a b hab]; simp
 have dn : ∀ k a b, A0 (closeGo r k) a b = true → TG (fun x y => A0 r x y = true) a b := by
  intro k
  induction k with
  | zero => intro a b h; exact .one h
  | succ k ih =>
   intro a b hab
   rw [Hi h.len] at hab
   simp only [Bool.or_eq_true, Bool.and_eq_true] at hab
   rcases hab with hab | ⟨h1, h2⟩
   ·exact ih a b hab
   ·exact (ih a k h1).trans (ih k b h2)
 have tr : ∀ k a c b, c < k → A0 (closeGo r k) a c = true → A0 (closeGo r k) c b = true → A0 (closeGo r k) a b = true := by
  intro k
  induction k with
  | zero => intro a c b hc; omega
  | succ k ih =>
   intro a c b hc h1 h2
   rw [Hi h.len] at h1 h2 ⊢
   simp only [Bool.or_eq_true, Bool.and_eq_true] at h1 h2 ⊢
   by_cases hck : c = k
   ·subst hck
    right
    refine ⟨?_, ?_⟩
    ·rcases h1 with h1 | ⟨h1, _⟩ <;> exact h1
    ·rcases h2 with h2 | ⟨_, h2⟩ <;> exact h2
   ·have hc' : c < k := by omega
    rcases h1 with h1 | ⟨h1, h1'⟩ <;> rcases h2 with h2 | ⟨h2, h2'⟩
    ·exact .inl (ih a c b hc' h1 h2)
    ·exact .inr ⟨ih a c k hc' h1 h2, h2'⟩
    ·exact .inr ⟨h1, ih k c b hc' h1' h2⟩
    ·exact .inr ⟨h1, h2'⟩
 refine ⟨dn _ a b, fun ht => ?_⟩
 have ht2 : TG (fun x y => A0 (Cc r) x y = true) a b := ht.mono fun a b => up _ a b
 refine ht2.of_trans (R := fun x y => A0 (Cc r) x y = true) (fun a c b h1 h2 => ?_)
 have hok : RelOk n (Cc r) := h.close
 exact tr _ a c b (by rw [h.len]; exact (hok.has h1).2) h1 h2
theorem Ge {r : Rel} : Bn r = true ↔ ∃ a, A0 r a a = true := by
 unfold Bn
 rw [List.any_eq_true]
 constructor
 ·rintro ⟨a, _, h⟩; exact ⟨a, h⟩
 ·rintro ⟨a, h⟩
  refine ⟨a, ?_, h⟩
  rw [List.mem_range]
  apply Decidable.byContradiction; intro hn
  rw [Jm (by omega)] at h; cases h
end Go.EV

namespace Go.EV
open Go.Proofs
theorem D4 {r : Rel} {a b : Nat} : (Li r a b).length = r.length := Qc
theorem Fu (p : List Ev) : ∀ i, (C2 p i).length = p.length
 | 0 => by simp [C2]
 | i + 1 => by
  simp only [C2]
  split
  ·rw [D4, Fu p i]
  ·exact Fu p i
theorem Ka (r : Rel) (fen : List Int) : ∀ k, (Gt r fen k).length = r.length
 | 0 => rfl
 | k + 1 => by rw [Gt, D4, Ka r fen k]
theorem O6 (p : List Ev) (a b : Nat) : ∀ i, i ≤ p.length - 1 → (A0 (C2 p i) a b = true ↔ a < i ∧ b = a + 1 ∧ (evAt p b).th = (evAt p a).th)
 | 0, _ => by simp [C2, Mm]
 | i + 1, hi => by
  have ih := O6 p a b i (by omega)
  simp only [C2]
  split
  ·rename_i h
   rw [Et, ih, Fu]
   constructor
   ·rintro (⟨h1, h2, h3⟩ | ⟨rfl, h1, rfl⟩)
    ·exact ⟨by omega, h2, h3⟩
    ·exact ⟨by omega, rfl, h⟩
   ·rintro ⟨h1, h2, h3⟩
    by_cases ha : a = i
    ·subst ha; exact .inr ⟨rfl, by omega, h2⟩
    ·exact .inl ⟨by omega, h2, h3⟩
  ·rename_i h
   rw [ih]
   constructor
   ·rintro ⟨h1, h2, h3⟩; exact ⟨by omega, h2, h3⟩
   ·rintro ⟨h1, h2, h3⟩
    by_cases ha : a = i
    ·subst ha; subst h2; exact absurd h3 h
    ·exact ⟨by omega, h2, h3⟩
theorem O7 {r : Rel} {fen : List Int} {a b : Nat} (hin : ∀ k, k < fen.length → 0 ≤ Ad fen k ∧ Ad fen k < r.length) : ∀ k, k ≤ fen.length - 1 →
  (A0 (Gt r fen k) a b = true ↔ A0 r a b = true ∨ ∃ j, j < k ∧ Ad fen j = a ∧ Ad fen (j + 1) = b)
 | 0, _ => by simp [Gt]
 | k + 1, hk => by
  have ih := O7 (r := r) (a := a) (b := b) hin k (by omega)
  have h1 := hin k (by omega)
  have h2 := hin (k + 1) (by omega)
  simp only [Ad] at h1 h2 ih ⊢
  rw [Gt, Et, ih, Ka]
  constructor
  ·rintro ((h | ⟨j, q1, q2, q3⟩) | ⟨q1, q2, q3⟩)
   ·exact .inl h
   ·exact .inr ⟨j, by omega, q2, q3⟩
   ·exact .inr ⟨k, by omega, by omega, by omega⟩
  ·rintro (h | ⟨j, q1, q2, q3⟩)
   ·exact .inl (.inl h)
   ·by_cases hj : j = k
    ·subst hj; exact .inr ⟨by omega, by omega, by omega⟩
    ·exact .inl (.inr ⟨j, by omega, q2, q3⟩)
def Sb1 (p : List Ev) (a b : Nat) : Prop := b = a + 1 ∧ b < p.length ∧ (evAt p b).th = (evAt p a).th
def Fo1 (fen : List Int) (a b : Nat) : Prop := ∃ j, j + 1 < fen.length ∧ Ad fen j = a ∧ Ad fen (j + 1) = b
def Rf (e : Exec) (n a b : Nat) : Prop := b < n ∧ Ae e b = a
theorem He.num {p : List Ev} {l : List Int} (h : He p l) {k : Nat} (hk : k < l.length) : 0 ≤ Ad l k ∧ Ad l k < p.length := h.at hk
theorem O8 {p : List Ev} {fen : List Int} (hf : He p fen) {a b : Nat} : A0 (Hd p fen) a b = true ↔ Sb1 p a b ∨ Fo1 fen a b := by
 have hl : (C2 p (p.length - 1)).length = p.length := Fu _ _
 rw [Hd, O7 (fun k hk => by rw [hl]; exact hf.num hk) _ (Nat.le_refl _), O6 _ _ _ _ (Nat.le_refl _)]
 unfold Sb1 Fo1
 constructor
 ·rintro (⟨h1, h2, h3⟩ | ⟨j, h1, h2, h3⟩)
  ·exact .inl ⟨h2, by omega, h3⟩
  ·exact .inr ⟨j, by omega, h2, h3⟩
 ·rintro (⟨h1, h2, h3⟩ | ⟨j, h1, h2, h3⟩)
  ·exact .inl ⟨by omega, h1, h3⟩
  ·exact .inr ⟨j, by omega, h2, h3⟩
theorem It {q : Rel} {e : Exec} : ∀ r, (Dk q e r).length = q.length
 | 0 => rfl
 | r + 1 => by
  simp only [Dk]
  split
  ·rw [D4, It r]
  ·exact It r
theorem Mn {q : Rel} {e : Exec} {a b : Nat} (hfr : ∀ i : Nat, i < q.length → Ae e i < q.length) : ∀ r, r ≤ q.length → (A0 (Dk q e r) a b = true ↔ A0 q a b = true ∨ Rf e r a b)
 | 0, _ => by simp [Dk, Rf]
 | r + 1, hr => by
  have ih := Mn (a := a) (b := b) hfr r (by omega)
  have := hfr r (by omega)
  unfold Rf at ih ⊢
  simp only [Dk]
  split
  ·rename_i h0
   rw [Et, ih, It]
   constructor
   ·rintro ((h | ⟨h1, h2⟩) | ⟨h1, h2, rfl⟩)
    ·exact .inl h
    ·exact .inr ⟨by omega, h2⟩
    ·exact .inr ⟨by omega, by omega⟩
   ·rintro (h | ⟨h1, h2⟩)
    ·exact .inl (.inl h)
    ·by_cases hb : b = r
     ·subst hb; exact .inr ⟨by omega, by omega, rfl⟩
     ·exact .inl (.inr ⟨by omega, h2⟩)
  ·rename_i h0
   rw [ih]
   constructor
   ·rintro (h | ⟨h1, h2⟩)
    ·exact .inl h
    ·exact .inr ⟨by omega, h2⟩
   ·rintro (h | ⟨h1, h2⟩)
    ·exact .inl h
    ·by_cases hb : b = r
     ·subst hb; omega
     ·exact .inr ⟨by omega, h2⟩
theorem O9 {p : List Ev} {e : Exec} (hx : XOk p e) : Bn (Rt p e) = true ↔ ∃ a, TG (fun a b => Sb1 p a b ∨ Fo1 e.fen a b ∨ Rf e p.length a b) a a := by
 have hst : (Hd p e.fen).length = p.length := (stepsP_ok hx.fin.1).len
 have hok := roundGo_ok (stepsP_ok hx.fin.1) hx _ (Nat.le_refl _)
 rw [Ge]
 refine exists_congr fun a => ?_
 rw [Rt, Ey hok]
 refine TG.congr fun x y => ?_
 rw [Mn (fun i hi => by rw [hst] at hi ⊢; exact (hx.fr i hi).1) _ (by rw [hst]; exact Nat.le_refl _), O8 hx.fin.1, or_assoc]
theorem Kw (p : List Ev) (w c : Nat) : ∀ (a s : Nat), (Ep p w a s).testBit c = true ↔ s.testBit c = true ∨ (c < a ∧ (∀ x, c ≤ x → x < a → (evAt p x).th = (evAt p w).th) ∧ (evAt p c).op.kind = 5 ∧ (evAt p c).rel = true)
 | 0, s => by simp [Ep]
 | a + 1, s => by
  simp only [Ep]
  split
  ·rename_i hth
   rw [Kw p w c a]
   have hs : (if (evAt p a).op.kind = 5 ∧ (evAt p a).rel = true then s ||| 2 ^ a else s).testBit c = true ↔ s.testBit c = true ∨ (c = a ∧ (evAt p c).op.kind = 5 ∧ (evAt p c).rel = true) := by
    split
    ·rename_i h
     simp only [Nat.testBit_or, Bool.or_eq_true, Nat.testBit_two_pow, decide_eq_true_eq]
     constructor
     ·rintro (h1 | rfl)
      ·exact .inl h1
      ·exact .inr ⟨rfl, h⟩
     ·rintro (h1 | ⟨rfl, _⟩)
      ·exact .inl h1
      ·exact .inr rfl
    ·rename_i h
     constructor
     ·exact .inl
     ·rintro (h1 | ⟨rfl, h2⟩)
      ·exact h1
      ·exact absurd h2 h
   rw [hs]
   constructor
   ·rintro ((h | ⟨rfl, h⟩) | ⟨h1, h2, h3⟩)
    ·exact .inl h
    ·exact .inr ⟨by omega, fun x q1 q2 => by rw [show x = c by omega]; exact hth, h⟩
    ·refine .inr ⟨by omega, fun x q1 q2 => ?_, h3⟩
     by_cases hx : x = a
     ·rw [hx]; exact hth
     ·exact h2 x q1 (by omega)
   ·rintro (h | ⟨h1, h2, h3⟩)
    ·exact .inl (.inl h)
    ·by_cases hc : c = a
     ·exact .inl (.inr ⟨hc, h3⟩)
     ·exact .inr ⟨by omega, fun x q1 q2 => h2 x q1 (by omega), h3⟩
  ·rename_i hth
   constructor
   ·exact .inl
   ·rintro (h | ⟨h1, h2, h3⟩)
    ·exact h
    ·exact absurd (h2 a (by omega) (by omega)) hth
def Lo (p : List Ev) : Prop := ∀ a b, a ≤ b → b < p.length → (evAt p a).th ≤ (evAt p b).th
theorem Lo.between {p : List Ev} (h : Lo p) {a b x : Nat} (hb : b < p.length) (h1 : a ≤ x) (h2 : x ≤ b) (he : (evAt p a).th = (evAt p b).th) : (evAt p x).th = (evAt p b).th := by
 have q1 := h a x h1 (by omega)
 have q2 := h x b h2 hb
 omega
def Rv (p : List Ev) (w c : Nat) : Prop := (evAt p c).rel = true ∧ (c = w ∨ (c < w ∧ (evAt p c).th = (evAt p w).th ∧ (evAt p c).op.kind = 5))
def Z8 (p : List Ev) (r c : Nat) : Prop := (evAt p c).acq = true ∧ (c = r ∨ (r < c ∧ c < p.length ∧ (evAt p c).th = (evAt p r).th ∧ (evAt p c).op.kind = 5))
theorem Mo {p : List Ev} (hm : Lo p) {w c : Nat} (hw : w < p.length) : (E3 p w).testBit c = true ↔ Rv p w c := by
 rw [E3, Kw]
 unfold Rv
 constructor
 ·rintro (h | ⟨h1, h2, h3, h4⟩)
  ·split at h
   ·rename_i hr
    rw [Nat.testBit_two_pow, decide_eq_true_eq] at h
    subst h; exact ⟨hr, .inl rfl⟩
   ·simp at h
  ·exact ⟨h4, .inr ⟨h1, h2 c (Nat.le_refl _) h1, h3⟩⟩
 ·rintro ⟨h1, rfl | ⟨h2, h3, h4⟩⟩
  ·left; rw [if_pos h1]; simp
  ·right
   exact ⟨h2, fun x q1 q2 => hm.between hw q1 (by omega) h3, h4, h1⟩
theorem Pa (p : List Ev) (r c : Nat) : ∀ (f b s : Nat), (Ji p r f b s).testBit c = true ↔ s.testBit c = true ∨ (b ≤ c ∧ c < b + f ∧ (∀ x, b ≤ x → x ≤ c → (evAt p x).th = (evAt p r).th) ∧ (evAt p c).op.kind = 5 ∧ (evAt p c).acq = true)
 | 0, b, s => by
  simp only [Ji]
  constructor
  ·exact .inl
  ·rintro (h | ⟨h1, h2, _⟩)
   ·exact h
   ·omega
 | f + 1, b, s => by
  simp only [Ji]
  split
  ·rename_i hth
   rw [Pa p r c f]
   have hs : (if (evAt p b).op.kind = 5 ∧ (evAt p b).acq = true then s ||| 2 ^ b else s).testBit c = true ↔ s.testBit c = true ∨ (c = b ∧ (evAt p c).op.kind = 5 ∧ (evAt p c).acq = true) := by
    split
    ·rename_i h
     simp only [Nat.testBit_or, Bool.or_eq_true, Nat.testBit_two_pow, decide_eq_true_eq]
     constructor
     ·rintro (h1 | rfl)
      ·exact .inl h1
      ·exact .inr ⟨rfl, h⟩
     ·rintro (h1 | ⟨rfl, _⟩)
      ·exact .inl h1
      ·exact .inr rfl
    ·rename_i h
     constructor
     ·exact .inl
     ·rintro (h1 | ⟨rfl, h2⟩)
      ·exact h1
      ·exact absurd h2 h
   rw [hs]
   constructor
   ·rintro ((h | ⟨rfl, h⟩) | ⟨h1, h2, h3, h4⟩)
    ·exact .inl h
    ·exact .inr ⟨by omega, by omega, fun x q1 q2 => by rw [show x = c by omega]; exact hth, h⟩
    ·refine .inr ⟨by omega, by omega, fun x q1 q2 => ?_, h4⟩
     by_cases hx : x = b
     ·rw [hx]; exact hth
     ·exact h3 x (by omega) q2
   ·rintro (h | ⟨h1, h2, h3, h4⟩)
    ·exact .inl (.inl h)
    ·by_cases hc : c = b
     ·exact .inl (.inr ⟨hc, h4⟩)
     ·exact .inr ⟨by omega, by omega, fun x q1 q2 => h3 x (by omega) q2, h4⟩
  ·rename_i hth
   constructor
   ·exact .inl
   ·rintro (h | ⟨h1, h2, h3, h4⟩)
    ·exact h
    ·exact absurd (h3 b (by omega) h1) hth
theorem Yz {p : List Ev} (hm : Lo p) {r c : Nat} (hr : r < p.length) : (Iq p r).testBit c = true ↔ Z8 p r c := by
 rw [Iq, Pa]
 unfold Z8
 constructor
 ·rintro (h | ⟨h1, h2, h3, h4, h5⟩)
  ·split at h
   ·rename_i hr
    rw [Nat.testBit_two_pow, decide_eq_true_eq] at h
    subst h; exact ⟨hr, .inl rfl⟩
   ·simp at h
  ·exact ⟨h5, .inr ⟨by omega, by omega, h3 c h1 (Nat.le_refl _), h4⟩⟩
 ·rintro ⟨h1, rfl | ⟨h2, h3, h4, h5⟩⟩
  ·left; rw [if_pos h1]; simp
  ·right
   refine ⟨by omega, by omega, fun x q1 q2 => ?_, h5, h1⟩
   have := hm.between (a := r) (b := c) (x := x) h3 (by omega) q2 h4.symm
   rw [this, h4]
end Go.EV

namespace Go.EV
open Go.Proofs
theorem Mp : ∀ (n : Nat) (l : List Nat), l.Nodup → (∀ x ∈ l, x < n) → l.length ≤ n
 | 0, l, _, h => by
  rcases l with _ | ⟨x, l⟩
  ·exact Nat.le_refl _
  ·exact absurd (h x (List.mem_cons_self ..)) (Nat.not_lt_zero _)
 | n + 1, l, hn, h => by
  have h1 := Mp n (l.erase n) (hn.erase n) (fun x hx => by
   obtain ⟨h1, h2⟩ := (hn.mem_erase_iff).1 hx
   have := h x h2; omega)
  have h2 : l.length ≤ (l.erase n).length + 1 := by
   rw [List.length_erase]; split <;> omega
  omega
theorem Ag5 {R : Nat → Nat → Prop} {f : Nat → Nat} {m : Nat} (h : ∀ i, i < m → R (f i) (f (i + 1))) : ∀ (d i : Nat), i + d + 1 ≤ m → TG R (f i) (f (i + d + 1))
 | 0, i, hi => .one (h i (by omega))
 | d + 1, i, hi => (Ag5 h d i (by omega)).trans (.one (h (i + d + 1) (by omega)))
theorem Qd {R : Nat → Nat → Prop} {n m : Nat} {f : Nat → Nat} (hac : ∀ a, ¬ TG R a a) (h : ∀ i, i < m → R (f i) (f (i + 1))) (hlt : ∀ i, i ≤ m → f i < n) : m < n := by
 have hnd : ((List.range (m + 1)).map f).Nodup := by
  rw [List.nodup_iff_pairwise_ne, List.pairwise_map, List.pairwise_iff_getElem]
  intro i j hi hj hij he
  rw [List.length_range] at hi hj
  simp only [List.getElem_range] at he
  have := Ag5 h (j - i - 1) i (by omega)
  rw [show i + (j - i - 1) + 1 = j by omega, ← he] at this
  exact hac _ this
 have := Mp n _ hnd (fun x hx => by
  obtain ⟨i, hi, rfl⟩ := List.mem_map.1 hx
  rw [List.mem_range] at hi
  exact hlt i (by omega))
 simp at this
 omega
def Ex1 (p : List Ev) (e : Exec) (w v : Nat) : Prop := Mb p e w = true ∧ Ae e w = v
inductive Back (p : List Ev) (e : Exec) : Nat → Nat → Prop
 | here {w : Nat} : Back p e w w
 | on {w v u : Nat} (h : Ex1 p e w v) (t : Back p e v u) : Back p e w u
theorem Mq {p : List Ev} (hm : Lo p) {e : Exec} (hx : XOk p e) {c : Nat} : ∀ (k w s : Nat), w < p.length → ((Cw p e k w s).testBit c = true → s.testBit c = true ∨ ∃ v, Back p e w v ∧ Rv p v c)
 | 0, w, s, hw, h => .inl (by simpa [Cw] using h)
 | k + 1, w, s, hw, h => by
  have hor : (s ||| E3 p w).testBit c = true → s.testBit c = true ∨ ∃ v, Back p e w v ∧ Rv p v c := by
   rw [Nat.testBit_or, Bool.or_eq_true, Mo hm hw]
   rintro (h | h)
   ·exact .inl h
   ·exact .inr ⟨w, .here, h⟩
  simp only [Cw] at h
  split at h
  ·rename_i hc
   have hf := (hx.fr w hw).1
   have hf' : (Ae e w).toNat < p.length := by unfold Ae at *; omega
   rcases Mq hm hx k _ _ hf' h with h | ⟨v, h1, h2⟩
   ·exact hor h
   ·exact .inr ⟨v, .on ⟨hc.1, by omega⟩ h1, h2⟩
  ·exact hor h
theorem Ms {p : List Ev} {e : Exec} {c : Nat} : ∀ (k w s : Nat), s.testBit c = true → (Cw p e k w s).testBit c = true
 | 0, w, s, h => h
 | k + 1, w, s, h => by
  simp only [Cw]
  split
  ·exact Ms k _ _ (by rw [Nat.testBit_or, h]; rfl)
  ·rw [Nat.testBit_or, h]; rfl
def Od (p : List Ev) (e : Exec) : Nat → Nat → Nat → Prop
 | 0, w, u => w = u
 | n + 1, w, u => ∃ v, Ex1 p e w v ∧ Od p e n v u
theorem Back.n {p : List Ev} {e : Exec} {w u : Nat} (h : Back p e w u) : ∃ n, Od p e n w u := by
 induction h with
 | here => exact ⟨0, rfl⟩
 | on h _ ih => obtain ⟨n, hn⟩ := ih; exact ⟨n + 1, _, h, hn⟩
theorem Od.back {p : List Ev} {e : Exec} : ∀ {n w u : Nat}, Od p e n w u → Back p e w u
 | 0, _, _, h => by cases h; exact .here
 | _ + 1, _, _, ⟨_, h1, h2⟩ => .on h1 (Od.back h2)
theorem Od.way {p : List Ev} {e : Exec} : ∀ {n w u : Nat}, Od p e n w u → ∃ f : Nat → Nat, f 0 = w ∧ f n = u ∧ ∀ i, i < n → Ex1 p e (f i) (f (i + 1))
 | 0, w, u, h => ⟨fun _ => w, rfl, h, fun i hi => by omega⟩
 | n + 1, w, u, ⟨v, h1, h2⟩ => by
  obtain ⟨f, q1, q2, q3⟩ := Od.way h2
  refine ⟨fun i => if i = 0 then w else f (i - 1), rfl, by simpa using q2, fun i hi => ?_⟩
  by_cases h0 : i = 0
  ·subst h0; simpa [q1] using h1
  ·have h' := q3 (i - 1) (by omega)
   rw [show i - 1 + 1 = i by omega] at h'
   simpa [h0] using h'
theorem Kb {p : List Ev} {e : Exec} (hx : XOk p e) {w : Nat} (h : Mb p e w = true) : w < p.length := by
 unfold Mb at h
 simp only [Bool.and_eq_true] at h
 apply Decidable.byContradiction; intro hn
 have : e.dn[w]? = none := List.getElem?_eq_none (by rw [hx.dl]; omega)
 rw [this] at h; simp at h
def Y0 (p : List Ev) (e : Exec) : Prop := ∀ a, ¬ TG (Rf e p.length) a a
theorem Mt {p : List Ev} (hm : Lo p) {e : Exec} (hx : XOk p e) {c : Nat} : ∀ (k w s n u : Nat), w < p.length → n < k → Od p e n w u → Rv p u c → (Cw p e k w s).testBit c = true
 | 0, w, s, n, u, _, hn, _, _ => by omega
 | k + 1, w, s, 0, u, hw, hn, hb, hr => by
  have hwu : w = u := hb
  subst hwu
  have : (s ||| E3 p w).testBit c = true := by rw [Nat.testBit_or, (Mo hm hw).2 hr]; simp
  simp only [Cw]
  split
  ·exact Ms _ _ _ this
  ·exact this
 | k + 1, w, s, n + 1, u, hw, hn, ⟨v, ⟨h1, h2⟩, h3⟩, hr => by
  simp only [Cw]
  rw [if_pos ⟨h1, by omega⟩]
  have hv : (Ae e w).toNat = v := by omega
  rw [hv]
  have hf := (hx.fr w hw).1
  exact Mt hm hx k v _ n u (by unfold Ae at h2; omega) (by omega) h3 hr
theorem Wv {p : List Ev} (hm : Lo p) {e : Exec} (hx : XOk p e) (hac : Y0 p e) {r w c : Nat} (hr : r < p.length) (hw : Ae e r = w) : (Eb p e r).testBit c = true ↔ ∃ v, Back p e w v ∧ Rv p v c := by
 have hwl : w < p.length := by
  have := (hx.fr r hr).1
  unfold Ae at hw; omega
 have hwn : (Ae e r).toNat = w := by omega
 rw [Eb, hwn]
 constructor
 ·intro h
  rcases Mq hm hx _ _ _ hwl h with h | h
  ·simp at h
  ·exact h
 ·rintro ⟨v, hb, hc⟩
  obtain ⟨n, hn⟩ := hb.n
  refine Mt hm hx _ _ _ n v hwl ?_ hn hc
  obtain ⟨f, q1, q2, q3⟩ := hn.way
  refine Qd (R := fun a b => Rf e p.length b a) (f := f) (m := n) (fun a ha => hac a ?_) (fun i hi => ?_) (fun i hi => ?_)
  ·have key : ∀ a b, TG (fun a b => Rf e p.length b a) a b → TG (Rf e p.length) b a := by
    intro a b h
    induction h with
    | one h => exact .one h
    | more h _ ih => exact ih.trans (.one h)
   exact key a a ha
  ·have := q3 i hi
   exact ⟨Kb hx this.1, this.2⟩
  ·by_cases h0 : i = 0
   ·subst h0; rw [q1]; exact hwl
   ·have := q3 (i - 1) (by omega)
    rw [show i - 1 + 1 = i by omega] at this
    have h1 := (hx.fr _ (Kb hx this.1)).1
    have h2 := this.2
    unfold Ae at h2; omega
def Sw (p : List Ev) (e : Exec) (a b : Nat) : Prop := ∃ r w v, r < p.length ∧ (evAt p r).reads = true ∧ Ae e r = (w : Nat) ∧ Back p e w v ∧ Rv p v a ∧ Z8 p r b
theorem Jn {q : Rel} {set to : Nat} : ∀ a, (H9 q set to a).length = q.length
 | 0 => rfl
 | a + 1 => by
  simp only [H9]
  split
  ·rw [Qc, Jn a]
  ·exact Jn a
theorem Rw {q : Rel} {set to x y : Nat} : ∀ a, a ≤ q.length → (A0 (H9 q set to a) x y = true ↔ A0 q x y = true ∨ (x < a ∧ set.testBit x = true ∧ to.testBit y = true))
 | 0, _ => by simp [H9]
 | a + 1, ha => by
  have ih := Rw (q := q) (set := set) (to := to) (x := x) (y := y) a (by omega)
  simp only [H9]
  split
  ·rename_i h
   rw [Ml, Bool.or_eq_true, ih, Jn]
   simp only [Bool.and_eq_true, decide_eq_true_eq]
   constructor
   ·rintro ((h1 | ⟨h1, h2⟩) | ⟨⟨h1, h2⟩, h3⟩)
    ·exact .inl h1
    ·exact .inr ⟨by omega, h2⟩
    ·subst h1; exact .inr ⟨by omega, h, h3⟩
   ·rintro (h1 | ⟨h1, h2, h3⟩)
    ·exact .inl (.inl h1)
    ·by_cases hxa : x = a
     ·subst hxa; exact .inr ⟨⟨rfl, by omega⟩, h3⟩
     ·exact .inl (.inr ⟨by omega, h2, h3⟩)
  ·rename_i h
   rw [ih]
   constructor
   ·rintro (h1 | ⟨h1, h2⟩)
    ·exact .inl h1
    ·exact .inr ⟨by omega, h2⟩
   ·rintro (h1 | ⟨h1, h2, h3⟩)
    ·exact .inl h1
    ·by_cases hxa : x = a
     ·subst hxa; exact absurd h2 h
     ·exact .inr ⟨by omega, h2, h3⟩
theorem Rv.lt {p : List Ev} {w c : Nat} (h : Rv p w c) (hw : w < p.length) : c < p.length := by
 rcases h.2 with rfl | ⟨h, _⟩ <;> omega
theorem Back.lt {p : List Ev} {e : Exec} (hx : XOk p e) {w v : Nat} (h : Back p e w v) (hw : w < p.length) : v < p.length := by
 induction h with
 | here => exact hw
 | on h _ ih =>
  have h1 := (hx.fr _ (Kb hx h.1)).1
  have h2 := h.2
  exact ih (by unfold Ae at h2; omega)
theorem Mu {p : List Ev} {e : Exec} : ∀ r, (Hf p e r).length = p.length
 | 0 => by rw [Hf, Hd, Ka, Fu]
 | r + 1 => by
  simp only [Hf]
  split
  ·rw [Jn, Mu r]
  ·exact Mu r
theorem Rx {p : List Ev} (hm : Lo p) {e : Exec} (hx : XOk p e) (hac : Y0 p e) {a b : Nat} : ∀ n, n ≤ p.length →
  (A0 (Hf p e n) a b = true ↔ Sb1 p a b ∨ Fo1 e.fen a b ∨ ∃ r w v, r < n ∧ (evAt p r).reads = true ∧ Ae e r = (w : Nat) ∧ Back p e w v ∧ Rv p v a ∧ Z8 p r b)
 | 0, _ => by
  rw [Hf, O8 hx.fin.1]
  constructor
  ·rintro (h | h)
   ·exact .inl h
   ·exact .inr (.inl h)
  ·rintro (h | h | ⟨r, w, v, h, _⟩)
   ·exact .inl h
   ·exact .inr h
   ·omega
 | n + 1, hn => by
  have ih := Rx hm hx hac (a := a) (b := b) n (by omega)
  simp only [Hf]
  split
  ·rename_i h
   obtain ⟨w, hw⟩ : ∃ w : Nat, Ae e n = w := ⟨(Ae e n).toNat, by omega⟩
   have hwl : w < p.length := by
    have := (hx.fr n (by omega)).1
    unfold Ae at hw; omega
   rw [Rw _ (by rw [Mu]; exact Nat.le_refl _), ih, Wv hm hx hac (by omega) hw, Yz hm (by omega)]
   constructor
   ·rintro ((h1 | h1 | ⟨r, w', v, h1, h2⟩) | ⟨h1, ⟨v, h2, h3⟩, h4⟩)
    ·exact .inl h1
    ·exact .inr (.inl h1)
    ·exact .inr (.inr ⟨r, w', v, by omega, h2⟩)
    ·exact .inr (.inr ⟨n, w, v, by omega, h.1, hw, h2, h3, h4⟩)
   ·rintro (h1 | h1 | ⟨r, w', v, h1, h2, h3, h4, h5, h6⟩)
    ·exact .inl (.inl h1)
    ·exact .inl (.inr (.inl h1))
    ·by_cases hr : r = n
     ·subst hr
      have : w' = w := by omega
      subst this
      exact .inr ⟨h5.lt (h4.lt hx hwl), ⟨v, h4, h5⟩, h6⟩
     ·exact .inl (.inr (.inr ⟨r, w', v, by omega, h2, h3, h4, h5, h6⟩))
  ·rename_i h
   rw [ih]
   constructor
   ·rintro (h1 | h1 | ⟨r, w', v, h1, h2⟩)
    ·exact .inl h1
    ·exact .inr (.inl h1)
    ·exact .inr (.inr ⟨r, w', v, by omega, h2⟩)
   ·rintro (h1 | h1 | ⟨r, w', v, h1, h2, h3, h4⟩)
    ·exact .inl h1
    ·exact .inr (.inl h1)
    ·by_cases hr : r = n
     ·subst hr
      exact absurd ⟨h2, by omega⟩ h
     ·exact .inr (.inr ⟨r, w', v, by omega, h2, h3, h4⟩)
def Hb (p : List Ev) (e : Exec) : Nat → Nat → Prop := TG fun a b => Sb1 p a b ∨ Fo1 e.fen a b ∨ Sw p e a b
theorem Iu {p : List Ev} (hm : Lo p) {e : Exec} (hx : XOk p e) (hac : Y0 p e) {a b : Nat} : A0 (Fh p e) a b = true ↔ Hb p e a b := by
 rw [Fh, Ey (befGo_ok hx _ (Nat.le_refl _))]
 exact TG.congr fun x y => Rx hm hx hac _ (Nat.le_refl _)
def Co1 (l : List Int) (a b : Nat) : Prop := ∃ i j, i < j ∧ j < l.length ∧ Ad l i = a ∧ Ad l j = b
def Fr1 (p : List Ev) (e : Exec) (r w : Nat) : Prop := r < p.length ∧ (evAt p r).reads = true ∧ w ≠ r ∧ ∃ j, j < (J5 p e r).length ∧ Ad (J5 p e r) j = w ∧ (Ae e r = -1 ∨ ∃ i, i < j ∧ Ad (J5 p e r) i = Ae e r)
theorem Qe {q : Rel} {l : List Int} {i : Nat} : ∀ j, (Z7 q l i j).length = q.length
 | 0 => rfl
 | j + 1 => by rw [Z7, D4, Qe j]
theorem Qf {q : Rel} {l : List Int} : ∀ i, (Yv q l i).length = q.length
 | 0 => rfl
 | i + 1 => by rw [Yv, Qe, Qf i]
theorem Qg {q : Rel} {ord : List (List Int)} : ∀ i, (Xn q ord i).length = q.length
 | 0 => rfl
 | i + 1 => by rw [Xn, Qf, Qg i]
theorem Vh {q : Rel} {l : List Int} (hin : ∀ k, k < l.length → 0 ≤ Ad l k ∧ Ad l k < q.length) {i a b : Nat} : ∀ j, i + 1 + j ≤ l.length →
  (A0 (Z7 q l i j) a b = true ↔ A0 q a b = true ∨ (Ad l i = a ∧ ∃ k, i < k ∧ k < i + 1 + j ∧ Ad l k = b))
 | 0, _ => by
  simp only [Z7]
  constructor
  ·exact .inl
  ·rintro (h | ⟨_, k, h1, h2, _⟩)
   ·exact h
   ·omega
 | j + 1, hj => by
  have ih := Vh hin (i := i) (a := a) (b := b) j (by omega)
  have h1 := hin i (by omega)
  have h2 := hin (i + 1 + j) (by omega)
  rw [Z7, Et, ih, Qe]
  constructor
  ·rintro ((h | ⟨q1, k, q2, q3, q4⟩) | ⟨q1, q2, q3⟩)
   ·exact .inl h
   ·exact .inr ⟨q1, k, q2, by omega, q4⟩
   ·exact .inr ⟨by omega, i + 1 + j, by omega, by omega, by omega⟩
  ·rintro (h | ⟨q1, k, q2, q3, q4⟩)
   ·exact .inl (.inl h)
   ·by_cases hk : k = i + 1 + j
    ·subst hk; exact .inr ⟨by omega, by omega, by omega⟩
    ·exact .inl (.inr ⟨q1, k, q2, by omega, q4⟩)
theorem Vi {q : Rel} {l : List Int} (hin : ∀ k, k < l.length → 0 ≤ Ad l k ∧ Ad l k < q.length) {a b : Nat} : ∀ i, i ≤ l.length →
  (A0 (Yv q l i) a b = true ↔ A0 q a b = true ∨ ∃ x y, x < i ∧ x < y ∧ y < l.length ∧ Ad l x = a ∧ Ad l y = b)
 | 0, _ => by
  simp only [Yv]
  constructor
  ·exact .inl
  ·rintro (h | ⟨x, y, h1, _⟩)
   ·exact h
   ·omega
 | i + 1, hi => by
  have ih := Vi hin (a := a) (b := b) i (by omega)
  rw [Yv, Vh (by rw [Qf]; exact hin) _ (by omega), ih]
  constructor
  ·rintro ((h | ⟨x, y, h1, h2⟩) | ⟨h1, k, h2, h3, h4⟩)
   ·exact .inl h
   ·exact .inr ⟨x, y, by omega, h2⟩
   ·exact .inr ⟨i, k, by omega, h2, by omega, h1, h4⟩
  ·rintro (h | ⟨x, y, h1, h2, h3, h4, h5⟩)
   ·exact .inl (.inl h)
   ·by_cases hx : x = i
    ·subst hx; exact .inr ⟨h4, y, h2, by omega, h5⟩
    ·exact .inl (.inr ⟨x, y, by omega, h2, h3, h4, h5⟩)
theorem Vj {p : List Ev} {q : Rel} (hq : q.length = p.length) {ord : List (List Int)} (ho : ∀ l ∈ ord, He p l) {a b : Nat} : ∀ k, k ≤ ord.length →
  (A0 (Xn q ord k) a b = true ↔ A0 q a b = true ∨ ∃ i l, i < k ∧ ord[i]? = some l ∧ Co1 l a b)
 | 0, _ => by
  simp only [Xn]
  constructor
  ·exact .inl
  ·rintro (h | ⟨x, y, h1, _⟩)
   ·exact h
   ·omega
 | k + 1, hk => by
  have ih := Vj hq ho (a := a) (b := b) k (by omega)
  have hg : ord[k]? = some ord[k] := List.getElem?_eq_getElem (by omega)
  have hin : He p ord[k] := ho _ (List.getElem_mem _)
  rw [Xn, hg, Option.getD_some, Vi (fun j hj => by rw [Qg, hq]; exact hin.num hj) _ (Nat.le_refl _), ih]
  constructor
  ·rintro ((h | ⟨i, l, h1, h2⟩) | ⟨x, y, h1, h2, h3, h4, h5⟩)
   ·exact .inl h
   ·exact .inr ⟨i, l, by omega, h2⟩
   ·exact .inr ⟨k, ord[k], by omega, hg, x, y, h2, h3, h4, h5⟩
  ·rintro (h | ⟨i, l, h1, h2, h3⟩)
   ·exact .inl (.inl h)
   ·by_cases hi : i = k
    ·subst hi
     rw [hg] at h2; cases h2
     obtain ⟨x, y, q1, q2, q3, q4⟩ := h3
     exact .inr ⟨x, y, by omega, q1, q2, q3, q4⟩
    ·exact .inl (.inr ⟨i, l, by omega, h2, h3⟩)
theorem Lp {q : Rel} {r : Nat} {fr : Int} {l : List Int} : ∀ i, (P6 q r fr l i).1.length = q.length
 | 0 => rfl
 | i + 1 => by
  simp only [P6]
  split
  ·rw [D4, Lp i]
  ·exact Lp i
theorem Mv {q : Rel} {r : Nat} {fr : Int} {l : List Int} : ∀ i, (P6 q r fr l i).2 = true ↔ fr = -1 ∨ ∃ j, j < i ∧ Ad l j = fr
 | 0 => by simp [P6]
 | i + 1 => by
  simp only [P6, Bool.or_eq_true, decide_eq_true_eq]
  rw [Mv i]
  constructor
  ·rintro ((h | ⟨j, h1, h2⟩) | h)
   ·exact .inl h
   ·exact .inr ⟨j, by omega, h2⟩
   ·exact .inr ⟨i, by omega, h⟩
  ·rintro (h | ⟨j, h1, h2⟩)
   ·exact .inl (.inl h)
   ·by_cases hj : j = i
    ·subst hj; exact .inr h2
    ·exact .inl (.inr ⟨j, by omega, h2⟩)
theorem Vk {q : Rel} {r : Nat} (hr : r < q.length) {fr : Int} {l : List Int} (hin : ∀ k, k < l.length → 0 ≤ Ad l k ∧ Ad l k < q.length) {a b : Nat} : ∀ i, i ≤ l.length →
  (A0 (P6 q r fr l i).1 a b = true ↔ A0 q a b = true ∨ (a = r ∧ b ≠ r ∧ ∃ j, j < i ∧ Ad l j = b ∧ (fr = -1 ∨ ∃ k, k < j ∧ Ad l k = fr)))
 | 0, _ => by
  simp only [P6]
  constructor
  ·exact .inl
  ·rintro (h | ⟨_, _, j, h1, _⟩)
   ·exact h
   ·omega
 | i + 1, hi => by
  have ih := Vk hr hin (a := a) (b := b) (fr := fr) i (by omega)
  have h0 := hin i (by omega)
  simp only [P6]
  split
  ·rename_i h
   rw [Mv] at h
   rw [Et, ih, Lp]
   constructor
   ·rintro ((h1 | ⟨h1, h2, j, h3, h4⟩) | ⟨h1, h2, h3⟩)
    ·exact .inl h1
    ·exact .inr ⟨h1, h2, j, by omega, h4⟩
    ·exact .inr ⟨h1, by omega, i, by omega, by omega, h.1⟩
   ·rintro (h1 | ⟨h1, h2, j, h3, h4, h5⟩)
    ·exact .inl (.inl h1)
    ·by_cases hj : j = i
     ·subst hj; exact .inr ⟨h1, hr, by omega⟩
     ·exact .inl (.inr ⟨h1, h2, j, by omega, h4, h5⟩)
  ·rename_i h
   rw [Mv] at h
   rw [ih]
   constructor
   ·rintro (h1 | ⟨h1, h2, j, h3, h4⟩)
    ·exact .inl h1
    ·exact .inr ⟨h1, h2, j, by omega, h4⟩
   ·rintro (h1 | ⟨h1, h2, j, h3, h4, h5⟩)
    ·exact .inl h1
    ·by_cases hj : j = i
     ·subst hj; exact absurd ⟨h5, fun e => h2 (Int.ofNat.inj (h4.symm.trans e))⟩ h
     ·exact .inr ⟨h1, h2, j, by omega, h4, h5⟩
theorem H0 {p : List Ev} {e : Exec} : ∀ r, (Oa p e r).length = p.length
 | 0 => by rw [Oa, Qg, List.length_replicate]
 | r + 1 => by
  simp only [Oa]
  split
  ·rw [Lp, Mc]
   split
   ·rw [D4, H0 r]
   ·exact H0 r
  ·exact H0 r
def Cn0 (p : List Ev) (e : Exec) (a b : Nat) : Prop := (∃ l ∈ e.ord, Co1 l a b) ∨ ((evAt p b).reads = true ∧ Rf e p.length a b) ∨ Fr1 p e a b
theorem Vl {p : List Ev} (hp : POk p) {e : Exec} (hx : XOk p e) {a b : Nat} : ∀ n, n ≤ p.length →
  (A0 (Oa p e n) a b = true ↔ (∃ l ∈ e.ord, Co1 l a b) ∨ ((evAt p b).reads = true ∧ Rf e n a b) ∨ (a < n ∧ Fr1 p e a b))
 | 0, _ => by
  rw [Oa, Vj (p := p) (by simp) (fun l hl => (hx.oin l hl).1) _ (Nat.le_refl _), Mm]
  constructor
  ·rintro (h | ⟨i, l, h1, h2, h3⟩)
   ·cases h
   ·exact .inl ⟨l, List.mem_of_getElem? h2, h3⟩
  ·rintro (⟨l, h1, h2⟩ | ⟨_, h, _⟩ | ⟨h, _⟩)
   ·obtain ⟨i, hi, rfl⟩ := List.getElem_of_mem h1
    exact .inr ⟨i, _, hi, List.getElem?_eq_getElem hi, h2⟩
   ·omega
   ·omega
 | n + 1, hn => by
  have ih := Vl hp hx (a := a) (b := b) n (by omega)
  have hfr := hx.fr n (by omega)
  obtain ⟨_, _, hoin, _⟩ := P7 hp hx (r := n) (by omega)
  simp only [Oa]
  split
  ·rename_i hrd
   have hd1 : A0 (Mc (Oa p e n) e n) a b = true ↔ A0 (Oa p e n) a b = true ∨ (b = n ∧ Ae e n = a) := by
    rw [Mc]
    split
    ·rename_i h0
     rw [Et, H0]
     unfold Ae at h0 ⊢
     constructor
     ·rintro (h | ⟨h1, h2, h3⟩)
      ·exact .inl h
      ·exact .inr ⟨h3, by omega⟩
     ·rintro (h | ⟨h1, h2⟩)
      ·exact .inl h
      ·exact .inr ⟨by omega, by omega, h1⟩
    ·rename_i h0
     constructor
     ·exact .inl
     ·rintro (h | ⟨h1, h2⟩)
      ·exact h
      ·omega
   have hl1 : (Mc (Oa p e n) e n).length = p.length := by
    rw [Mc]; split
    ·rw [D4, H0]
    ·exact H0 n
   rw [Vk (by rw [hl1]; omega) (fun k hk => by rw [hl1]; exact hoin.num hk) _ (Nat.le_refl _), hd1, ih]
   unfold Rf
   constructor
   ·rintro (((h | ⟨h1, h2, h3⟩ | ⟨h1, h2⟩) | ⟨rfl, h⟩) | ⟨rfl, h1, j, h2, h3, h4⟩)
    ·exact .inl h
    ·exact .inr (.inl ⟨h1, by omega, h3⟩)
    ·exact .inr (.inr ⟨by omega, h2⟩)
    ·exact .inr (.inl ⟨hrd, by omega, h⟩)
    ·exact .inr (.inr ⟨by omega, by omega, hrd, h1, j, h2, h3, h4⟩)
   ·rintro (h | ⟨h1, h2, h3⟩ | ⟨h1, h2⟩)
    ·exact .inl (.inl (.inl h))
    ·by_cases hb : b = n
     ·subst hb; exact .inl (.inr ⟨rfl, h3⟩)
     ·exact .inl (.inl (.inr (.inl ⟨h1, by omega, h3⟩)))
    ·by_cases ha : a = n
     ·subst ha
      obtain ⟨_, _, h4, j, h5, h6, h7⟩ := h2
      exact .inr ⟨rfl, h4, j, h5, h6, h7⟩
     ·exact .inl (.inl (.inr (.inr ⟨by omega, h2⟩)))
  ·rename_i hrd
   rw [ih]
   unfold Rf
   constructor
   ·rintro (h | ⟨h1, h2, h3⟩ | ⟨h1, h2⟩)
    ·exact .inl h
    ·exact .inr (.inl ⟨h1, by omega, h3⟩)
    ·exact .inr (.inr ⟨by omega, h2⟩)
   ·rintro (h | ⟨h1, h2, h3⟩ | ⟨h1, h2⟩)
    ·exact .inl h
    ·by_cases hb : b = n
     ·subst hb; exact absurd h1 hrd
     ·exact .inr (.inl ⟨h1, by omega, h3⟩)
    ·by_cases ha : a = n
     ·subst ha; exact absurd h2.2.1 hrd
     ·exact .inr (.inr ⟨by omega, h2⟩)
def Eco (p : List Ev) (e : Exec) : Nat → Nat → Prop := TG (Cn0 p e)
theorem Vm {p : List Ev} (hp : POk p) {e : Exec} (hx : XOk p e) {a b : Nat} : A0 (Ar8 p e) a b = true ↔ Eco p e a b := by
 rw [Ar8, Ey (comD_ok hp hx _ (Nat.le_refl _))]
 refine TG.congr fun x y => ?_
 rw [Vl hp hx _ (Nat.le_refl _)]
 unfold Cn0
 constructor
 ·rintro (h | h | ⟨_, h⟩)
  ·exact .inl h
  ·exact .inr (.inl h)
  ·exact .inr (.inr h)
 ·rintro (h | h | h)
  ·exact .inl h
  ·exact .inr (.inl h)
  ·exact .inr (.inr ⟨h.1, h⟩)
def Kx (p : List Ev) (e : Exec) : Prop := ∀ l ∈ e.ord, ∀ i, i < l.length → (evAt p (Ad l i).toNat).reads = true → Ae e (Ad l i).toNat = Fi l i
def Ia (p : List Ev) (e : Exec) : Prop := ∃ a, TG (fun a b => Sb1 p a b ∨ Fo1 e.fen a b ∨ Rf e p.length a b) a a
def Qh (p : List Ev) (e : Exec) : Prop := (∃ a, Hb p e a a) ∨ ∃ a b, Hb p e a b ∧ Eco p e b a
theorem Ia.rfOk {p : List Ev} {e : Exec} (h : ¬ Ia p e) : Y0 p e := fun a ha => h ⟨a, ha.mono fun _ _ k => .inr (.inr k)⟩
theorem Ry {p : List Ev} (hp : POk p) (hm : Lo p) {e : Exec} (hx : XOk p e) (hac : Y0 p e) : (Bn (Fh p e) || Md p e) = true ↔ Qh p e := by
 unfold Qh
 rw [Bool.or_eq_true, Ge]
 refine or_congr (exists_congr fun a => Iu hm hx hac) ?_
 unfold Md
 simp only [List.any_eq_true, List.mem_range, Bool.and_eq_true]
 constructor
 ·rintro ⟨a, _, b, _, h1, h2⟩
  exact ⟨a, b, (Iu hm hx hac).1 h1, (Vm hp hx).1 h2⟩
 ·rintro ⟨a, b, h1, h2⟩
  have h1' := (Iu hm hx hac).2 h1
  have := (beforeP_ok hx).has h1'
  exact ⟨a, this.1, b, this.2, h1', (Vm hp hx).2 h2⟩
theorem Qi {p : List Ev} {e : Exec} : e.ord.any (Ce p e) = true ↔ ¬ Kx p e := by
 unfold Kx
 simp only [List.any_eq_true, Ce, P8, List.mem_range, Bool.and_eq_true, decide_eq_true_eq]
 constructor
 ·rintro ⟨l, hl, i, hi, h1, h2⟩ h
  exact h2 (h l hl i hi h1)
 ·intro h
  apply Decidable.byContradiction
  intro hn
  apply h
  intro l hl i hi hr
  apply Decidable.byContradiction
  intro h2
  exact hn ⟨l, hl, i, hi, hr, h2⟩
open Classical in
theorem Pb {p : List Ev} (hp : POk p) (hm : Lo p) {e : Exec} (hx : XOk p e) :
  Cp p e = if Ia p e then 2 else if Qh p e then 3 else if Kx p e then 0 else 4 := by
 unfold Cp
 by_cases h2 : Ia p e
 ·rw [if_pos ((O9 hx).2 h2), if_pos h2]
 ·rw [if_neg (fun h => h2 ((O9 hx).1 h)), if_neg h2]
  have hac := Ia.rfOk h2
  by_cases h3 : Qh p e
  ·rw [if_pos ((Ry hp hm hx hac).2 h3), if_pos h3]
  ·rw [if_neg (fun h => h3 ((Ry hp hm hx hac).1 h)), if_neg h3]
   by_cases h4 : Kx p e
   ·rw [if_neg (fun h => Qi.1 h h4), if_pos h4]
   ·rw [if_pos (Qi.2 h4), if_neg h4]
structure Cons (p : List Ev) (e : Exec) : Prop where
 round : ¬ Ia p e
 cross : ¬ Qh p e
 next : Kx p e
theorem Hj {p : List Ev} (hp : POk p) (hm : Lo p) {e : Exec} (hx : XOk p e) : Cp p e = 0 ↔ Cons p e := by
 rw [Pb hp hm hx]
 constructor
 ·intro h
  split at h
  ·cases h
  ·split at h
   ·cases h
   ·split at h
    ·exact ⟨by assumption, by assumption, by assumption⟩
    ·cases h
 ·intro ⟨h1, h2, h3⟩
  rw [if_neg h1, if_neg h2, if_pos h3]
end Go.EV

namespace Go.EV
open Go.Proofs
def Wd.R (s : Wd) (i : Nat) : Int := s.r[i]?.getD 0
def Wd.W (s : Wd) (i : Nat) : Int := s.w[i]?.getD 0
def Wd.K (s : Wd) (i : Nat) : Bool := s.k[i]?.getD false
def Wd.T (s : Wd) (i : Nat) : Bool := s.t[i]?.getD false
def Bs (f : List Int) (i : Nat) : Int := f[i]?.getD 0
theorem A4 {α : Type} {l : List α} {i j : Nat} {x d : α} (hi : i < l.length) : (l.set i x)[j]?.getD d = if j = i then x else l[j]?.getD d := by
 rw [List.getElem?_set]
 by_cases h : i = j
 ·subst h; simp [hi]
 ·have h' : ¬ j = i := fun e => h e.symm
  simp [h, h']
structure Wd.Inv (p : List Ev) (f : List Int) (s : Wd) : Prop where
 len : s.Len p.length
 k : ∀ i, s.K i = true → (evAt p i).reads = true ∧ ((Bs f i = -1 ∧ s.R i = 0) ∨ ∃ w : Nat, Bs f i = w ∧ s.T w = true ∧ s.R i = s.W w)
 n : ∀ i, s.K i = false → s.R i = 0
 t : ∀ i, s.T i = true → ((evAt p i).op.kind = 1 ∧ s.W i = (evAt p i).op.v) ∨ ((evAt p i).op.kind = 2 ∧ s.K i = true ∧ s.W i = IntKind.i64.wrap (s.R i + (evAt p i).op.v)) ∨ (((evAt p i).op.kind = 3 ∨ (evAt p i).op.kind = 4) ∧ s.W i = (evAt p i).op.w)
structure Wd.Le (s s' : Wd) : Prop where
 k : ∀ i, s.K i = true → s'.K i = true ∧ s'.R i = s.R i
 t : ∀ i, s.T i = true → s'.T i = true ∧ s'.W i = s.W i
theorem Wd.Le.refl (s : Wd) : s.Le s := ⟨fun _ h => ⟨h, rfl⟩, fun _ h => ⟨h, rfl⟩⟩
theorem Wd.Le.trans {a b c : Wd} (h : a.Le b) (k : b.Le c) : a.Le c :=
 ⟨fun i hi => ⟨(k.k i (h.k i hi).1).1, (k.k i (h.k i hi).1).2.trans (h.k i hi).2⟩, fun i hi => ⟨(k.t i (h.t i hi).1).1, (k.t i (h.t i hi).1).2.trans (h.t i hi).2⟩⟩
section
variable {p : List Ev} {f : List Int}
theorem Pc (hf : Cs p f) {s : Wd} {i : Nat} (hi : i < p.length) (h : s.Inv p f) : (B2 p f s i).Inv p f ∧ s.Le (B2 p f s i) ∧
  (((evAt p i).reads = true ∧ (Bs f i = -1 ∨ ∃ w : Nat, Bs f i = w ∧ s.T w = true)) → (B2 p f s i).K i = true) := by
 unfold B2
 have hl := h.len
 have hik : i < s.k.length := by rw [hl.k]; exact hi
 have hir : i < s.r.length := by rw [hl.r]; exact hi
 split
 ·rename_i hc
  simp only [Bool.and_eq_true, decide_eq_true_eq] at hc
  have hK : ∀ j, ({ s with k := s.k.set i true } : Wd).K j = if j = i then true else s.K j := fun j => A4 hik
  refine ⟨⟨⟨hl.r, hl.w, by simp [hl.k], hl.t⟩, fun j hj => ?_, fun j hj => ?_, fun j hj => ?_⟩, ⟨fun j hj => ⟨?_, rfl⟩, fun j hj => ⟨hj, rfl⟩⟩, fun _ => ?_⟩
  ·rw [hK] at hj
   by_cases hji : j = i
   ·subst hji
    refine ⟨hc.1, .inl ⟨hc.2, ?_⟩⟩
    cases hk : s.K j with
    | false => exact h.n j hk
    | true =>
     rcases (h.k j hk).2 with ⟨_, h2⟩ | ⟨w, h1, _⟩
     ·exact h2
     ·have : Bs f j = -1 := hc.2
      omega
   ·rw [if_neg hji] at hj; exact h.k j hj
  ·rw [hK] at hj
   by_cases hji : j = i
   ·rw [if_pos hji] at hj; cases hj
   ·rw [if_neg hji] at hj; exact h.n j hj
  ·rcases h.t j hj with h1 | ⟨h1, h2, h3⟩ | h1
   ·exact .inl h1
   ·refine .inr (.inl ⟨h1, ?_, h3⟩)
    rw [hK]; split
    ·rfl
    ·exact h2
   ·exact .inr (.inr h1)
  ·rw [hK]; split
   ·rfl
   ·exact hj
  ·rw [hK, if_pos rfl]
 ·rename_i hc
  split
  ·rename_i hc2
   simp only [Bool.and_eq_true, decide_eq_true_eq, not_and] at hc hc2
   have hne : Bs f i ≠ -1 := hc hc2.1
   obtain ⟨w, hw⟩ : ∃ w : Nat, Bs f i = w := by
    rcases hf.2 i hi hc2.1 with h1 | ⟨h1, _⟩
    ·exact absurd h1 hne
    ·exact ⟨(Bs f i).toNat, by unfold Bs; omega⟩
   have hwf : (f[i]?.getD 0).toNat = w := by unfold Bs at hw; omega
   rw [hwf] at hc2
   rw [hwf]
   have hK : ∀ j, ({ s with r := s.r.set i (s.w[w]?.getD 0), k := s.k.set i true } : Wd).K j = if j = i then true else s.K j := fun j => A4 hik
   have hR : ∀ j, ({ s with r := s.r.set i (s.w[w]?.getD 0), k := s.k.set i true } : Wd).R j = if j = i then s.W w else s.R j := fun j => A4 hir
   have hR2 : ∀ j, s.K j = true → ({ s with r := s.r.set i (s.w[w]?.getD 0), k := s.k.set i true } : Wd).R j = s.R j := by
    intro j hj
    rw [hR]; split
    ·rename_i e; subst e
     rcases (h.k j hj).2 with ⟨h1, _⟩ | ⟨w', h1, _, h3⟩
     ·exact absurd h1 hne
     ·have : w' = w := by omega
      subst this; exact h3.symm
    ·rfl
   refine ⟨⟨⟨by simp [hl.r], hl.w, by simp [hl.k], hl.t⟩, fun j hj => ?_, fun j hj => ?_, fun j hj => ?_⟩, ⟨fun j hj => ⟨?_, hR2 j hj⟩, fun j hj => ⟨hj, rfl⟩⟩, fun _ => ?_⟩
   ·rw [hK] at hj
    rw [hR]
    by_cases hji : j = i
    ·subst hji
     rw [if_pos rfl]
     exact ⟨hc2.1, .inr ⟨w, hw, hc2.2, rfl⟩⟩
    ·rw [if_neg hji] at hj ⊢; exact h.k j hj
   ·rw [hK] at hj
    rw [hR]
    by_cases hji : j = i
    ·rw [if_pos hji] at hj; cases hj
    ·rw [if_neg hji] at hj ⊢; exact h.n j hj
   ·rcases h.t j hj with h1 | ⟨h1, h2, h3⟩ | h1
    ·exact .inl h1
    ·refine .inr (.inl ⟨h1, ?_, ?_⟩)
     ·rw [hK]; split
      ·rfl
      ·exact h2
     ·rw [hR2 j h2]; exact h3
    ·exact .inr (.inr h1)
   ·rw [hK]; split
    ·rfl
    ·exact hj
   ·rw [hK, if_pos rfl]
  ·rename_i hc2
   refine ⟨h, Wd.Le.refl s, fun ⟨h1, h2⟩ => ?_⟩
   exfalso
   simp only [Bool.and_eq_true, decide_eq_true_eq, not_and] at hc hc2
   rcases h2 with h2 | ⟨w, h2, h3⟩
   ·exact hc h1 h2
   ·apply hc2 h1
    have : (f[i]?.getD 0).toNat = w := by unfold Bs at h2; omega
    rw [this]; exact h3
theorem T8 {s : Wd} {i : Nat} (hi : i < p.length) (h : s.Inv p f) : (Cb p s i).Inv p f ∧ s.Le (Cb p s i) ∧
  (((evAt p i).op.kind = 1 ∨ ((evAt p i).op.kind = 2 ∧ s.K i = true) ∨ (evAt p i).op.kind = 3 ∨ (evAt p i).op.kind = 4) → (Cb p s i).T i = true) ∧ (∀ j, (Cb p s i).K j = s.K j) := by
 have hl := h.len
 have hiw : i < s.w.length := by rw [hl.w]; exact hi
 have hit : i < s.t.length := by rw [hl.t]; exact hi
 have key : ∀ (x : Int) (b : Bool), (∀ _ : s.T i = true, b = true ∧ x = s.W i) →
   (b = true → ((evAt p i).op.kind = 1 ∧ x = (evAt p i).op.v) ∨ ((evAt p i).op.kind = 2 ∧ s.K i = true ∧ x = IntKind.i64.wrap (s.R i + (evAt p i).op.v)) ∨ (((evAt p i).op.kind = 3 ∨ (evAt p i).op.kind = 4) ∧ x = (evAt p i).op.w)) →
   ({ s with w := s.w.set i x, t := s.t.set i b } : Wd).Inv p f ∧ s.Le { s with w := s.w.set i x, t := s.t.set i b } ∧ ({ s with w := s.w.set i x, t := s.t.set i b } : Wd).T i = b := by
  intro x b h1 h2
  have hT : ∀ j, ({ s with w := s.w.set i x, t := s.t.set i b } : Wd).T j = if j = i then b else s.T j := fun j => A4 hit
  have hW : ∀ j, ({ s with w := s.w.set i x, t := s.t.set i b } : Wd).W j = if j = i then x else s.W j := fun j => A4 hiw
  have hle : s.Le { s with w := s.w.set i x, t := s.t.set i b } := by
   refine ⟨fun j hj => ⟨hj, rfl⟩, fun j hj => ?_⟩
   rw [hT, hW]
   by_cases hji : j = i
   ·subst hji; simp only [if_true]; exact h1 hj
   ·rw [if_neg hji, if_neg hji]; exact ⟨hj, rfl⟩
  refine ⟨⟨⟨hl.r, by simp [hl.w], hl.k, by simp [hl.t]⟩, fun j hj => ?_, h.n, fun j hj => ?_⟩, hle, by rw [hT, if_pos rfl]⟩
  ·obtain ⟨q1, q2⟩ := h.k j hj
   refine ⟨q1, q2.imp id fun ⟨w, e1, e2, e3⟩ => ⟨w, e1, (hle.t w e2).1, ?_⟩⟩
   rw [(hle.t w e2).2]; exact e3
  ·rw [hT] at hj
   rw [hW]
   by_cases hji : j = i
   ·subst hji; rw [if_pos rfl] at hj ⊢; exact h2 hj
   ·rw [if_neg hji] at hj ⊢; exact h.t j hj
 unfold Cb
 split
 ·rename_i hk
  obtain ⟨q1, q2, q3⟩ := key (evAt p i).op.v true (fun ht => ⟨rfl, by rcases h.t i ht with ⟨_, e⟩ | ⟨e, _⟩ | ⟨e, _⟩ <;> omega⟩) (fun _ => .inl ⟨hk, rfl⟩)
  exact ⟨q1, q2, fun _ => q3, fun _ => rfl⟩
 ·rename_i hk1
  split
  ·rename_i hk
   obtain ⟨q1, q2, q3⟩ := key (IntKind.i64.wrap (s.r[i]?.getD 0 + (evAt p i).op.v)) (s.k[i]?.getD false)
    (fun ht => by
     rcases h.t i ht with ⟨e, _⟩ | ⟨e, e2, e3⟩ | ⟨e, _⟩
     ·omega
     ·exact ⟨e2, e3.symm⟩
     ·omega) (fun hb => .inr (.inl ⟨hk, hb, rfl⟩))
   refine ⟨q1, q2, fun hh => ?_, fun _ => rfl⟩
   rw [q3]
   rcases hh with e | ⟨_, e⟩ | e | e
   ·omega
   ·exact e
   ·omega
   ·omega
  ·rename_i hk2
   split
   ·rename_i hk
    obtain ⟨q1, q2, q3⟩ := key (evAt p i).op.w true (fun ht => ⟨rfl, by rcases h.t i ht with ⟨e, _⟩ | ⟨e, _⟩ | ⟨_, e⟩ <;> omega⟩) (fun _ => .inr (.inr ⟨hk, rfl⟩))
    exact ⟨q1, q2, fun _ => q3, fun _ => rfl⟩
   ·rename_i hk
    refine ⟨h, Wd.Le.refl s, fun hh => ?_, fun _ => rfl⟩
    omega
theorem E5 (hf : Cs p f) {s : Wd} (h : s.Inv p f) : ∀ m, m ≤ p.length → (Co p f s m).Inv p f ∧ s.Le (Co p f s m) ∧
  (∀ i, i < m → ((evAt p i).reads = true ∧ (Bs f i = -1 ∨ ∃ w : Nat, Bs f i = w ∧ s.T w = true)) → (Co p f s m).K i = true) ∧
  (∀ i, i < m → ((evAt p i).op.kind = 1 ∨ ((evAt p i).op.kind = 2 ∧ (Co p f s m).K i = true) ∨ (evAt p i).op.kind = 3 ∨ (evAt p i).op.kind = 4) → (Co p f s m).T i = true) ∧
  (∀ i, (Co p f s m).K i = true → i < m ∨ s.K i = true)
 | 0, _ => ⟨h, Wd.Le.refl s, fun i hi => by omega, fun i hi => by omega, fun i hi => .inr hi⟩
 | m + 1, hm => by
  obtain ⟨h1, h2, h3, h4, h5⟩ := E5 hf h m (by omega)
  obtain ⟨r1, r2, r3⟩ := Pc hf (i := m) (by omega) h1
  obtain ⟨w1, w2, w3, w4⟩ := T8 (i := m) (by omega) r1
  have hle := (h2.trans r2).trans w2
  have hkr : ∀ j, j ≠ m → (B2 p f (Co p f s m) m).K j = (Co p f s m).K j := by
   intro j hj
   have hik : m < (Co p f s m).k.length := by rw [h1.len.k]; omega
   unfold B2
   split
   ·show ((Co p f s m).k.set m true)[j]?.getD false = _
    rw [A4 hik, if_neg hj]; rfl
   ·split
    ·show ((Co p f s m).k.set m true)[j]?.getD false = _
     rw [A4 hik, if_neg hj]; rfl
    ·rfl
  refine ⟨w1, hle, fun i hi hr => ?_, fun i hi hk => ?_, fun i hi => ?_⟩
  ·by_cases him : i = m
   ·subst him
    show (Cb p (B2 p f (Co p f s i) i) i).K i = true
    rw [w4]
    refine r3 ⟨hr.1, hr.2.imp id fun ⟨w, e1, e2⟩ => ⟨w, e1, (h2.t w e2).1⟩⟩
   ·exact ((r2.trans w2).k i (h3 i (by omega) hr)).1
  ·by_cases him : i = m
   ·subst him
    refine w3 (hk.imp id fun e => e.imp (fun e => ⟨e.1, ?_⟩) id)
    have := e.2
    rw [show Co p f s (i + 1) = Cb p (B2 p f (Co p f s i) i) i from rfl, w4] at this
    exact this
   ·refine ((r2.trans w2).t i (h4 i (by omega) (hk.imp id fun e => e.imp (fun e => ⟨e.1, ?_⟩) id))).1
    have := e.2
    rw [show Co p f s (m + 1) = Cb p (B2 p f (Co p f s m) m) m from rfl, w4, hkr i him] at this
    exact this
  ·have hi' : (Cb p (B2 p f (Co p f s m) m) m).K i = true := hi
   rw [w4] at hi'
   by_cases him : i = m
   ·exact .inl (by omega)
   ·rw [hkr i him] at hi'
    rcases h5 i hi' with h | h
    ·exact .inl (by omega)
    ·exact .inr h
theorem As1 : (wd0 p.length).Inv p f := by
 have hT : ∀ i, (wd0 p.length).T i = false := fun i => by simp only [Wd.T, wd0, List.getElem?_replicate]; split <;> rfl
 have hK : ∀ i, (wd0 p.length).K i = false := fun i => by simp only [Wd.K, wd0, List.getElem?_replicate]; split <;> rfl
 refine ⟨Yr _, fun i h => ?_, fun i _ => ?_, fun i h => ?_⟩
 ·rw [hK] at h; cases h
 ·simp only [Wd.R, wd0, List.getElem?_replicate]; split <;> rfl
 ·rw [hT] at h; cases h
theorem Dz (hf : Cs p f) : ∀ k, (Bb p f k).Inv p f
 | 0 => As1
 | k + 1 => (E5 hf (Dz hf k) _ (Nat.le_refl _)).1
def Lj (p : List Ev) (f : List Int) : Prop := ∀ i w : Nat, i < p.length → (evAt p i).reads = true → Bs f i = w → w < p.length ∧ 1 ≤ (evAt p w).op.kind ∧ (evAt p w).op.kind ≤ 4
theorem Ky (hf : Cs p f) (hs : Lj p f) : ∀ (m i : Nat), i < p.length → (evAt p i).reads = true → (Bb p f (m + 1)).K i = false →
  ∃ g : Nat → Nat, g 0 = i ∧ (∀ j, j ≤ m → g j < p.length) ∧ ∀ j, j < m → Bs f (g j) = (g (j + 1) : Nat)
 | 0, i, hi, _, _ => ⟨fun _ => i, rfl, fun _ _ => hi, fun j hj => by omega⟩
 | m + 1, i, hi, hr, hk => by
  obtain ⟨_, _, h3, _, _⟩ := E5 hf (Dz hf (m + 1)) p.length (Nat.le_refl _)
  obtain ⟨_, _, _, k4, _⟩ := E5 hf (Dz hf m) p.length (Nat.le_refl _)
  have hn : Bs f i ≠ -1 := fun e => by
   have := h3 i hi ⟨hr, .inl e⟩
   rw [show Co p f (Bb p f (m + 1)) p.length = Bb p f (m + 1 + 1) from rfl, hk] at this; cases this
  obtain ⟨w, hw⟩ : ∃ w : Nat, Bs f i = w := by
   rcases hf.2 i hi hr with h1 | ⟨h1, _⟩
   ·exact absurd h1 hn
   ·exact ⟨(Bs f i).toNat, by unfold Bs; omega⟩
  obtain ⟨hwl, hk1, hk4⟩ := hs i w hi hr hw
  have hT : (Bb p f (m + 1)).T w = false := by
   cases ht : (Bb p f (m + 1)).T w with
   | false => rfl
   | true =>
    have := h3 i hi ⟨hr, .inr ⟨w, hw, ht⟩⟩
    rw [show Co p f (Bb p f (m + 1)) p.length = Bb p f (m + 1 + 1) from rfl, hk] at this; cases this
  have hk2 : (evAt p w).op.kind = 2 := by
   apply Decidable.byContradiction; intro h2
   have := k4 w hwl (by omega)
   rw [show Co p f (Bb p f m) p.length = Bb p f (m + 1) from rfl, hT] at this; cases this
  have hKw : (Bb p f (m + 1)).K w = false := by
   cases ht : (Bb p f (m + 1)).K w with
   | false => rfl
   | true =>
    have := k4 w hwl (.inr (.inl ⟨hk2, ht⟩))
    rw [show Co p f (Bb p f m) p.length = Bb p f (m + 1) from rfl, hT] at this; cases this
  obtain ⟨g, g1, g2, g3⟩ := Ky hf hs m w hwl (by simp [Ev.reads, hk2]) hKw
  refine ⟨fun j => if j = 0 then i else g (j - 1), rfl, fun j hj => ?_, fun j hj => ?_⟩
  ·by_cases h0 : j = 0
   ·simp [h0, hi]
   ·simp only [h0, if_false]; exact g2 _ (by omega)
  ·by_cases h0 : j = 0
   ·subst h0; simpa [g1] using hw
   ·have := g3 (j - 1) (by omega)
    rw [show j - 1 + 1 = j by omega] at this
    simpa [h0] using this
structure Words (p : List Ev) (f : List Int) (R W : Nat → Int) : Prop where
 out : ∀ i, i < p.length → (evAt p i).reads = false → R i = 0
 init : ∀ i, i < p.length → (evAt p i).reads = true → Bs f i = -1 → R i = 0
 from_ : ∀ i w : Nat, i < p.length → (evAt p i).reads = true → Bs f i = w → R i = W w
 store : ∀ i, i < p.length → (evAt p i).op.kind = 1 → W i = (evAt p i).op.v
 add : ∀ i, i < p.length → (evAt p i).op.kind = 2 → W i = IntKind.i64.wrap (R i + (evAt p i).op.v)
 cas : ∀ i, i < p.length → ((evAt p i).op.kind = 3 ∨ (evAt p i).op.kind = 4) → W i = (evAt p i).op.w
theorem T9 (hf : Cs p f) (hs : Lj p f) (hac : ∀ a, ¬ TG (fun a b => b < p.length ∧ Bs f b = (a : Nat)) a a) {i : Nat} (hi : i < p.length) (hr : (evAt p i).reads = true) : (Ap p f).K i = true := by
 cases hk : (Ap p f).K i with
 | true => rfl
 | false =>
  exfalso
  obtain ⟨g, g1, g2, g3⟩ := Ky hf hs p.length i hi hr hk
  have := Qd (R := fun a b => a < p.length ∧ Bs f a = (b : Nat)) (n := p.length) (m := p.length) (f := g) (fun a ha => ?_) (fun j hj => ⟨g2 j (by omega), g3 j hj⟩) g2
  ·omega
  ·have key : ∀ a b, TG (fun a b => a < p.length ∧ Bs f a = (b : Nat)) a b → TG (fun a b => b < p.length ∧ Bs f b = (a : Nat)) b a := by
    intro a b h
    induction h with
    | one h => exact .one h
    | more h _ ih => exact ih.trans (.one h)
   exact hac a (key a a ha)
theorem Cl3 {n : Nat} {f : Nat → Int} (hlt : ∀ i, i < n → f i < n) (hac : ∀ a, ¬ TG (fun a b => b < n ∧ f b = (a : Nat)) a a) (C : Nat → Prop) (h : ∀ i, i < n → (∀ w : Nat, f i = w → C w) → C i) : ∀ i, i < n → C i := by
 intro i hi
 apply Classical.byContradiction; intro hn
 have step : ∀ x : { i : Nat // i < n ∧ ¬ C i }, ∃ y : { i : Nat // i < n ∧ ¬ C i }, f x.1 = (y.1 : Nat) := by
  intro ⟨x, hx, hc⟩
  apply Classical.byContradiction; intro hno
  refine hc (h x hx fun w hw => ?_)
  apply Classical.byContradiction; intro hcw
  exact hno ⟨⟨w, by have := hlt x hx; omega, hcw⟩, hw⟩
 have hg : ∃ g : { i : Nat // i < n ∧ ¬ C i } → { i : Nat // i < n ∧ ¬ C i }, ∀ x, f x.1 = ((g x).1 : Nat) := ⟨fun x => Classical.choose (step x), fun x => Classical.choose_spec (step x)⟩
 obtain ⟨g, hg⟩ := hg
 let it : Nat → { i : Nat // i < n ∧ ¬ C i } := fun k => Nat.rec ⟨i, hi, hn⟩ (fun _ x => g x) k
 have := Qd (R := fun a b => a < n ∧ f a = (b : Nat)) (n := n) (m := n) (f := fun k => (it k).1) (fun a ha => ?_) (fun j hj => ⟨(it j).2.1, hg (it j)⟩) (fun j _ => (it j).2.1)
 ·omega
 ·have key : ∀ a b, TG (fun a b => a < n ∧ f a = (b : Nat)) a b → TG (fun a b => b < n ∧ f b = (a : Nat)) b a := by
   intro a b h
   induction h with
   | one h => exact .one h
   | more h _ ih => exact ih.trans (.one h)
  exact hac a (key a a ha)
theorem Words.uniq (hf : Cs p f) (hs : Lj p f) (hac : ∀ a, ¬ TG (fun a b => b < p.length ∧ Bs f b = (a : Nat)) a a) (hlt : ∀ i, i < p.length → Bs f i < p.length) {R W R' W' : Nat → Int} (h : Words p f R W) (h' : Words p f R' W') :
  ∀ i, i < p.length → R i = R' i ∧ (1 ≤ (evAt p i).op.kind → (evAt p i).op.kind ≤ 4 → W i = W' i) := by
 refine Cl3 (f := Bs f) hlt hac _ fun i hi ih => ?_
 have hR : R i = R' i := by
  cases hr : (evAt p i).reads with
  | false => rw [h.out i hi hr, h'.out i hi hr]
  | true =>
   rcases hf.2 i hi hr with h0 | ⟨h0, h1⟩
   ·rw [h.init i hi hr h0, h'.init i hi hr h0]
   ·obtain ⟨w, hw⟩ : ∃ w : Nat, Bs f i = w := ⟨(Bs f i).toNat, by unfold Bs; omega⟩
    obtain ⟨q1, q2, q3⟩ := hs i w hi hr hw
    rw [h.from_ i w hi hr hw, h'.from_ i w hi hr hw]
    exact (ih w hw).2 q2 q3
 refine ⟨hR, fun h1 h4 => ?_⟩
 by_cases k1 : (evAt p i).op.kind = 1
 ·rw [h.store i hi k1, h'.store i hi k1]
 ·by_cases k2 : (evAt p i).op.kind = 2
  ·rw [h.add i hi k2, h'.add i hi k2, hR]
  ·rw [h.cas i hi (by omega), h'.cas i hi (by omega)]
end
end Go.EV

namespace Go.EV
open Go.Proofs
theorem Mw (n : Nat) (f : Nat → Bool) : (Cr n f).Pairwise (· < ·) := by
 unfold Cr
 rw [List.pairwise_map]
 refine List.Pairwise.imp (R := fun a b : Nat => a < b) (fun h => by omega) ?_
 exact List.Pairwise.filter _ List.pairwise_lt_range
theorem As2 {l : List Int} (h : l.Pairwise (· < ·)) {i j : Nat} (hi : i < l.length) (hj : j < l.length) (e : Ad l i = Ad l j) : i = j := by
 have hp := List.pairwise_iff_getElem.1 h
 simp only [Ad, List.getElem?_eq_getElem hi, List.getElem?_eq_getElem hj, Option.getD_some] at e
 rcases Nat.lt_trichotomy i j with h1 | h1 | h1
 ·have := hp i j hi hj h1; omega
 ·exact h1
 ·have := hp j i hj hi h1; omega
theorem Ck {l : List Int} {i : Nat} (hi : i < l.length) : Ad l i = l[i] := by simp [Ad, hi]
theorem Hk {l : List Int} {x : Int} : x ∈ l ↔ ∃ i, i < l.length ∧ Ad l i = x := by
 constructor
 ·intro h
  obtain ⟨i, hi, rfl⟩ := List.getElem_of_mem h
  exact ⟨i, hi, Ck hi⟩
 ·rintro ⟨i, hi, rfl⟩
  rw [Ck hi]; exact List.getElem_mem hi
def Bx (e : List Bool) (i : Nat) : Bool := e[i]?.getD false
theorem Rz (p : List Ev) (i : Nat) (hi : i < p.length) : ∀ m, m ≤ p.length → Bx (J7 p m) i = (decide (i < m) && (decide ((evAt p i).op.kind = 1) || decide ((evAt p i).op.kind = 2)))
 | 0, _ => by simp [J7, Bx, hi]
 | m + 1, hm => by
  have ih := Rz p i hi m (by omega)
  unfold Bx at ih ⊢
  rw [J7, A4 (by rw [Jk]; omega), ih]
  by_cases h : i = m
  ·subst h; simp
  ·have : decide (i < m + 1) = decide (i < m) := by rw [decide_eq_decide]; omega
   rw [if_neg h, this]
theorem Mx {p : List Ev} {i : Nat} : (i : Int) ∈ Bj p ↔ i < p.length ∧ ((evAt p i).op.kind = 3 ∨ (evAt p i).op.kind = 4) := by
 rw [Bj, Dj]
 constructor
 ·rintro ⟨j, h1, h2, h3⟩
  have : j = i := by omega
  subst this
  exact ⟨h1, by simpa using h2⟩
 ·rintro ⟨h1, h2⟩; exact ⟨i, h1, by simpa using h2, rfl⟩
theorem R0 (p : List Ev) (set i : Nat) (hi : i < p.length) : ∀ k, k ≤ (Bj p).length →
  (∀ j, j < k → Ad (Bj p) j = i → Bx (Jj p set k) i = set.testBit j) ∧ ((∀ j, j < k → Ad (Bj p) j ≠ i) → Bx (Jj p set k) i = (decide ((evAt p i).op.kind = 1) || decide ((evAt p i).op.kind = 2)))
 | 0, _ => ⟨fun j hj => by omega, fun _ => by rw [Jj, Rz p i hi _ (Nat.le_refl _)]; simp [hi]⟩
 | k + 1, hk => by
  obtain ⟨h1, h2⟩ := R0 p set i hi k (by omega)
  have hin : (Ad (Bj p) k) ∈ Bj p := Hk.2 ⟨k, by omega, rfl⟩
  obtain ⟨w, hw1, _, hw2⟩ := Dj.1 hin
  have hlen : (Ad (Bj p) k).toNat < (Jj p set k).length := by rw [Jl]; omega
  unfold Bx at h1 h2 ⊢
  rw [Jj, A4 hlen]
  constructor
  ·intro j hj he
   by_cases hjk : j = k
   ·subst hjk; rw [if_pos (by omega)]
   ·have hne : Ad (Bj p) j ≠ Ad (Bj p) k := fun e => hjk (As2 (Mw _ _) (show j < (Bj p).length by omega) (show k < (Bj p).length by omega) e)
    rw [if_neg (by omega)]
    exact h1 j (by omega) he
  ·intro hn
   have := hn k (by omega)
   rw [if_neg (by omega)]
   exact h2 fun j hj => hn j (by omega)
def Qj (f : Nat → Bool) : Nat → Nat
 | 0 => 0
 | k + 1 => Qj f k ||| (if f k then 2 ^ k else 0)
theorem Vn (f : Nat → Bool) : ∀ k, Qj f k < 2 ^ k
 | 0 => by simp [Qj]
 | k + 1 => by
  have := Vn f k
  rw [Qj]
  refine Nat.or_lt_two_pow (by rw [Nat.pow_succ]; omega) ?_
  split
  ·rw [Nat.pow_succ]; have := Nat.two_pow_pos k; omega
  ·exact Nat.two_pow_pos _
theorem R1 (f : Nat → Bool) (j : Nat) : ∀ k, (Qj f k).testBit j = (decide (j < k) && f j)
 | 0 => by simp [Qj]
 | k + 1 => by
  rw [Qj, Nat.testBit_or, R1 f j k]
  by_cases h : j = k
  ·subst h
   cases f j <;> simp
  ·have h2 : decide (j < k + 1) = decide (j < k) := by rw [decide_eq_decide]; omega
   rw [h2]
   have h3 : (if f k then 2 ^ k else 0).testBit j = false := by
    split
    ·rw [Nat.testBit_two_pow]; simp; omega
    ·simp
   rw [h3, Bool.or_false]
theorem Ac1 {a b : List Bool} (hl : a.length = b.length) (h : ∀ i, i < a.length → Bx a i = Bx b i) : a = b := by
 refine List.ext_getElem hl fun i h1 h2 => ?_
 have := h i h1
 simpa [Bx, h1, h2] using this
theorem Pd {p : List Ev} {dn : List Bool} : dn ∈ Kq p ↔ dn.length = p.length ∧ ∀ i, i < p.length →
  (((evAt p i).op.kind = 1 ∨ (evAt p i).op.kind = 2) → Bx dn i = true) ∧ (Bx dn i = true → 1 ≤ (evAt p i).op.kind ∧ (evAt p i).op.kind ≤ 4) := by
 have hval : ∀ (set i : Nat), i < p.length → (∀ j, j < (Bj p).length → Ad (Bj p) j = i → Bx (Ig p set) i = set.testBit j) ∧ ((evAt p i).op.kind ≠ 3 → (evAt p i).op.kind ≠ 4 → Bx (Ig p set) i = (decide ((evAt p i).op.kind = 1) || decide ((evAt p i).op.kind = 2))) := by
  intro set i hi
  obtain ⟨h1, h2⟩ := R0 p set i hi _ (Nat.le_refl _)
  refine ⟨h1, fun k3 k4 => h2 fun j hj he => ?_⟩
  have : (i : Int) ∈ Bj p := Hk.2 ⟨j, hj, he⟩
  rcases (Mx.1 this).2 with h | h
  ·exact k3 h
  ·exact k4 h
 constructor
 ·intro h
  obtain ⟨set, hs, rfl⟩ := List.mem_map.1 h
  refine ⟨Ex p set, fun i hi => ?_⟩
  obtain ⟨h1, h2⟩ := hval set i hi
  constructor
  ·rintro (hk | hk)
   ·rw [h2 (by omega) (by omega)]; simp [hk]
   ·rw [h2 (by omega) (by omega)]; simp [hk]
  ·intro hd
   by_cases k3 : (evAt p i).op.kind = 3
   ·omega
   ·by_cases k4 : (evAt p i).op.kind = 4
    ·omega
    ·rw [h2 k3 k4] at hd
     simp only [Bool.or_eq_true, decide_eq_true_eq] at hd
     omega
 ·rintro ⟨hl, h⟩
  refine List.mem_map.2 ⟨Qj (fun j => Bx dn (Ad (Bj p) j).toNat) (Bj p).length, List.mem_range.2 (Vn _ _), ?_⟩
  refine Ac1 (by rw [Ex, hl]) fun i hi => ?_
  rw [Ex] at hi
  obtain ⟨h1, h2⟩ := hval (Qj (fun j => Bx dn (Ad (Bj p) j).toNat) (Bj p).length) i hi
  by_cases hf : (i : Int) ∈ Bj p
  ·obtain ⟨j, hj, he⟩ := Hk.1 hf
   rw [h1 j hj he, R1]
   simp [hj, he]
  ·have h34 : (evAt p i).op.kind ≠ 3 ∧ (evAt p i).op.kind ≠ 4 := ⟨fun e => hf (Mx.2 ⟨hi, .inl e⟩), fun e => hf (Mx.2 ⟨hi, .inr e⟩)⟩
   rw [h2 h34.1 h34.2]
   have := h i hi
   cases hd : Bx dn i with
   | true =>
    have := this.2 hd
    simp only [Bool.or_eq_true, decide_eq_true_eq]; omega
   | false =>
    simp only [Bool.or_eq_false_iff, decide_eq_false_iff_not]
    refine ⟨fun e => ?_, fun e => ?_⟩
    ·rw [this.1 (.inl e)] at hd; cases hd
    ·rw [this.1 (.inr e)] at hd; cases hd
def Ac2 (p : List Ev) (m : List Int) : Prop := m.Pairwise fun x y => thI p x = thI p y → x < y
theorem R2 {l : List Int} {i : Nat} (hi : i < l.length) : l.Perm (l[i] :: l.eraseIdx i) := by
 have h2 : l = l.take i ++ l[i] :: l.drop (i + 1) := by rw [List.getElem_cons_drop, List.take_append_drop]
 rw [List.eraseIdx_eq_take_drop_succ]
 conv => lhs; rw [h2]
 exact List.perm_middle
theorem Iv {p : List Ev} : ∀ (n : Nat) (l m : List Int), l.length = n → l.Pairwise (· < ·) → (m ∈ Cf p n l ↔ m.Perm l ∧ Ac2 p m)
 | 0, l, m, hl, _ => by
  have : l = [] := List.length_eq_zero_iff.1 hl
  subst this
  simp only [Cf, List.mem_singleton, List.perm_nil]
  constructor
  ·rintro rfl; exact ⟨rfl, List.Pairwise.nil⟩
  ·exact fun h => h.1
 | n + 1, l, m, hl, ha => by
  have hp := List.pairwise_iff_getElem.1 ha
  simp only [Cf, List.mem_flatMap, List.mem_range]
  constructor
  ·rintro ⟨i, hi, hm⟩
   have hil : i < l.length := by omega
   split at hm
   ·exact absurd hm List.not_mem_nil
   ·rename_i hb
    obtain ⟨m', hm', rfl⟩ := List.mem_map.1 hm
    obtain ⟨h1, h2⟩ := (Iv n (l.eraseIdx i) m' (by rw [List.length_eraseIdx_of_lt hil]; omega) (ha.sublist (List.eraseIdx_sublist ..))).1 hm'
    rw [Ck hil]
    refine ⟨(List.Perm.cons _ h1).trans (R2 hil).symm, List.pairwise_cons.2 ⟨fun y hy hth => ?_, h2⟩⟩
    have hy2 : y ∈ l.eraseIdx i := h1.mem_iff.1 hy
    rw [List.eraseIdx_eq_take_drop_succ, List.mem_append] at hy2
    rcases hy2 with hy2 | hy2
    ·exfalso
     apply hb
     rw [E4, List.any_eq_true]
     exact ⟨y, hy2, by rw [Ck hil, decide_eq_true_eq]; exact hth.symm⟩
    ·obtain ⟨j, hj, rfl⟩ := List.getElem_of_mem hy2
     rw [List.getElem_drop]
     exact hp i _ hil _ (by omega)
  ·rintro ⟨h1, h2⟩
   rcases m with _ | ⟨x, m'⟩
   ·have := h1.length_eq; simp at this; omega
   ·have hx : x ∈ l := h1.mem_iff.1 (List.mem_cons_self ..)
    obtain ⟨i, hi, rfl⟩ := List.getElem_of_mem hx
    obtain ⟨h3, h4⟩ := List.pairwise_cons.1 h2
    have h5 : m'.Perm (l.eraseIdx i) := (h1.trans (R2 hi)).cons_inv
    refine ⟨i, by omega, ?_⟩
    rw [if_neg ?_]
    ·rw [Ck hi]
     exact List.mem_map.2 ⟨m', (Iv n (l.eraseIdx i) m' (by rw [List.length_eraseIdx_of_lt hi]; omega) (ha.sublist (List.eraseIdx_sublist ..))).2 ⟨h5, h4⟩, rfl⟩
    ·intro hb
     rw [E4, List.any_eq_true] at hb
     obtain ⟨z, hz, hth⟩ := hb
     rw [Ck hi, decide_eq_true_eq] at hth
     have hzm : z ∈ m' := h5.mem_iff.2 (by rw [List.eraseIdx_eq_take_drop_succ, List.mem_append]; exact .inl hz)
     have := h3 z hzm hth.symm
     obtain ⟨j, hj, rfl⟩ := List.getElem_of_mem hz
     rw [List.length_take] at hj
     rw [List.getElem_take] at this
     have := hp j i (by omega) hi (by omega)
     omega
theorem My {p : List Ev} {l m : List Int} (ha : l.Pairwise (· < ·)) : m ∈ Cy p l ↔ m.Perm l ∧ Ac2 p m := Iv _ l m rfl ha
theorem D2 (p : List Ev) (dn : List Bool) (loc : Int) : (Ar p dn loc).Pairwise (· < ·) := Mw _ _
theorem Fv (p : List Ev) : (Bi p).Pairwise (· < ·) := Mw _ _
theorem Gf {p : List Ev} {dn : List Bool} : ∀ (k : Nat) (loc : Int) (x : List (List Int)), x ∈ B0 p dn k loc ↔ x.length = k ∧ ∀ j, j < k → (x[j]?.getD []) ∈ Cy p (Ar p dn (loc + j))
 | 0, loc, x => by
  simp only [B0, List.mem_singleton]
  constructor
  ·rintro rfl; exact ⟨rfl, fun j hj => by omega⟩
  ·rintro ⟨h, _⟩; exact List.length_eq_zero_iff.1 h
 | k + 1, loc, x => by
  simp only [B0, List.mem_flatMap, List.mem_map]
  constructor
  ·rintro ⟨l, hl, y, hy, rfl⟩
   obtain ⟨h1, h2⟩ := (Gf k (loc + 1) y).1 hy
   refine ⟨by simp [h1], fun j hj => ?_⟩
   cases j with
   | zero => simpa using hl
   | succ j =>
    have := h2 j (by omega)
    simpa [Int.add_assoc, Int.add_comm 1] using this
  ·rintro ⟨h1, h2⟩
   rcases x with _ | ⟨l, y⟩
   ·simp at h1
   ·refine ⟨l, by simpa using h2 0 (by omega), y, (Gf k (loc + 1) y).2 ⟨by simpa using h1, fun j hj => ?_⟩, rfl⟩
    have := h2 (j + 1) (by omega)
    simpa [Int.add_assoc, Int.add_comm 1] using this
theorem H1 {p : List Ev} {dn : List Bool} {ord : List (List Int)} : ∀ (k i : Nat) (x : List Int), x ∈ Cg p dn ord k i ↔ x.length = k ∧ ∀ j, j < k → Bs x j ∈ Br p dn ord (i + j)
 | 0, i, x => by
  simp only [Cg, List.mem_singleton]
  constructor
  ·rintro rfl; exact ⟨rfl, fun j hj => by omega⟩
  ·rintro ⟨h, _⟩; exact List.length_eq_zero_iff.1 h
 | k + 1, i, x => by
  simp only [Cg, List.mem_flatMap, List.mem_map]
  constructor
  ·rintro ⟨w, hw, y, hy, rfl⟩
   obtain ⟨h1, h2⟩ := (H1 k (i + 1) y).1 hy
   refine ⟨by simp [h1], fun j hj => ?_⟩
   cases j with
   | zero => simpa [Bs] using hw
   | succ j =>
    have := h2 j (by omega)
    simpa [Bs, Nat.add_assoc, Nat.add_comm 1] using this
  ·rintro ⟨h1, h2⟩
   rcases x with _ | ⟨w, y⟩
   ·simp at h1
   ·refine ⟨w, by simpa [Bs] using h2 0 (by omega), y, (H1 k (i + 1) y).2 ⟨by simpa using h1, fun j hj => ?_⟩, rfl⟩
    have := h2 (j + 1) (by omega)
    simpa [Bs, Nat.add_assoc, Nat.add_comm 1] using this
structure Shape (p : List Ev) (e : Exec) : Prop where
 fl : e.frm.length = p.length
 dl : e.dn.length = p.length
 ol : e.ord.length = 3
 dn1 : ∀ i, i < p.length → ((evAt p i).op.kind = 1 ∨ (evAt p i).op.kind = 2) → Bx e.dn i = true
 dn0 : ∀ i, i < p.length → Bx e.dn i = true → 1 ≤ (evAt p i).op.kind ∧ (evAt p i).op.kind ≤ 4
 out : ∀ i, i < p.length → (evAt p i).reads = false → Ae e i = -2
 src : ∀ i, i < p.length → (evAt p i).reads = true → Ae e i = -1 ∨ ∃ w : Nat, Ae e i = w ∧ w < p.length ∧ Bx e.dn w = true ∧ (evAt p w).op.loc = (evAt p i).op.loc
 ord : ∀ k : Nat, k < 3 → (e.ord[k]?.getD []).Perm (Ar p e.dn k)
 fen : e.fen.Perm (Bi p)
def Vo (p : List Ev) (e : Exec) : Prop := ∀ i, i < p.length →
 ((evAt p i).op.kind = 3 → (Bx e.dn i = true ↔ (Ap p e.frm).R i = (evAt p i).op.v)) ∧ ((evAt p i).op.kind = 4 → Bx e.dn i = true → (Ap p e.frm).R i = (evAt p i).op.v)
theorem A7 {p : List Ev} {dn : List Bool} {k : Int} {x : Int} : x ∈ Ar p dn k ↔ ∃ i : Nat, x = i ∧ i < p.length ∧ (evAt p i).op.kind ≠ 5 ∧ Bx dn i = true ∧ (evAt p i).op.loc = k := by
 rw [Ar, Dj]
 simp only [Bool.and_eq_true, decide_eq_true_eq, Bx]
 constructor
 ·rintro ⟨i, h1, ⟨⟨h2, h3⟩, h4⟩, h5⟩; exact ⟨i, h5, h1, h2, h3, h4⟩
 ·rintro ⟨i, h5, h1, h2, h3, h4⟩; exact ⟨i, h1, ⟨⟨h2, h3⟩, h4⟩, h5⟩
theorem Shape.xok {p : List Ev} {e : Exec} (h : Shape p e) (hn : e.fen = [] ∨ True) : XOk p e := by
 have hordl : ∀ l ∈ e.ord, He p l ∧ l.length ≤ p.length := by
  intro l hl
  obtain ⟨k, hk, rfl⟩ := List.getElem_of_mem hl
  have := h.ord k (by rw [← h.ol]; exact hk)
  rw [List.getElem?_eq_getElem hk, Option.getD_some] at this
  exact ⟨(J8 p e.dn _).perm this, by rw [this.length_eq]; exact Bw _ _⟩
 refine ⟨h.fl, h.dl, h.ol, fun i hi => ?_, hordl, (Mg p).perm h.fen, by rw [h.fen.length_eq]; exact Bw _ _⟩
 cases hr : (evAt p i).reads with
 | false =>
  have := h.out i hi hr
  unfold Ae at this
  exact ⟨by omega, fun h => by cases h⟩
 | true =>
  rcases h.src i hi hr with h1 | ⟨w, h1, h2, _⟩
  ·unfold Ae at h1; exact ⟨by omega, fun _ => by omega⟩
  ·unfold Ae at h1; exact ⟨by omega, fun _ => by omega⟩
theorem Shape.fromOk {p : List Ev} {e : Exec} (h : Shape p e) : Cs p e.frm := (h.xok (.inr trivial)).fromOk
theorem Shape.srcOk {p : List Ev} {e : Exec} (h : Shape p e) : Lj p e.frm := fun i w hi hr hw => by
 rcases h.src i hi hr with h1 | ⟨w', h1, h2, h3, _⟩
 ·unfold Ae at h1; unfold Bs at hw; omega
 ·have : w' = w := by unfold Ae at h1; unfold Bs at hw; omega
  subst this
  exact ⟨h2, h.dn0 w' h2 h3⟩
theorem Y1 {p : List Ev} {e : Exec} {a b : Nat} (h : Hb p ⟨e.frm, e.dn, e.ord, []⟩ a b) : Hb p e a b := by
 refine TG.mono h fun x y hxy => ?_
 rcases hxy with hxy | ⟨j, hj, _⟩ | ⟨r, w, v, h1, h2, h3, h4, h5, h6⟩
 ·exact .inl hxy
 ·simp at hj
 ·refine .inr (.inr ⟨r, w, v, h1, h2, h3, ?_, h5, h6⟩)
  have key : ∀ {w v : Nat}, Back p ⟨e.frm, e.dn, e.ord, []⟩ w v → Back p e w v := by
   intro w v h
   induction h with
   | here => exact .here
   | on h _ ih => exact .on h ih
  exact key h4
theorem Cons.less {p : List Ev} {e : Exec} (h : Cons p e) : Cons p ⟨e.frm, e.dn, e.ord, []⟩ := by
 refine ⟨fun ⟨a, ha⟩ => h.round ⟨a, ha.mono fun x y hxy => ?_⟩, fun hc => h.cross ?_, h.next⟩
 ·rcases hxy with hxy | ⟨j, hj, _⟩ | hxy
  ·exact .inl hxy
  ·simp at hj
  ·exact .inr (.inr hxy)
 ·rcases hc with ⟨a, ha⟩ | ⟨a, b, h1, h2⟩
  ·exact .inl ⟨a, Y1 ha⟩
  ·refine .inr ⟨a, b, Y1 h1, TG.mono h2 fun x y hxy => ?_⟩
   exact hxy
theorem Mz {p : List Ev} {e : Exec} : (List.range p.length).any (Hg p e) = false ↔ Vo p e := by
 unfold Vo
 rw [List.any_eq_false]
 simp only [List.mem_range]
 refine forall_congr' fun i => forall_congr' fun hi => ?_
 unfold Hg
 show ¬ ((decide ((evAt p i).op.kind = 3) && xor (Bx e.dn i) (decide ((Ap p e.frm).R i = (evAt p i).op.v))) || (decide ((evAt p i).op.kind = 4) && (Bx e.dn i) && decide ((Ap p e.frm).R i ≠ (evAt p i).op.v))) = true ↔ _
 cases hd : Bx e.dn i <;> by_cases hv : (Ap p e.frm).R i = (evAt p i).op.v <;> by_cases h3 : (evAt p i).op.kind = 3 <;> by_cases h4 : (evAt p i).op.kind = 4 <;> simp [hv, h3, h4]
theorem As3 {l : List Int} (hn : l.Nodup) {x : Int} {j : Nat} (hj : j < l.length) (e : l[j] = x) : l.findIdx (fun y => decide (x = y)) = j := by
 refine (List.findIdx_eq hj).2 ⟨by simp [e], fun k hk => ?_⟩
 rw [decide_eq_false_iff_not]
 intro h
 have := (List.pairwise_iff_getElem.1 (List.nodup_iff_pairwise_ne.1 hn)) k j (by omega) hj hk
 exact this (by rw [e, ← h])
theorem Ww {l : List Int} (hn : l.Nodup) (hpos : ∀ x ∈ l, 0 ≤ x) {i j : Nat} (hj : j < l.length) (e : l[j] = i) : Fk (-1 :: l) i = Fi l j := by
 unfold Fk
 have : (-1 :: l : List Int).findIdx (fun y => decide ((i : Int) = y)) = j + 1 := by
  refine As3 (x := (i : Int)) (List.nodup_cons.2 ⟨fun h => by have := hpos _ h; omega, hn⟩) (by simp; omega) (by simpa using e)
 rw [this, Nat.add_sub_cancel]
 cases j with
 | zero => rfl
 | succ j => simp [Fi, Ad]
theorem Hl {l : List Int} (h : l.Pairwise (· < ·)) : l.Nodup := by
 rw [List.nodup_iff_pairwise_ne]; exact h.imp fun h => by omega
theorem Cl4 {p : List Ev} (hm : Lo p) {e : Exec} : ∀ (d a : Nat), a + d + 1 < p.length → (evAt p a).th = (evAt p (a + d + 1)).th → Hb p e a (a + d + 1)
 | 0, a, h, ht => .one (.inl ⟨rfl, h, ht.symm⟩)
 | d + 1, a, h, ht => by
  have h1 := hm.between (a := a) (b := a + (d + 1) + 1) (x := a + d + 1) h (by omega) (by omega) ht
  exact (Cl4 hm d a (by omega) (by rw [h1]; exact ht)).trans (.one (.inl ⟨by omega, h, h1.symm⟩))
theorem Vp {p : List Ev} (hm : Lo p) {e : Exec} : ∀ (d a : Nat), a + d + 1 < p.length → (evAt p a).th = (evAt p (a + d + 1)).th → TG (fun a b => Sb1 p a b ∨ Fo1 e.fen a b ∨ Rf e p.length a b) a (a + d + 1)
 | 0, a, h, ht => .one (.inl ⟨rfl, h, ht.symm⟩)
 | d + 1, a, h, ht => by
  have h1 := hm.between (a := a) (b := a + (d + 1) + 1) (x := a + d + 1) h (by omega) (by omega) ht
  exact (Vp hm d a (by omega) (by rw [h1]; exact ht)).trans (.one (.inl ⟨by omega, h, h1.symm⟩))
theorem Vq {p : List Ev} {e : Exec} : ∀ (d j a b : Nat), j + d + 1 < e.fen.length → (∀ k, k < e.fen.length → 0 ≤ Ad e.fen k) → Ad e.fen j = a → Ad e.fen (j + d + 1) = b → TG (fun a b => Sb1 p a b ∨ Fo1 e.fen a b ∨ Rf e p.length a b) a b
 | 0, j, a, b, h, _, ha, hb => .one (.inr (.inl ⟨j, h, ha, hb⟩))
 | d + 1, j, a, b, h, hp, ha, hb => by
  have h1 := hp (j + d + 1) (by omega)
  obtain ⟨c, hc⟩ : ∃ c : Nat, Ad e.fen (j + d + 1) = c := ⟨(Ad e.fen (j + d + 1)).toNat, by omega⟩
  exact (Vq d j a c (by omega) hp ha hc).trans (.one (.inr (.inl ⟨j + d + 1, by omega, hc, by rw [← hb]; congr 1⟩)))
theorem Ac3 {p : List Ev} (hp : POk p) (hm : Lo p) {e : Exec} : e ∈ Gu p ↔ Shape p e ∧ Vo p e ∧ Cons p e := by
 constructor
 ·intro h
  have h0 := h
  simp only [Gu, Kt, Mf, List.mem_flatMap] at h
  obtain ⟨dn, hd, ord, ho, frm, hf, h⟩ := h
  unfold Ih at h
  split at h
  ·rename_i hpos
   obtain ⟨h, hb⟩ := List.mem_filter.1 h
   obtain ⟨fen, hn, rfl⟩ := List.mem_map.1 h
   have hx := exec_ok hp hd ho hf (J9 hn)
   obtain ⟨d1, d2⟩ := Pd.1 hd
   obtain ⟨o1, o2⟩ := (Gf 3 0 ord).1 ho
   obtain ⟨f1, f2⟩ := (H1 _ _ frm).1 hf
   have hord : ∀ k : Nat, k < 3 → (ord[k]?.getD []).Perm (Ar p dn k) := fun k hk => by
    have := Fa (o2 k hk)
    rwa [Int.zero_add] at this
   unfold Dl at hpos
   simp only [Bool.and_eq_true, Bool.not_eq_true', decide_eq_true_eq] at hpos hb
   have hw : Vo p ⟨frm, dn, ord, []⟩ := Mz.1 hpos.1
   have hc := (Hj hp hm hx).1 hb
   refine ⟨⟨f1, d1, o1, fun i hi => (d2 i hi).1, fun i hi => (d2 i hi).2, fun i hi hr => ?_, fun i hi hr => ?_, hord, Fa hn⟩, hw, hc⟩
   ·have := f2 i hi
    rw [Nat.zero_add, Br, if_pos hr, List.mem_singleton] at this
    exact this
   ·have h1 := f2 i hi
    rw [Nat.zero_add, Br, if_neg (by rw [hr]; simp)] at h1
    have hloc := hp.loc i hi
    have hsrc : ∀ x ∈ Hz p ord i, x = -1 ∨ ∃ w : Nat, x = w ∧ w < p.length ∧ Bx dn w = true ∧ (evAt p w).op.loc = (evAt p i).op.loc := by
     intro x hx
     rcases List.mem_cons.1 hx with h | h
     ·exact .inl h
     ·have h3 := (hord (evAt p i).op.loc.toNat (by omega)).mem_iff.1 h
      obtain ⟨w, q1, q2, _, q3, q4⟩ := A7.1 h3
      exact .inr ⟨w, q1, q2, q3, by omega⟩
    split at h1
    ·rw [List.mem_singleton] at h1
     show Bs frm i = -1 ∨ _
     show _ ∨ ∃ w : Nat, Bs frm i = w ∧ _
     rw [h1]
     unfold Fk Ad
     rcases hq : (Hz p ord i)[(Hz p ord i).findIdx (fun y => decide ((i : Int) = y)) - 1]? with _ | y
     · -- there is one
      exfalso
      have := List.getElem?_eq_none_iff.1 hq
      have h2 := List.findIdx_le_length (p := fun y => decide ((i : Int) = y)) (xs := Hz p ord i)
      have h3 : 0 < (Hz p ord i).length := by simp [Hz]
      have h4 : (Hz p ord i).findIdx (fun y => decide ((i : Int) = y)) ≠ 0 := by
       intro h0
       simp [Hz, List.findIdx_cons] at h0
      omega
     ·exact hsrc y (List.mem_of_getElem? hq)
    ·exact hsrc _ h1
  ·exact absurd h List.not_mem_nil
 ·rintro ⟨hs, hw, hc⟩
  have hx := hs.xok (.inr trivial)
  obtain ⟨frm, dn, ord, fen⟩ := e
  have hac : Y0 p ⟨frm, dn, ord, fen⟩ := Ia.rfOk hc.round
  simp only [Gu, Kt, Mf, List.mem_flatMap]
  have hdn : dn ∈ Kq p := Pd.2 ⟨hs.dl, fun i hi => ⟨hs.dn1 i hi, hs.dn0 i hi⟩⟩
  have hord : ∀ k : Nat, k < 3 → (ord[k]?.getD []).Perm (Ar p dn k) := hs.ord
  have hmem : ∀ k : Nat, k < 3 → (ord[k]?.getD []) ∈ ord := fun k hk => by
   have : k < ord.length := by have : ord.length = 3 := hs.ol; omega
   rw [List.getElem?_eq_getElem this, Option.getD_some]; exact List.getElem_mem _
  have hkeep : ∀ k : Nat, k < 3 → Ac2 p (ord[k]?.getD []) := by
   intro k hk
   have hperm := hord k hk
   have hml := hmem k hk
   generalize ord[k]?.getD [] = l at hperm hml
   refine List.pairwise_iff_getElem.2 fun i j hi hj hij hth => ?_
   apply Decidable.byContradiction; intro hlt
   have mi := A7.1 (hperm.mem_iff.1 (List.getElem_mem hi))
   have mj := A7.1 (hperm.mem_iff.1 (List.getElem_mem hj))
   obtain ⟨a, ea, la, _⟩ := mi
   obtain ⟨b, eb, lb, _⟩ := mj
   have hne : a ≠ b := by
    intro e
    have hnd : l.Nodup := (hperm.nodup_iff).2 (Hl (D2 p dn k))
    exact (List.pairwise_iff_getElem.1 (List.nodup_iff_pairwise_ne.1 hnd)) i j hi hj hij (by rw [ea, eb, e])
   rw [ea, eb] at hlt hth
   simp only [thI, Int.toNat_natCast] at hth
   have hba : b < a := by omega
   refine hc.cross (.inr ⟨b, a, ?_, .one (.inl ⟨l, hml, i, j, hij, hj, by rw [Ck hi, ea], by rw [Ck hj, eb]⟩)⟩)
   have := Cl4 hm (e := ⟨frm, dn, ord, fen⟩) (a - b - 1) b (by omega) (by rw [show b + (a - b - 1) + 1 = a by omega]; exact hth.symm)
   rwa [show b + (a - b - 1) + 1 = a by omega] at this
  have hordm : ord ∈ Qb p dn := (Gf 3 0 ord).2 ⟨hs.ol, fun j hj => by
   rw [Int.zero_add]; exact (My (D2 _ _ _)).2 ⟨hord j hj, hkeep j hj⟩⟩
  have hfrm : frm ∈ Kr p dn ord := by
   refine (H1 _ _ frm).2 ⟨hs.fl, fun i hi => ?_⟩
   rw [Nat.zero_add, Br]
   cases hr : (evAt p i).reads with
   | false => rw [if_pos rfl, List.mem_singleton]; exact hs.out i hi hr
   | true =>
    rw [if_neg (by simp)]
    have hloc := hp.loc i hi
    have hk3 : (evAt p i).op.loc.toNat < 3 := by omega
    have hperm := hord _ hk3
    have hml := hmem _ hk3
    split
    ·rename_i hd
     rw [List.mem_singleton]
     have hki := hs.dn0 i hi hd
     have hin : (i : Int) ∈ ord[(evAt p i).op.loc.toNat]?.getD [] := hperm.mem_iff.2 (A7.2 ⟨i, rfl, hi, by omega, hd, by omega⟩)
     obtain ⟨j, hj, hje⟩ := List.getElem_of_mem hin
     have hnx := hc.next _ hml j hj
     rw [Ck hj, hje, Int.toNat_natCast] at hnx
     have := hnx hr
     show Ae ⟨frm, dn, ord, fen⟩ i = _
     rw [this, Hz, Ww ((hperm.nodup_iff).2 (Hl (D2 _ _ _))) (fun x hx => by
      obtain ⟨w, hw, _⟩ := A7.1 (hperm.mem_iff.1 hx); omega) hj hje]
    ·rcases hs.src i hi hr with h | ⟨w, h1, h2, h3, h4⟩
     ·exact List.mem_cons.2 (.inl h)
     ·refine List.mem_cons.2 (.inr (hperm.mem_iff.2 (A7.2 ⟨w, h1, h2, ?_, h3, by omega⟩)))
      have := hs.dn0 w h2 h3; omega
  have hfk : Ac2 p fen := by
   have hperm : fen.Perm (Bi p) := hs.fen
   refine List.pairwise_iff_getElem.2 fun i j hi hj hij hth => ?_
   apply Decidable.byContradiction; intro hlt
   have hfin : He p fen := hx.fin.1
   have hin := fun k (hk : k < fen.length) => hfin.num hk
   have h1 := hin i hi
   have h2 := hin j hj
   obtain ⟨a, ea⟩ : ∃ a : Nat, Ad fen i = a := ⟨(Ad fen i).toNat, by omega⟩
   obtain ⟨b, eb⟩ : ∃ b : Nat, Ad fen j = b := ⟨(Ad fen j).toNat, by omega⟩
   rw [← Ck hi, ← Ck hj, ea, eb] at hlt hth
   simp only [thI, Int.toNat_natCast] at hth
   have hne : a ≠ b := by
    intro e
    have hnd : fen.Nodup := (hperm.nodup_iff).2 (Hl (Fv p))
    exact (List.pairwise_iff_getElem.1 (List.nodup_iff_pairwise_ne.1 hnd)) i j hi hj hij (by rw [← Ck hi, ← Ck hj, ea, eb, e])
   have hba : b < a := by omega
   have g1 := Vq (p := p) (e := ⟨frm, dn, ord, fen⟩) (j - i - 1) i a b (show i + (j - i - 1) + 1 < fen.length by omega) (fun k hk => (hin k hk).1) ea (by rw [show i + (j - i - 1) + 1 = j by omega]; exact eb)
   have g2 := Vp hm (e := ⟨frm, dn, ord, fen⟩) (a - b - 1) b (by omega) (by rw [show b + (a - b - 1) + 1 = a by omega]; exact hth.symm)
   rw [show b + (a - b - 1) + 1 = a by omega] at g2
   exact hc.round ⟨a, g1.trans g2⟩
  have hfen : fen ∈ Cy p (Bi p) := (My (Fv p)).2 ⟨hs.fen, hfk⟩
  refine ⟨dn, hdn, ord, hordm, frm, hfrm, ?_⟩
  unfold Ih
  have hpos : Dl p ⟨frm, dn, ord, []⟩ = true := by
   unfold Dl
   rw [Bool.and_eq_true, Bool.not_eq_true', decide_eq_true_eq]
   refine ⟨Mz.2 hw, ?_⟩
   have hx0 : XOk p ⟨frm, dn, ord, []⟩ := ⟨hx.fl, hx.dl, hx.ol, hx.fr, hx.oin, fun x h => (nomatch h), Nat.zero_le _⟩
   exact (Hj hp hm hx0).2 hc.less
  rw [if_pos hpos]
  exact List.mem_filter.2 ⟨List.mem_map.2 ⟨fen, hfen, rfl⟩, decide_eq_true ((Hj hp hm hx).2 hc)⟩
end Go.EV

namespace Go.EV
open Go.Proofs
def Cm (p : List Ev) (w : Wd) : Nat → List Int
 | 0 => []
 | i + 1 => Cm p w i ++ if (evAt p i).reads then [w.r[i]?.getD 0] else []
def Dm (w : Wd) (l : List Int) : Int := if l.length = 0 then 0 else w.w[(Ad l (l.length - 1)).toNat]?.getD 0
def Bf (p : List Ev) (e : Exec) : List Int := Cm p (Ap p e.frm) p.length ++ e.ord.map (Dm (Ap p e.frm))
theorem Fc (p : List Ev) (w : Wd) : ∀ i, (Cm p w i).length ≤ i
 | 0 => Nat.le_refl _
 | i + 1 => by
  have := Fc p w i
  simp only [Cm, List.length_append]
  split <;> simp <;> omega
section
variable {M : Aa}
set_option maxHeartbeats 4000000 in
theorem R3 (p : List Ev) (s : Value) (hs : Sl M 6 A2 s p) (hp : POk p) (e : Exec) (v : Value) (hv : IsX M v e) (hx : XOk p e) :
  Con Tryz.prog 35 #[s, v] M [] (Ag4 (Bf p e)) := by
 have hs0 := hs
 have hb := hp.len
 obtain ⟨a, c, rfl, hrd⟩ := hs
 obtain ⟨f, d, o, n, rfl, hf, hd, ho, hn⟩ := hv
 have hf0 := hf
 obtain ⟨oa, oc, ovs, rfl, hol, hro, hko⟩ := ho
 have hol3 := hx.ol
 obtain ⟨ob, oo, rfl, hato⟩ := Di.at hro hol hko (by omega)
 refine Con.enter Q32_ok (args := [.slice a p.length c, .agg #[f, d, .slice (some ⟨ob, oo, none⟩) e.ord.length oc, n]]) (by simp [Q32]) fun w0 => ?_
 simp only [Q32, A3]
 repeat' first
   | refine EV.seq ?_
   | refine rg ?_
   | ((first | with_reducible intro b | refine xrA rfl ?_ | fail); try refine nx ?_)
   | exact ⟨⟩
   | fail
 rename Nat => xb
 refine Con.callS (G1 := []) (J3 p _ hs0 (by omega) e.frm _ _ _ _ hf0 hx.fromOk) ?_
 rintro v M1 G1 hM1 ⟨rv, wv, kv, rfl, hr, hw, -⟩
 obtain ⟨ra, rc, rfl, hrr⟩ := hr
 obtain ⟨wa, wc, rfl, hww⟩ := hw
 have hrl : (Ap p e.frm).r.length = p.length := (Ew p e.frm _).r
 have hwl : (Ap p e.frm).w.length = p.length := (Ew p e.frm _).w
 have houtd : Bf p e = Cm p (Ap p e.frm) p.length ++ e.ord.map (Dm (Ap p e.frm)) := rfl
 generalize Ap p e.frm = W at *
 (refine nx ?_; try with_reducible exact ⟨⟩)
 repeat' first
   | refine EV.seq ?_
   | refine EV.block ?_
   | refine rg ?_
   | exact ⟨⟩
   | fail
 refine EV.toS (ρ' := [(0, .slice a p.length c), (3, pv xb 0), (5, .slice ra W.r.length rc), (6, .slice wa W.w.length wc), (8, osv none 0), (21, .slice a p.length c), (22, vi p.length), (23, vi (0 : Nat))]) (G' := [(xb, Cl 45 [f, d, .slice (some ⟨ob, oo, none⟩) e.ord.length oc, n])]) ?_ ?env0
 case env0 =>
  exact eE
 refine EV.loopTo (fun x : Nat × Vec => ([(0, .slice a p.length c), (3, pv xb 0), (5, .slice ra W.r.length rc), (6, .slice wa W.w.length wc), (8, osv x.2 (Cm p W x.1).length), (21, .slice a p.length c), (22, vi p.length), (23, vi x.1)], M1, (xb, Cl 45 [f, d, .slice (some ⟨ob, oo, none⟩) e.ord.length oc, n]) :: osg 3 x.2 ((Cm p W x.1).map vi)))
  (fun x => x.1 ≤ p.length ∧ E7 1 x.2 (Cm p W x.1).length ((Cm p W x.1).map vi)) (fun x => p.length - x.1) (0, none) rfl ⟨Nat.zero_le _, rfl, rfl⟩ ?env1 (by simp [osg]) ?_
 case env1 =>
  exact eE
 rintro ⟨i, ov⟩ ⟨hi, hov⟩ ih
 dsimp only at hi hov ih ⊢
 repeat' first
   | refine EV.seq ?_
   | refine EV.skip ?_
   | refine EV.block ?_
   | refine rg ?_
   | (refine cX (fun h => ?_) (fun h => ?_) <;> try exact Ah h)
   | (refine EV.exit rfl ?_)
   | (refine xsA rfl ?_; try refine nx ?_)
   | exact ⟨⟩
   | fail
 ·have hi' : i < p.length := by omega
  obtain ⟨pb, po, rfl, hat⟩ := Sl.at (enc := A2) (fun _ => rfl) (by decide) hrd (by omega)
  obtain ⟨rb, ro, rfl, hatr⟩ := Sl.at (sz := 1) (enc := ei) (fun _ => rfl) (by decide) hrr (by omega)
  have hpi := (Sl.evAt hat i hi').mono hM1
  have hri : rd M1 rb (ro + i) 1 [vi (W.r[i]?.getD 0)] := Cd hatr i (by omega)
  have hrI : (i : Int) < W.r.length := by omega
  have hln := Fc p W i
  have hstep : Cm p W (i + 1) = Cm p W i ++ if (evAt p i).reads then [W.r[i]?.getD 0] else [] := rfl
  repeat' first
    | refine EV.seq ?_
    | refine EV.skip ?_
    | refine EV.inBlock ?_
    | refine rg ?_
    | (refine Aq.call (Bv (evAt p i)) ?_; try refine nx ?_)
    | (refine cX (fun h => ?_) (fun h => ?_) <;> try exact Ah h)
    | (with_reducible intro b; try refine nx ?_)
    | (refine And.intro (by omega) ?_)
    | ((first | refine xm ?_ | refine xrA rfl ?_ | fail); try refine nx ?_)
    | (refine xw ?_; refine nx ?_)
    | exact ⟨⟩
    | fail
  ·rw [if_pos (by assumption)] at hstep
   refine ⟨[vi (W.r[i]?.getD 0)], Or.inr ⟨b, 0, rfl, An 0 rfl rfl (by simp)⟩, by simp [B6, C7, Value.oneCell'], Or.inl ⟨ov, _, rfl, _, hov, _, PullL.p, ?_, ?_, ?_⟩⟩
   ·simp only [maxLen]; omega
   ·omega
   intro o2 ho2 _
   (refine nx ?_; try with_reducible exact ⟨⟩)
   repeat' first
     | refine EV.inBlock ?_
     | refine rg ?_
     | exact ⟨⟩
     | fail
   have ih3 := ih (i + 1, o2) ⟨by dsimp only; omega, by rw [hstep, List.length_append, List.map_append]; exact ho2⟩ (by dsimp only; omega)
   dsimp only at ih3
   rw [hstep, List.length_append, List.map_append, show List.map vi [W.r[i]?.getD 0] = [vi (W.r[i]?.getD 0)] from rfl] at ih3
   refine EV.toS ih3 ?_
   exact eE
  ·rw [if_neg (by simp_all), List.append_nil] at hstep
   have ih3 := ih (i + 1, ov) ⟨by dsimp only; omega, by rw [hstep]; exact hov⟩ (by dsimp only; omega)
   dsimp only at ih3
   rw [hstep] at ih3
   refine EV.toS ih3 ?_
   exact eE
 ·have hie : i = p.length := by omega
  subst hie
  clear ih
  repeat' first
    | fail
  have hln0 := Fc p W p.length
  generalize hR : Cm p W p.length = R at *
  refine EV.loopTo (fun x : Nat × Vec => ([(3, pv xb 0), (6, .slice wa W.w.length wc), (8, osv x.2 (R ++ (e.ord.take x.1).map (Dm W)).length), (39, .slice (some ⟨ob, oo, none⟩) e.ord.length oc), (40, vi e.ord.length), (41, vi x.1)], M1, (xb, Cl 45 [f, d, .slice (some ⟨ob, oo, none⟩) e.ord.length oc, n]) :: osg 3 x.2 ((R ++ (e.ord.take x.1).map (Dm W)).map vi)))
   (fun x => x.1 ≤ e.ord.length ∧ E7 1 x.2 (R ++ (e.ord.take x.1).map (Dm W)).length ((R ++ (e.ord.take x.1).map (Dm W)).map vi)) (fun x => e.ord.length - x.1) (0, ov) rfl ⟨Nat.zero_le _, by simpa using hov⟩ ?env2 (by simp) ?_
  case env2 =>
   simp only [List.take_zero, List.map_nil, List.append_nil]
   exact eE
  rintro ⟨k, o1⟩ ⟨hk, ho1⟩ ih
  dsimp only at hk ho1 ih ⊢
  repeat' first
    | refine EV.seq ?_
    | refine EV.skip ?_
    | refine EV.block ?_
    | refine rg ?_
    | (refine cX (fun h => ?_) (fun h => ?_) <;> try exact Ah h)
    | (refine EV.exit rfl ?_)
    | (refine And.intro (by omega) ?_)
    | exact ⟨⟩
    | fail
  ·have hk' : k < e.ord.length := by omega
   obtain ⟨la, lc, hr1, hlc, hr2⟩ := hato k hk'
   have hr1 := hr1.mono hM1
   have hr2 := hr2.mono hM1
   rw [Nat.mul_one] at hr1
   obtain ⟨hin, hln⟩ := hx.oin _ (List.getElem_mem hk')
   have hsx : R ++ (e.ord.take (k + 1)).map (Dm W) = (R ++ (e.ord.take k).map (Dm W)) ++ [Dm W e.ord[k]] := by
    rw [List.take_succ_eq_append_getElem hk', List.map_append, List.append_assoc]; rfl
   have hsl : (R ++ (e.ord.take k).map (Dm W)).length ≤ 35 := by simp; omega
   have ih3 := fun o2 h => ih (k + 1, o2) ⟨by dsimp only; omega, h⟩ (by dsimp only; omega)
   dsimp only at ih3
   rw [hsx, List.length_append, List.map_append] at ih3
   have hlo : Dm W e.ord[k] = if e.ord[k].length = 0 then 0 else W.w[(Ad e.ord[k] (e.ord[k].length - 1)).toNat]?.getD 0 := rfl
   generalize R ++ (e.ord.take k).map (Dm W) = Q at *
   generalize e.ord[k] = l at *
   clear ih
   repeat' first
     | (refine xn ?_; try refine nx ?_)
     | exact ⟨⟩
     | fail
   refine EV.seq ?_
   repeat' first
     | refine rg ?_
     | exact ⟨⟩
     | fail
   refine EV.seq (EV.thru (fun ρ' M' G' => M' = M1 ∧ (∀ q ∈ [(3, pv xb 0), (6, .slice wa W.w.length wc), (8, osv o1 Q.length), (13, vi (Dm W l)), (39, .slice (some ⟨ob, oo, none⟩) e.ord.length oc), (40, vi e.ord.length), (41, vi k)], get ρ' q.1 = some q.2) ∧
    G' = (xb, Cl 45 [f, d, .slice (some ⟨ob, oo, none⟩) e.ord.length oc, n]) :: osg 3 o1 (Q.map vi)) ?_ ?_)
   ·intro k' key
    clear ih3
    rw [hlo] at key
    by_cases hl0 : l.length = 0
    ·rw [if_pos hl0] at key
     repeat' first
       | refine EV.seq ?_
       | refine EV.skip ?_
       | refine rg ?_
       | (refine cX (fun h => ?_) (fun h => ?_) <;> try exact Ah h)
       | exact ⟨⟩
       | fail
     refine EV.reS (key _ _ _ ⟨rfl, ?_, rfl⟩)
     exact eE
    ·rw [if_neg hl0] at key
     obtain ⟨lb, lo, rfl, hatl⟩ := Sl.at (sz := 1) (enc := ei) (fun _ => rfl) (by decide) hr2 (by omega)
     have hll := Cd hatl (l.length - 1) (by omega)
     have hlin := Er hin (k := l.length - 1) (by omega)
     have hp0 : 0 < p.length := by omega
     obtain ⟨wb, wo, rfl, hatw⟩ := Sl.at (sz := 1) (enc := ei) (fun _ => rfl) (by decide) hww (by omega)
     have hwr := Cd hatw (Ad l (l.length - 1)).toNat (by omega)
     simp only [Ad] at hwr
     change rd M1 wb _ 1 [vi (W.w[(Ad l (l.length - 1)).toNat]?.getD 0)] at hwr
     have hwI : Ad l (l.length - 1) < (W.w.length : Int) := by omega
     have hw1 : IntKind.i64.wrap ((l.length : Int) - 1) = ((l.length - 1 : Nat) : Int) := (w64 (by omega) (by omega)).trans (by omega)
     have hw2 : (((l.length - 1 : Nat) : Int)) < (l.length : Int) := by omega
     clear hatl hatw
     repeat' first
       | refine EV.seq ?_
       | (refine EV.reg ?_; (conv => (arg 2; whnf)); (repeat first | refine nx ?_ | simp only [hw1]))
       | (refine cX (fun h => ?_) (fun h => ?_) <;> try exact Ah h)
       | (refine And.intro (by omega) ?_)
       | (refine xm ?_; (repeat first | refine nx ?_ | simp only [hw1]))
       | fail
     refine EV.reS (key _ _ _ ⟨rfl, ?_, rfl⟩)
     exact eE
   rintro ρ2 M2 G2 ⟨rfl, hq, rfl⟩
   refine EV.to ?_ hq (List.Sublist.refl _)
   clear hq hlo
   generalize Dm W l = lw at *
   repeat' first
     | refine rg ?_
     | (with_reducible intro b; try refine nx ?_)
     | exact ⟨⟩
     | fail
   refine ⟨[vi lw], Or.inr ⟨b, 0, rfl, An 0 rfl rfl (by simp)⟩, by simp [B6, C7, Value.oneCell'], Or.inl ⟨o1, _, rfl, _, ho1, _, PullL.p, ?_, ?_, ?_⟩⟩
   ·simp only [maxLen]; omega
   ·omega
   intro o2 ho2 _
   (refine nx ?_; try with_reducible exact ⟨⟩)
   repeat' first
     | refine EV.inBlock ?_
     | refine rg ?_
     | exact ⟨⟩
     | fail
   have ih4 := ih3 o2 ho2
   rw [show List.map vi [lw] = [vi lw] from rfl] at ih4
   refine EV.toS ih4 ?_
   exact eE
  ·have hke : k = e.ord.length := by omega
   subst hke
   rw [List.take_length] at ho1 ⊢
   refine EV.toS (ρ' := [(4, osv o1 (R ++ e.ord.map (Dm W)).length)]) (G' := osg 3 o1 ((R ++ e.ord.map (Dm W)).map vi)) ?_ ?env3
   case env3 =>
    exact eE
   (refine rt Q32_ok ?_; try with_reducible exact ⟨⟩)
   rw [houtd]
   exact ⟨o1, rfl, ho1, rfl⟩
end
end Go.EV

namespace Go.EV
open Go.Proofs
theorem Y2 {M : Aa} {G : Own} {T : TypeId} {ov : Vec} {xs : List Int} (hok : E7 1 ov xs.length (xs.map vi)) (hG : ∀ q ∈ osg T ov (xs.map vi), q ∈ G) : Sl (M.add G) 1 ei (osv ov xs.length) xs :=
 ⟨oad ov, Lt ov, rfl, by rw [Av]; exact D7 hok hG⟩
theorem As4 {M : Aa} {G : Own} {T : TypeId} {ov : Vec} {xs : List Bool} (hok : E7 1 ov xs.length (xs.map vb)) (hG : ∀ q ∈ osg T ov (xs.map vb), q ∈ G) : Sl (M.add G) 1 eb (osv ov xs.length) xs :=
 ⟨oad ov, Lt ov, rfl, by rw [Hx]; exact D7 hok hG⟩
section
variable {M : Aa}
set_option maxHeartbeats 4000000 in
theorem Y3 (e : Exec) (v : Value) (hv : IsX M v e) (h1 : e.frm.length < 1000) (h2 : e.dn.length < 1000) (h3 : e.ord.length < 1000) (h4 : e.fen.length < 1000) (h5 : ∀ l ∈ e.ord, l.length < 1000) :
  Con Tryz.prog 84 #[v] M [] fun v M' _ => IsX M' v e := by
 obtain ⟨f, d, o, n, rfl, hf, hd, ho, hn⟩ := hv
 have hf0 := hf
 have hd0 := hd
 have hn0 := hn
 obtain ⟨fa, fc, rfl, hrf⟩ := hf
 obtain ⟨da, dc, rfl, hrd⟩ := hd
 obtain ⟨na, nc, rfl, hrn⟩ := hn
 obtain ⟨oa, oc, ovs, rfl, hol, hro, hko⟩ := ho
 refine Con.enter Q0_ok (args := [.agg #[.slice fa e.frm.length fc, .slice da e.dn.length dc, .slice oa e.ord.length oc, .slice na e.fen.length nc]]) (by simp [Q0]) fun w0 => ?_
 simp only [Q0, A3]
 refine EV.seq (EV.reg ?_)
 (repeat first | refine nx ?_ | simp only [Es9])
 intro xb rb
 refine EV.seq (EV.thru (fun ρ' M' G' => ∃ cb fv dv nv, M.le M' ∧ Sl M' 1 ei fv e.frm ∧ Sl M' 1 eb dv e.dn ∧ Sl M' 1 ei nv e.fen ∧ get ρ' 1 = some (pv xb 0) ∧ get ρ' 2 = some (pv rb 0) ∧ get ρ' 3 = some (pv cb 0) ∧
  G' = [(cb, Cl 45 [fv, dv, .slice none 0 0, nv]), (rb, Cl 45 [.slice none 0 0, .slice none 0 0, .slice none 0 0, .slice none 0 0]), (xb, Cl 45 [.slice fa e.frm.length fc, .slice da e.dn.length dc, .slice oa e.ord.length oc, .slice na e.fen.length nc])]) ?_ ?_)
 ·intro k' key
  have hcf := fun G => Ft (M := M.add G) e.frm _ (hf0.mono (Aa.le_add _ _)) (by omega)
  have hcd := fun G => T3 (M := M.add G) e.dn _ (hd0.mono (Aa.le_add _ _)) (by omega)
  have hcn := fun G => Ft (M := M.add G) e.fen _ (hn0.mono (Aa.le_add _ _)) (by omega)
  refine EV.any (t := Et0) [(xb, Cl 45 [.slice fa e.frm.length fc, .slice da e.dn.length dc, .slice oa e.ord.length oc, .slice na e.fen.length nc])] (by simp) ?_
  simp only [Am, Au, Al, As, reduceIte, Nat.reduceEqDiff]
  repeat' first
    | ((first | refine zo (fun lq hlq => ?_) | refine zl ?_ | fail); try refine nz ?_)
    | refine zq (fun lq tq hlq htq => ?_)
    | ((with_reducible refine Con.callN (hcf _) ?_) ;  rintro v1 M1 G1 ⟨o1, rfl, ho1, rfl⟩; try refine nz ?_)
    | ((with_reducible refine Con.callN (hcd _) ?_) ;  rintro v2 M2 G2 ⟨o2, rfl, ho2, rfl⟩; try refine nz ?_)
    | ((with_reducible refine Con.callN (hcn _) ?_) ;  rintro v3 M3 G3 ⟨o3, rfl, ho3, rfl⟩; try refine nz ?_)
    | (refine Vc (by first | with_reducible assumption | rfl) (fun tq htq => ?_) (fun tq htq => ?_) <;> try refine nz ?_)
    | (refine Ea (by first | with_reducible assumption | rfl) (fun tq htq => ?_) (fun tq htq => ?_) <;> try refine nz ?_)
    | exact zn
    | refine zf ?_
    | ((first | with_reducible intro b | refine xsA rfl ?_ | refine xw ?_ | refine And.intro (Aa.le_refl _) (And.intro (Ba ?_) ?_); focus ((repeat' first | exact List.Sublist.refl _ | exact List.nil_sublist _ | exact List.sublist_append_left _ _ | refine List.Sublist.cons_cons _ ?_ | refine List.Sublist.append_left ?_ _ | refine List.sublist_append_of_sublist_right ?_ | refine List.Sublist.cons _ ?_); done) | fail); try refine nz ?_)
    | exact ⟨⟩
    | fail
  all_goals
   refine EV.keepS [(b, Cl 45 [osv o1 e.frm.length, osv o2 e.dn.length, .slice none 0 0, osv o3 e.fen.length]), (rb, Cl 45 [.slice none 0 0, .slice none 0 0, .slice none 0 0, .slice none 0 0]), (xb, Cl 45 [.slice fa e.frm.length fc, .slice da e.dn.length dc, .slice oa e.ord.length oc, .slice na e.fen.length nc])] ?_
   generalize hR : M.add _ = N
   have hMN : M.le N := hR ▸ Aa.le_add _ _
   have q1 : Sl N 1 ei (osv o1 e.frm.length) e.frm := hR ▸ Y2 (T := 3) ho1 (fun q hq => by simp [hq])
   have q2 : Sl N 1 eb (osv o2 e.dn.length) e.dn := hR ▸ As4 (T := 4) ho2 (fun q hq => by simp [hq])
   have q3 : Sl N 1 ei (osv o3 e.fen.length) e.fen := hR ▸ Y2 (T := 3) ho3 (fun q hq => by simp [hq])
   exact key _ _ _ ⟨b, _, _, _, hMN, q1, q2, q3, rfl, rfl, rfl, rfl⟩
 rintro ρ2 M2 G2 ⟨cb, fv, dv, nv, hM2, q1, q2, q3, e1, e2, e3, rfl⟩
 obtain ⟨f2, fc2, rfl, hf2⟩ := q1
 obtain ⟨d2, dc2, rfl, hd2⟩ := q2
 obtain ⟨n2, nc2, rfl, hn2⟩ := q3
 refine EV.to (ρ' := [(1, pv xb 0), (2, pv rb 0), (3, pv cb 0)]) ?_ (by simp only [List.forall_mem_cons]; exact ⟨e1, e2, e3, fun _ h => nomatch h⟩) (List.Sublist.refl _)
 clear e1 e2 e3
 repeat' first
   | refine EV.seq ?_
   | refine EV.block ?_
   | refine rg ?_
   | (refine xsA rfl ?_; try refine nx ?_)
   | exact ⟨⟩
   | fail
 refine EV.loopTo (fun x : Nat × Aa × Vec × List Value => ([(1, pv xb 0), (2, pv rb 0), (3, pv cb 0), (17, .slice oa e.ord.length oc), (18, vi e.ord.length), (19, vi x.1)], x.2.1,
   (cb, Cl 45 [.slice f2 e.frm.length fc2, .slice d2 e.dn.length dc2, osv x.2.2.1 x.1, .slice n2 e.fen.length nc2]) :: (rb, Cl 45 [.slice none 0 0, .slice none 0 0, .slice none 0 0, .slice none 0 0]) :: osg 34 x.2.2.1 x.2.2.2))
  (fun x => x.1 ≤ e.ord.length ∧ M2.le x.2.1 ∧ E7 1 x.2.2.1 x.1 x.2.2.2 ∧ x.2.2.2.length = x.1 ∧ ∀ j (h : j < x.2.2.2.length) (h' : j < e.ord.length), SlC x.2.1 1 ei x.2.2.2[j] e.ord[j]) (fun x => e.ord.length - x.1) (0, M2, none, []) rfl ⟨Nat.zero_le _, Aa.le_refl _, ⟨rfl, rfl⟩, rfl, fun j h => absurd h (Nat.not_lt_zero _)⟩ ?env1 (List.Sublist.cons_cons _ (List.Sublist.cons_cons _ (List.nil_sublist _))) ?_
 case env1 =>
  exact eE
 rintro ⟨k, Mk, ov, vs⟩ ⟨hk, hMk, hov, hvl, hvs⟩ ih
 dsimp only at hk hMk hov hvl hvs ih ⊢
 repeat' first
   | refine EV.seq ?_
   | refine EV.skip ?_
   | refine EV.block ?_
   | refine rg ?_
   | (refine cX (fun h => ?_) (fun h => ?_) <;> try exact Ah h)
   | (refine EV.exit rfl ?_)
   | (refine xrA rfl ?_; try refine nx ?_)
   | (refine xw ?_; refine nx ?_)
   | exact ⟨⟩
   | fail
 ·have hk' : k < e.ord.length := by omega
  obtain ⟨ob, oo, rfl, hato⟩ := Di.at hro hol hko (by omega)
  obtain ⟨la, lc, hr1, hlc, hr2⟩ := hato k hk'
  have hr1 := hr1.mono (Aa.le_trans hM2 hMk)
  have hr2 := hr2.mono (Aa.le_trans hM2 hMk)
  rw [Nat.mul_one] at hr1
  have hl5 := h5 _ (List.getElem_mem hk')
  repeat' first
    | (refine And.intro (by omega) ?_)
    | (refine xn ?_; try refine nx ?_)
    | exact ⟨⟩
    | fail
  have hcl := fun G => Ft (M := Mk.add G) e.ord[k] (.slice la e.ord[k].length lc) (⟨la, lc, rfl, hr2.mono (Aa.le_add _ _)⟩) (by omega)
  refine EV.any (t := Et1) [(cb, Cl 45 [.slice f2 e.frm.length fc2, .slice d2 e.dn.length dc2, osv ov k, .slice n2 e.fen.length nc2])] (by simp) ?_
  simp only [Am, Au, Al, As, reduceIte, Nat.reduceEqDiff]
  repeat' first
    | ((first | refine zo (fun lq hlq => ?_) | refine zl ?_ | fail); try refine nz ?_)
    | refine zq (fun lq tq hlq htq => ?_)
    | ((with_reducible refine Con.callN (hcl _) ?_) ;  rintro v1 M1 G1 ⟨o1, rfl, ho1, rfl⟩; try refine nz ?_)
    | (refine Vc (by first | with_reducible assumption | rfl) (fun tq htq => ?_) (fun tq htq => ?_) <;> try refine nz ?_)
    | (refine Ea (by first | with_reducible assumption | rfl) (fun tq htq => ?_) (fun tq htq => ?_) <;> try refine nz ?_)
    | exact zn
    | ((first | with_reducible intro b | refine xsA rfl ?_ | refine And.intro (Aa.le_refl _) (And.intro (Ba ?_) ?_); focus ((repeat' first | exact List.Sublist.refl _ | exact List.nil_sublist _ | exact List.sublist_append_left _ _ | refine List.Sublist.cons_cons _ ?_ | refine List.Sublist.append_left ?_ _ | refine List.sublist_append_of_sublist_right ?_ | refine List.Sublist.cons _ ?_); done) | fail); try refine nz ?_)
    | exact ⟨⟩
    | fail
  refine ⟨[osv o1 e.ord[k].length], Or.inr ⟨_, 0, rfl, Bz (T := 34) (cs := [osv o1 e.ord[k].length]) (by simp) rfl (by simp)⟩, by simp [B6, C7, Value.oneCell'], Or.inl ⟨ov, _, rfl, _, hov, _, PullL.p, by simp only [maxLen]; omega, by omega, fun o2 ho2 _ => ?_⟩⟩
  repeat' first
    | ((first | refine zo (fun lq hlq => ?_) | refine zl ?_ | fail); try refine nz ?_)
    | refine zq (fun lq tq hlq htq => ?_)
    | (refine Ea (by first | with_reducible assumption | rfl) (fun tq htq => ?_) (fun tq htq => ?_) <;> try refine nz ?_)
    | exact zn
    | refine zf ?_
    | (refine xw ?_; try refine nz ?_)
    | exact ⟨⟩
    | fail
  refine EV.keepS ((cb, Cl 45 [.slice f2 e.frm.length fc2, .slice d2 e.dn.length dc2, osv o2 (k + 1), .slice n2 e.fen.length nc2]) :: (rb, Cl 45 [.slice none 0 0, .slice none 0 0, .slice none 0 0, .slice none 0 0]) :: osg 34 o2 (vs ++ [osv o1 e.ord[k].length])) ?_
  generalize hR : Mk.add _ = N
  have hMN : Mk.le N := hR ▸ Aa.le_add _ _
  have hnew : SlC N 1 ei (osv o1 e.ord[k].length) e.ord[k] := hR ▸ Hh (T := 3) ho1 rfl (fun q hq => by simp [hq])
  clear hR
  have ih3 := ih (k + 1, N, o2, vs ++ [osv o1 e.ord[k].length]) ⟨by dsimp only; omega, Aa.le_trans hMk hMN, ho2, by simp [hvl], fun j hj hj2 => ?_⟩ (by dsimp only; omega)
  ·dsimp only at ih3
   repeat' first
     | refine EV.inBlock ?_
     | refine rg ?_
     | exact ⟨⟩
     | fail
   refine EV.toS ih3 ?_
   exact eE
  ·dsimp only at hj ⊢
   by_cases hjv : j < vs.length
   ·rw [List.getElem_append_left hjv]; exact (hvs j hjv hj2).mono hMN
   ·have : j = k := by simp at hj; omega
    subst this
    rw [List.getElem_append_right (by omega)]
    simp only [hvl, Nat.sub_self, List.getElem_cons_zero]; exact hnew
 ·have hke : k = e.ord.length := by omega
  subst hke
  repeat' first
    | fail
  refine EV.keepS [(rb, Cl 45 [.slice f2 e.frm.length fc2, .slice d2 e.dn.length dc2, osv ov e.ord.length, .slice n2 e.fen.length nc2])] ?_
  generalize hR : Mk.add _ = N
  have hMN : Mk.le N := hR ▸ Aa.le_add _ _
  have hro : rdS N 1 (oad ov) e.ord.length vs := hR ▸ D7 (T := 34) hov (fun q hq => by simp [hq])
  clear hR
  have hle := Aa.le_trans hMk hMN
  (refine rt Q0_ok ?_; try with_reducible exact ⟨⟩)
  refine ⟨_, An 0 rfl rfl (by simp), ?_⟩
  exact ⟨_, _, _, _, rfl, ⟨_, _, rfl, hf2.mono hle⟩, ⟨_, _, rfl, hd2.mono hle⟩, ⟨_, _, vs, rfl, hvl, hro, fun j a b => (hvs j a b).mono hMN⟩, ⟨_, _, rfl, hn2.mono hle⟩⟩
end
end Go.EV

namespace Go.EV
open Go.Proofs
section
variable {P : Program}
def Ua {α : Type} (P : Program) (g : FuncId) (first caps : Array Value) (M : Aa) (L : List α) (El : α → Value → Aa → Prop) : Prop :=
 ∀ (l : Nat) (I : List α → Aa → Own → Prop) (S : Aa → Own → Prop) (M1 : Aa) (G : Own), M.le M1 →
  (∀ xs M2 M3 G2, M2.le M3 → I xs M2 G2 → I xs M3 G2) →
  (∀ M2 M3 G2, M2.le M3 → S M2 G2 → S M3 G2) →
  (∀ xs x, x ∈ L → ∀ M2 G2 v, M1.le M2 → I xs M2 G2 → El x v M2 → Kl P l #[v] M2 G2 fun b M3 G3 => (b = .bool true ∧ I (xs ++ [x]) M3 G3) ∨ (b = .bool false ∧ S M3 G3)) →
  ∀ xs, I xs M1 G → Con P g (first ++ #[yv l] ++ caps) M1 G fun _ M' G' => I (xs ++ L) M' G' ∨ S M' G'
theorem Ua.mono {α : Type} {g : FuncId} {first caps : Array Value} {M M' : Aa} {L : List α} {El : α → Value → Aa → Prop} (h : Ua P g first caps M L El) (hM : M.le M') : Ua P g first caps M' L El :=
 fun l I S M1 G hle => h l I S M1 G (Aa.le_trans hM hle)
variable {α : Type} {C : Cx P} {V : List Nat} {k : List RItem} {ρ : Env} {M : Aa} {G : Own} {f : A} {ps : List Nat} {asg bd : RCode} {fv : Value} {g : FuncId} {first caps : Array Value}
theorem R4 {L : List α} {El : α → Value → Aa → Prop} (hit : Ua P g first caps M L El) (I : List α → Aa → Own → Prop) (S : Code → Aa → Own → Prop)
  {l : Nat} {r : Loop} {fn : FuncId} {nt t : Nat} (hr : LoopIs P V r fn nt [t] asg bd ρ)
  (hmono : ∀ xs M2 M3 G2, M2.le M3 → I xs M2 G2 → I xs M3 G2)
  (hSm : ∀ c M2 M3 G2, M2.le M3 → S c M2 G2 → S c M3 G2)
  (hbody : ∀ xs x v M2 G2 w0 F, x ∈ L → M.le M2 → I xs M2 G2 → El x v M2 → EV (Cx.rnd P l r fn nt w0 F M2 (I (xs ++ [x])) S) V [.code asg, .begins, .code bd] ((t, v) :: ρ) M2 ((l, Obj.loop r) :: G2))
  {G0 : Own} (hI : I [] M G0) :
  Con P g (first ++ #[yv l] ++ caps) M ((l, Obj.loop r) :: G0) fun _ M' G' => (∃ G1, G'.Perm ((l, Obj.loop r) :: G1) ∧ I L M' G1) ∨ (∃ c G1, G'.Perm ((l, Obj.loop { r with state := .done, pending := some c }) :: G1) ∧ S c M' G1) := by
 have := hit l (fun xs M2 G2 => ∃ G1, G2.Perm ((l, Obj.loop r) :: G1) ∧ I xs M2 G1) (fun M2 G2 => ∃ c G1, G2.Perm ((l, Obj.loop { r with state := .done, pending := some c }) :: G1) ∧ S c M2 G1) M ((l, Obj.loop r) :: G0) (Aa.le_refl _)
  (fun xs M2 M3 G2 hle ⟨G1, h1, h2⟩ => ⟨G1, h1, hmono _ _ _ _ hle h2⟩) (fun M2 M3 G2 hle ⟨c, G1, h1, h2⟩ => ⟨c, G1, h1, hSm _ _ _ _ hle h2⟩) ?_ [] ⟨G0, List.Perm.refl _, hI⟩
 ·exact this
 ·rintro xs x hx M2 G2 v hM2 ⟨G1, hp, h2⟩ hv
  have hy : Kl P l [v].toArray M2 ((l, Obj.loop r) :: G1) (U9 l r (I (xs ++ [x])) S) :=
   Kl.enter (List.mem_cons_self ..) hr rfl fun w0 => hbody xs x v M2 G1 w0 _ hx hM2 h2 hv
  intro w hs
  obtain ⟨r', e1, e2, e3⟩ := hy w (by
   have hs' := hs.perm hp
   have : St w ((((l, Obj.loop r) :: G1)).map (·.1)) M2 M2 ((l, Obj.loop r) :: G1) w := St.enter hs'.agree hs'.own hs'.sep hs'.nodup
   exact this)
  refine ⟨r', e1, e2, e3.mono ?_⟩
  rintro b w' ⟨M', G', k1, k2⟩
  refine ⟨M', G', ?_, ?_⟩
  ·have hmem : ∀ b, b ∈ (((l, Obj.loop r) :: G1).map (·.1)) ↔ b ∈ G2.map (·.1) := fun b => ((hp.map (·.1)).mem_iff).symm
   exact ⟨k1.os, k1.tape, k1.output, k1.size, fun b hb hf => k1.frame b hb (fun h => hf ((hmem b).1 h)), k1.agree, k1.own, k1.sep, fun p hp' => (k1.new p hp').imp (hmem _).1 id, k1.nodup, k1.base,
    fun b o hm => (k1.fresh b o hm).imp id fun h => h.imp (hmem _).1 id⟩
  ·rcases k2 with ⟨rfl, G3, h3, h4⟩ | ⟨rfl, c, G3, h3, h4⟩
   ·exact .inl ⟨rfl, G3, h3, h4⟩
   ·exact .inr ⟨rfl, c, G3, h3, h4⟩
theorem EV.overM {L : List α} {El : α → Value → Aa → Prop} (hro : C.b.roundOf = none) (hfv : ev ρ f = some fv) (hfn : fn? fv = some (g, first, caps)) (hit : Ua P g first caps M L El)
  (I : Nat → List α → Aa → Own → Prop) (S : Nat → Code → Aa → Own → Prop) {t : Nat}
  (hmono : ∀ d xs M2 M3 G2, M2.le M3 → I d xs M2 G2 → I d xs M3 G2)
  (hSm : ∀ d c M2 M3 G2, M2.le M3 → S d c M2 G2 → S d c M3 G2)
  (hI : ∀ d, I d [] M ((d, Obj.deferred (some [])) :: G))
  (hbody : ∀ l d (r : Loop), r.state = .ready → r.pending = none → ∀ xs x v M2 G2 w0 F, x ∈ L → M.le M2 → I d xs M2 G2 → El x v M2 →
   EV (Cx.rnd P l r C.b.fn C.nt w0 F M2 (I d (xs ++ [x])) (S d)) V [.code asg, .begins, .code bd] ((t, v) :: ρ) M2 ((l, Obj.loop r) :: G2))
  (hend : ∀ d M' G', M.le M' → I d L M' G' → EV (C.marks [d]) V k ρ M' G')
  (hjump : ∀ d c M' G', M.le M' → S d c M' G' → Va (C.marks [d]) V k ρ c M' G') :
  EV C V (.code (.rangeF f [t] asg bd) :: k) ρ M G := by
 refine EV.rangeF hro hfv hfn fun l d r hr h1 h2 => ?_
 refine Con.callA (G2 := []) (R4 hit (I d) (S d) hr (hmono d) (hSm d) (fun xs x v M2 G2 w0 F => hbody l d r h1 h2 xs x v M2 G2 w0 F) (hI d)) (by simp) ?_
 rintro v M' G' hM' (⟨G1, hp, h3⟩ | ⟨c, G1, hp, h3⟩)
 ·refine ⟨r, G1, by simpa using hp, by rw [h1]; simp, ?_⟩
  rw [h2]; exact hend d M' G1 hM' h3
 ·refine ⟨_, G1, by simpa using hp, by simp, ?_⟩
  have := hjump d c M' G1 hM' h3
  cases c <;> first | exact this | exact this.elim
end
def ElX (x : Exec) (v : Value) (M : Aa) : Prop := IsX M v x
section
variable {M : Aa}
theorem Qk (p : List Ev) {pb po pc b1 : Nat} (h1 : rd M b1 0 1 [.slice (some ⟨pb, po, none⟩) p.length pc]) (i : Nat) (hi : i < p.length) (hp : rd M pb (po + i * 6) 6 (A2 (evAt p i))) :
  Aq Tryz.prog 75 #[vi i, pv b1 0] M (vb (evAt p i).strong) := by
 have hi' : (i : Int) < p.length := by omega
 refine Con.enter Q18_ok (args := [vi i, pv b1 0]) (by simp [Q18]) fun w0 => ?_
 simp only [Q18, A3]
 repeat' first
   | refine EV.seq ?_
   | refine rg ?_
   | (refine Aq.call (L6 (evAt p i)) ?_; try refine nx ?_)
   | (refine And.intro (by omega) ?_)
   | ((first | refine xm ?_ | refine xn ?_ | fail); try refine nx ?_)
   | exact ⟨⟩
   | fail
 (refine rt Q18_ok ?_; try with_reducible exact ⟨⟩)
theorem Ac4 {p : List Ev} {e : Exec} (hp : POk p) (hx : XOk p e) : e.frm.length < 1000 ∧ e.dn.length < 1000 ∧ e.ord.length < 1000 ∧ e.fen.length < 1000 ∧ ∀ l ∈ e.ord, l.length < 1000 := by
 have := hp.len
 refine ⟨by rw [hx.fl]; omega, by rw [hx.dl]; omega, by rw [hx.ol]; omega, by have := hx.fin.2; omega, fun l hl => by have := (hx.oin l hl).2; omega⟩
set_option maxHeartbeats 4000000 in
theorem Ub (p : List Ev) (hp : POk p) {ps ss : Value} {pb sb : Nat} (hps : Sl M 6 A2 ps p) (hss : SlC M 1 ei ss (Bi p)) (h1 : rd M pb 0 1 [ps]) (h2 : rd M sb 0 1 [ss]) :
  Ua Tryz.prog 77 #[] #[pv pb 0, pv sb 0] M (Gu p) ElX := by
 have hpl := hp.len
 intro ly I S M1 G hM hmono hSm hy xs hI
 have h1' := h1.mono hM
 have h2' := h2.mono hM
 have hps1 := hps.mono hM
 have hss1 := hss.mono hM
 obtain ⟨ea, ec, rfl, hpr⟩ := hps
 obtain ⟨sa, sc, rfl, hsc, hsr⟩ := hss
 refine Con.enter Q19_ok (args := [yv ly, pv pb 0, pv sb 0]) (by simp [Q19]) fun w0 => ?_
 simp only [Q19, A3]
 refine EV.seq (EV.reg ?_)
 (repeat first | refine nx ?_ | simp only [Bm3])
 intro yb
 refine EV.frz [(yb, Cl 124 [yv ly])] ?_
 generalize hR : M1.add _ = N
 have hMN : M1.le N := hR ▸ Aa.le_add _ _
 have hyN : rd N yb 0 1 [yv ly] := hR ▸ An 0 rfl rfl (by simp)
 clear hR
 have h1N := h1'.mono hMN
 have h2N := h2'.mono hMN
 have hpsN := hps1.mono hMN
 have hssN := hss1.mono hMN
 have hIN := hmono _ _ _ _ hMN hI
 repeat' first
   | refine EV.seq ?_
   | refine rg ?_
   | (refine xn ?_; try refine nx ?_)
   | exact ⟨⟩
   | fail
 refine Con.callS (G1 := []) (Ws p hpl hpsN) ?_
 rintro v M2 G2 hM2 ⟨g2, caps2, rfl, hit2⟩
 repeat' first
   | refine EV.block ?_
   | fail
 refine EV.toS (ρ' := [(0, yv ly), (1, pv pb 0), (2, pv sb 0), (3, pv yb 0), (9, .func (.func g2) #[] caps2)]) (G' := G) ?_ ?env1
 case env1 =>
  exact eE
 have hLs : Gu p = (Kq p).flatMap (Kt p) := rfl
 refine EV.over rfl rfl rfl hit2 (fun d ls M G' => ∃ G0, G'.Perm ((d, Obj.deferred (some [])) :: G0) ∧ I (xs ++ ls.flatMap (Kt p)) M G0)
  (fun d c M G' => c = .ret ∧ ∃ G0, G'.Perm ((d, Obj.deferred (some [])) :: G0) ∧ S M G0) ?_ ?_ ?_ ?_ ?_
 ·rintro d ls M4 M5 G4 hle ⟨G0, hp, hI0⟩
  exact ⟨G0, hp, hmono _ _ _ _ hle hI0⟩
 ·intro d
  exact ⟨G, List.Perm.refl _, by simpa using hmono _ _ _ _ hM2 hIN⟩
 ·intro l1 d r1 hr1 hr1' ls dn v M4 G4 w1 F1 hdn hM4 ⟨G0, hp4, hI4⟩ hel
  refine EV.permG ?_ (List.Perm.cons _ hp4)
  have hdl : dn.length = p.length := by
   obtain ⟨set, _, rfl⟩ := List.mem_map.1 hdn; exact Ex p set
  have hel0 := hel.sl
  obtain ⟨da, dc, rfl, hdc, hdr⟩ := hel
  refine EV.reg (sts := Al6) ?_
  (repeat first | refine nx ?_ | simp only [Al6])
  intro db
  repeat' first
    | (refine xw ?_; refine nx ?_)
    | exact ⟨⟩
    | fail
  refine EV.frz [(db, Cl 35 [.slice da dn.length dc])] ?_
  generalize hR : M4.add _ = N4
  have hMN4 : M4.le N4 := hR ▸ Aa.le_add _ _
  have hdb : rd N4 db 0 1 [.slice da dn.length dc] := hR ▸ An 0 rfl rfl (by simp)
  clear hR
  refine EV.rbegin hr1 ?_
  have hN4 := Aa.le_trans hM2 (Aa.le_trans hM4 hMN4)
  have h1q := h1N.mono hN4
  have h2q := h2N.mono hN4
  have hyq := hyN.mono hN4
  have hpsq := hpsN.mono hN4
  have hssq := hssN.mono hN4
  have hIq := hmono _ _ _ _ hMN4 hI4
  have hdsq := hel0.mono hMN4
  have hMq := Aa.le_trans hMN hN4
  clear h1N h2N hyN h1' h2' hps1 hss1
  repeat' first
    | refine EV.seq ?_
    | refine EV.block ?_
    | refine rg ?_
    | (refine xn ?_; try refine nx ?_)
    | exact ⟨⟩
    | fail
  refine Con.callS (G1 := []) (T7 p dn hpl hdl 3 0 rfl (Int.le_refl _) N4 _ _ hpsq hdsq) ?_
  rintro v5 M5 G5 hM5 ⟨g5, caps5, rfl, hit5⟩
  repeat' first
    | refine EV.block ?_
    | fail
  refine EV.toS (ρ' := [(0, yv ly), (1, pv pb 0), (2, pv sb 0), (3, pv yb 0), (4, pv db 0), (13, .func (.func g5) #[] caps5)]) (G' := (l1, Obj.loop { r1 with state := .busy }) :: (d, Obj.deferred (some [])) :: G0) ?_ ?env2
  case env2 =>
   exact eE
  generalize hbase : xs ++ ls.flatMap (Kt p) = ys at *
  have hLo : Kt p dn = (B0 p dn 3 0).flatMap (Mf p dn) := rfl
  refine EV.overI (l0 := l1) (r0 := { r1 with state := .busy }) rfl (by simp) rfl rfl hit5 (fun zs M G' => ∃ G1, G'.Perm ((l1, Obj.loop { r1 with state := .busy }) :: (d, Obj.deferred (some [])) :: G1) ∧ I (ys ++ zs.flatMap (Mf p dn)) M G1)
   (fun c M G' => c = .ret ∧ ∃ G1, G'.Perm ((l1, Obj.loop { r1 with state := .busy }) :: (d, Obj.deferred (some [])) :: G1) ∧ S M G1) ?_ ?_ ?_ ?_ ?_
  ·rintro zs M6 M7 G6 hle ⟨G1, hp, hI0⟩
   exact ⟨G1, hp, hmono _ _ _ _ hle hI0⟩
  ·exact ⟨G0, List.Perm.refl _, by simpa using hmono _ _ _ _ hM5 hIq⟩
  ·intro l2 r2 hr2 hr2' zs ord v M6 G6 w2 F2 hord hM6 ⟨G1, hp6, hI6⟩ helo
   refine EV.permG ?_ (List.Perm.cons _ hp6)
   obtain ⟨hoo, hoin⟩ := ordersP_ok hp hdl hord
   have helo0 := helo
   obtain ⟨oa, oc, ovs, rfl, hol, hor, hos⟩ := helo
   refine EV.reg (sts := Al7) ?_
   (repeat first | refine nx ?_ | simp only [Al7])
   intro ob
   repeat' first
     | (refine xw ?_; refine nx ?_)
     | exact ⟨⟩
     | fail
   refine EV.frz [(ob, Cl 26 [.slice oa ord.length oc])] ?_
   generalize hR : M6.add _ = N6
   have hMN6 : M6.le N6 := hR ▸ Aa.le_add _ _
   have hob : rd N6 ob 0 1 [.slice oa ord.length oc] := hR ▸ An 0 rfl rfl (by simp)
   clear hR
   refine EV.rbegin hr2 ?_
   have hN6 := Aa.le_trans hM5 (Aa.le_trans hM6 hMN6)
   have h1r := h1q.mono hN6
   have h2r := h2q.mono hN6
   have hyr := hyq.mono hN6
   have hpsr := hpsq.mono hN6
   have hssr := hssq.mono hN6
   have hIr := hmono _ _ _ _ hMN6 hI6
   have hdsr := hdsq.mono hN6
   have hdbr := hdb.mono hN6
   have hosr : Di N6 1 ei (.slice oa ord.length oc) ord := Di.mono hMN6 helo0
   have hMr := Aa.le_trans hMq hN6
   clear h1q h2q hyq
   repeat' first
     | refine EV.seq ?_
     | refine EV.block ?_
     | refine rg ?_
     | (refine xn ?_; try refine nx ?_)
     | exact ⟨⟩
     | fail
   refine Con.callS (G1 := []) (Wu hp hdl hoo hpsr hdsr hosr) ?_
   rintro v7 M7 G7 hM7 ⟨g7, caps7, rfl, hit7⟩
   repeat' first
     | refine EV.block ?_
     | fail
   refine EV.toS (ρ' := [(0, yv ly), (1, pv pb 0), (2, pv sb 0), (3, pv yb 0), (4, pv db 0), (5, pv ob 0), (18, .func (.func g7) #[] caps7)]) (G' := (l2, Obj.loop { r2 with state := .busy }) :: (l1, Obj.loop { r1 with state := .busy }) :: (d, Obj.deferred (some [])) :: G1) ?_ ?env3
   case env3 =>
    exact eE
   generalize hbase2 : ys ++ zs.flatMap (Mf p dn) = us at *
   refine EV.overI (l0 := l2) (r0 := { r2 with state := .busy }) rfl (by simp) rfl rfl hit7 (fun qs M G' => ∃ G2, G'.Perm ((l2, Obj.loop { r2 with state := .busy }) :: (l1, Obj.loop { r1 with state := .busy }) :: (d, Obj.deferred (some [])) :: G2) ∧ I (us ++ qs.flatMap (Ih p dn ord)) M G2)
    (fun c M G' => c = .ret ∧ ∃ G2, G'.Perm ((l2, Obj.loop { r2 with state := .busy }) :: (l1, Obj.loop { r1 with state := .busy }) :: (d, Obj.deferred (some [])) :: G2) ∧ S M G2) ?_ ?_ ?_ ?_ ?_
   ·rintro qs M8 M9 G8 hle ⟨G2, hp, hI0⟩
    exact ⟨G2, hp, hmono _ _ _ _ hle hI0⟩
   ·exact ⟨G1, List.Perm.refl _, by simpa using hmono _ _ _ _ hM7 hIr⟩
   ·intro l3 r3 hr3 hr3' qs frm v M8 G8 w3 F3 hfrm hM8 ⟨G2, hp8, hI8⟩ helf
    refine EV.permG ?_ (List.Perm.cons _ hp8)
    have helf0 := helf.sl
    obtain ⟨fa, fc, rfl, hfc, hfr⟩ := helf
    have hx0 : ∀ fen : List Int, He p fen ∧ fen.length ≤ p.length → XOk p ⟨frm, dn, ord, fen⟩ := fun fen hn => exec_ok hp hdn hord hfrm hn
    have hnil : XOk p ⟨frm, dn, ord, []⟩ := hx0 [] ⟨fun x h => (nomatch h), Nat.zero_le _⟩
    refine EV.reg (sts := Al8) ?_
    (repeat first | refine nx ?_ | simp only [Al8])
    refine EV.rbegin hr3 ?_
    have hN8 := Aa.le_trans hM7 hM8
    have h1s := h1r.mono hN8
    have h2s := h2r.mono hN8
    have hys := hyr.mono hN8
    have hpss := hpsr.mono hN8
    have hsss := hssr.mono hN8
    have hdbs := hdbr.mono hN8
    have hobs := hob.mono hN8
    have hdss := hdsr.mono hN8
    have hoss : Di M8 1 ei (.slice oa ord.length oc) ord := Di.mono hN8 hosr
    have hMs := Aa.le_trans hMr hN8
    clear h1r h2r hyr
    have hXs : ∀ M', M8.le M' → ∀ (n : Value) (fen : List Int), Sl M' 1 ei n fen → IsX M' (.agg #[.slice fa frm.length fc, .slice da dn.length dc, .slice oa ord.length oc, n]) ⟨frm, dn, ord, fen⟩ :=
     fun M' hM' n fen hn => ⟨_, _, _, _, rfl, helf0.mono hM', hdss.mono hM', Di.mono hM' hoss, hn⟩
    have hps0 := fun G => P9 (M := M8.add G) p _ (hpss.mono (Aa.le_add _ _)) hp ⟨frm, dn, ord, []⟩ _ (hXs _ (Aa.le_add _ _) (.slice none 0 0) [] ⟨none, 0, rfl, .inl ⟨rfl, rfl⟩⟩) hnil
    repeat' first
      | refine EV.seq ?_
      | refine EV.skip ?_
      | refine EV.block ?_
      | refine rg ?_
      | (refine Aq.call (hps0 _) ?_; try refine nx ?_)
      | (refine cX (fun h => ?_) (fun h => ?_) <;> try exact Ah h)
      | (refine EV.exit rfl ?_)
      | ((first | with_reducible intro b | refine xn ?_ | refine xrA rfl ?_ | fail); try refine nx ?_)
      | (refine xw ?_; refine nx ?_)
      | exact ⟨⟩
      | fail
    ·have hF : Ih p dn ord frm = [] := by rw [Ih, if_neg (by simp [h])]
     refine EV.keepS ((l3, Obj.loop { r3 with state := .busy }) :: (l2, Obj.loop { r2 with state := .busy }) :: (l1, Obj.loop { r1 with state := .busy }) :: (d, Obj.deferred (some [])) :: G2) ?_
     refine EV.rend hr3 hr3' (List.Perm.refl _) ⟨G2, List.Perm.refl _, ?_⟩
     rw [List.flatMap_append, List.flatMap_singleton, hF, List.append_nil]
     exact hmono _ _ _ _ (Aa.le_add _ _) hI8
    ·have hF : Ih p dn ord frm = ((Cy p (Bi p)).map fun f => (⟨frm, dn, ord, f⟩ : Exec)).filter fun e => decide (Cp p e = 0) := by rw [Ih, if_pos h]
     have hfl : (Bi p).length ≤ p.length := Bw _ _
     refine Con.callS (G1 := []) (Me p (by omega) hpss hsss (Mg p) (by omega)) ?_
     rintro v9 M9 G9 hM9 ⟨g9, caps9, rfl, hit9⟩
     repeat' first
       | refine EV.block ?_
       | fail
     refine EV.toS (ρ' := [(0, yv ly), (1, pv pb 0), (2, pv sb 0), (3, pv yb 0), (4, pv db 0), (5, pv ob 0), (7, pv b 0), (30, .func (.func g9) #[] caps9)]) (G' := (b, Cl 45 [.slice fa frm.length fc, .slice da dn.length dc, .slice oa ord.length oc, .slice none 0 0]) :: (l3, Obj.loop { r3 with state := .busy }) :: (l2, Obj.loop { r2 with state := .busy }) :: (l1, Obj.loop { r1 with state := .busy }) :: (d, Obj.deferred (some [])) :: G2) ?_ ?env4
     case env4 =>
      exact eE
     generalize hbase3 : us ++ qs.flatMap (Ih p dn ord) = ts at *
     refine EV.overI (l0 := l3) (r0 := { r3 with state := .busy }) rfl (by simp) rfl rfl hit9 (fun ns M G' => ∃ fv G3, G'.Perm ((b, Cl 45 [.slice fa frm.length fc, .slice da dn.length dc, .slice oa ord.length oc, fv]) :: (l3, Obj.loop { r3 with state := .busy }) :: (l2, Obj.loop { r2 with state := .busy }) :: (l1, Obj.loop { r1 with state := .busy }) :: (d, Obj.deferred (some [])) :: G3) ∧ I (ts ++ (ns.map fun f => (⟨frm, dn, ord, f⟩ : Exec)).filter fun e => decide (Cp p e = 0)) M G3)
      (fun c M G' => c = .ret ∧ ∃ fv G3, G'.Perm ((b, Cl 45 [.slice fa frm.length fc, .slice da dn.length dc, .slice oa ord.length oc, fv]) :: (l3, Obj.loop { r3 with state := .busy }) :: (l2, Obj.loop { r2 with state := .busy }) :: (l1, Obj.loop { r1 with state := .busy }) :: (d, Obj.deferred (some [])) :: G3) ∧ S M G3) ?_ ?_ ?_ ?_ ?_
     ·rintro ns M10 M11 G10 hle ⟨fv, G3, hp, hI0⟩
      exact ⟨fv, G3, hp, hmono _ _ _ _ hle hI0⟩
     ·exact ⟨_, G2, List.Perm.refl _, by simpa using hmono _ _ _ _ hM9 hI8⟩
     ·intro l4 r4 hr4 hr4' ns fen v M10 G10 w4 F4 hfen hM10 ⟨fv, G3, hp10, hI10⟩ heln
      refine EV.permG ?_ (List.Perm.cons _ hp10)
      have heln0 := heln.sl
      obtain ⟨na, nc, rfl, hnc, hnr⟩ := heln
      have hMx := Aa.le_trans hM9 hM10
      have hxx : XOk p ⟨frm, dn, ord, fen⟩ := hx0 fen (J9 hfen)
      have hX := fun M' (hM' : M10.le M') => hXs M' (Aa.le_trans hMx hM') (.slice na fen.length nc) fen (heln0.mono hM')
      have hbr := fun G => Ir (M := M10.add G) p _ (hpss.mono (Aa.le_trans hMx (Aa.le_add _ _))) hp ⟨frm, dn, ord, fen⟩ _ (hX _ (Aa.le_add _ _)) hxx
      obtain ⟨c1, c2, c3, c4, c5⟩ := Ac4 hp hxx
      have hcp := Y3 (M := M10) ⟨frm, dn, ord, fen⟩ _ (hX _ (Aa.le_refl _)) c1 c2 c3 c4 c5
      have h1z := h1s.mono hMx
      have hyz := hys.mono hMx
      repeat' first
        | refine rg ?_
        | (refine xw ?_; refine nx ?_)
        | exact ⟨⟩
        | fail
      refine EV.rbegin hr4 ?_
      refine EV.block (EV.seq ?_)
      refine EV.any (t := Af6) [(b, Cl 45 [.slice fa frm.length fc, .slice da dn.length dc, .slice oa ord.length oc, .slice na fen.length nc])] (List.Sublist.cons _ (List.Sublist.cons_cons _ (List.nil_sublist _))) ?_
      simp only [Am, Au, Al, As, reduceIte, Nat.reduceEqDiff]
      by_cases hb : Cp p ⟨frm, dn, ord, fen⟩ = 0
      ·have hb0 : decide (Cp p ⟨frm, dn, ord, fen⟩ = 0) = true := decide_eq_true hb
       repeat' first
         | ((first | refine zo (fun lq hlq => ?_) | refine zl ?_ | fail); (repeat first | refine nz ?_ | simp only [hb0]))
         | refine zq (fun lq tq hlq htq => ?_)
         | (refine Exists.intro _ (And.intro (hbr _) ?_); (repeat first | refine nz ?_ | simp only [hb0]))
         | (refine Vc (by first | with_reducible assumption | rfl) (fun tq htq => ?_) (fun tq htq => ?_) <;> (repeat first | refine nz ?_ | simp only [hb0]))
         | exact zn
         | ((refine Ab7 (by first | with_reducible assumption | rfl) rfl (fun tq htq h => ?_) (fun tq htq h => ?_)) <;> try (exfalso; simp at h; done))
         | ((first | refine xm ?_ | refine xn ?_ | refine xrA rfl ?_ | fail); (repeat first | refine nz ?_ | simp only [hb0]))
         | fail
       refine Con.callS (G1 := []) hcp ?_
       rintro v11 M11 G11 hM11 hv11
       repeat' first
         | (refine And.intro (by omega) ?_)
         | fail
       refine ⟨fun q hq => by simp only [List.mem_singleton] at hq; simp [hq], ?_⟩
       repeat' first
         | (refine zl ?_; (repeat first | refine nz ?_ | simp only [hb0]))
         | refine zq (fun lq tq hlq htq => ?_)
         | (refine Ea (by first | with_reducible assumption | rfl) (fun tq htq => ?_) (fun tq htq => ?_) <;> (repeat first | refine nz ?_ | simp only [hb0]))
         | exact zn
         | fail
       refine E0.frzS G11 ?_
       have hmem : (⟨frm, dn, ord, fen⟩ : Exec) ∈ Gu p :=
        List.mem_flatMap.2 ⟨dn, hdn, List.mem_flatMap.2 ⟨ord, hord, List.mem_flatMap.2 ⟨frm, hfrm, by rw [hF]; exact List.mem_filter.2 ⟨List.mem_map.2 ⟨fen, hfen, rfl⟩, hb0⟩⟩⟩⟩
       refine Kl.callS (hy _ _ hmem _ G3 _ (Aa.le_trans hMs (Aa.le_trans hMx (Aa.le_trans hM11 (Aa.le_add _ _)))) (hmono _ _ _ _ (Aa.le_trans hM11 (Aa.le_add _ _)) hI10) (IsX.mono (Aa.le_add _ _) hv11)) ?_
       rintro v12 M12 G12 hM12 (⟨rfl, hI12⟩ | ⟨rfl, hS12⟩)
       ·repeat' first
         | ((refine L3 (by first | with_reducible assumption | rfl) rfl ?_ (fun lq hlq hc => ?_) (fun lq hlq => ?_); rotate_left) <;> (try (exfalso; simp at hc; done)) <;> (repeat first | refine nz ?_ | simp only [Bool.not_true]))
         | ((first | refine zo (fun lq hlq => ?_) | refine zl ?_ | fail); (repeat first | refine nz ?_ | simp only [Bool.not_true]))
         | refine zq (fun lq tq hlq htq => ?_)
         | refine zf ?_
         | with_reducible rfl
         | fail
        repeat' first
          | refine EV.skip ?_
          | refine EV.inBlock ?_
          | (refine cX (fun h => ?_) (fun h => ?_) <;> try exact Ah h)
          | fail
        refine EV.rend hr4 hr4' (List.Perm.refl _) ⟨_, G12, List.Perm.refl _, ?_⟩
        rw [List.map_append, List.filter_append, List.map_singleton, List.filter_cons, List.filter_nil, hb0, if_pos rfl, ← List.append_assoc]; exact hI12
       ·repeat' first
         | ((refine L3 (by first | with_reducible assumption | rfl) rfl ?_ (fun lq hlq hc => ?_) (fun lq hlq => ?_); rotate_left) <;> (try (exfalso; simp at hc; done)) <;> (repeat first | refine nz ?_ | simp only [Bool.not_false]))
         | ((first | refine zo (fun lq hlq => ?_) | refine zl ?_ | fail); (repeat first | refine nz ?_ | simp only [Bool.not_false]))
         | refine zq (fun lq tq hlq htq => ?_)
         | refine zf ?_
         | with_reducible rfl
         | fail
        repeat' first
          | (refine cX (fun h => ?_) (fun h => ?_) <;> try exact Ah h)
          | fail
        exact EV.rret (List.Perm.refl _) ⟨rfl, _, G12, List.Perm.refl _, hS12⟩
      ·have hb0 : decide (Cp p ⟨frm, dn, ord, fen⟩ = 0) = false := decide_eq_false hb
       repeat' first
         | ((refine L3 (by first | with_reducible assumption | rfl) rfl ?_ (fun lq hlq hc => ?_) (fun lq hlq => ?_); rotate_left) <;> (try (exfalso; simp at hc; done)) <;> (repeat first | refine nz ?_ | simp only [hb0]))
         | ((first | refine zo (fun lq hlq => ?_) | refine zl ?_ | fail); (repeat first | refine nz ?_ | simp only [hb0]))
         | refine zq (fun lq tq hlq htq => ?_)
         | (refine Exists.intro _ (And.intro (hbr _) ?_); (repeat first | refine nz ?_ | simp only [hb0]))
         | refine zf ?_
         | refine Ck9 (by first | with_reducible assumption | rfl) (fun tq htq => ?_)
         | ((refine Ab7 (by first | with_reducible assumption | rfl) rfl (fun tq htq h => ?_) (fun tq htq h => ?_)) <;> try (exfalso; simp at h; done))
         | ((first | refine xn ?_ | refine xrA rfl ?_ | fail); (repeat first | refine nz ?_ | simp only [hb0]))
         | exact false
         | fail
       repeat' first
         | refine EV.skip ?_
         | refine EV.inBlock ?_
         | (refine cX (fun h => ?_) (fun h => ?_) <;> try exact Ah h)
         | fail
       refine EV.rend hr4 hr4' (List.Perm.refl _) ⟨_, G3, List.Perm.refl _, ?_⟩
       rw [List.map_append, List.filter_append, List.map_singleton, List.filter_cons, List.filter_nil, hb0, if_neg (by decide), List.append_nil]; exact hI10
     ·rintro M10 G10 hM10 ⟨fv, G3, hp10, hI10⟩
      repeat' first
        | refine EV.inBlock ?_
        | fail
      refine EV.permG ?_ hp10
      refine EV.keepS ((l3, Obj.loop { r3 with state := .busy }) :: (l2, Obj.loop { r2 with state := .busy }) :: (l1, Obj.loop { r1 with state := .busy }) :: (d, Obj.deferred (some [])) :: G3) ?_
      refine EV.rend hr3 hr3' (List.Perm.refl _) ⟨G3, List.Perm.refl _, ?_⟩
      rw [List.flatMap_append, List.flatMap_singleton, ← List.append_assoc, hbase3, hF]
      exact hmono _ _ _ _ (Aa.le_add _ _) hI10
     ·rintro c M10 G10 hM10 ⟨rfl, fv, G3, hp10, hS10⟩
      refine EV.permG ?_ hp10
      refine EV.keepS ((l3, Obj.loop { r3 with state := .busy }) :: (l2, Obj.loop { r2 with state := .busy }) :: (l1, Obj.loop { r1 with state := .busy }) :: (d, Obj.deferred (some [])) :: G3) ?_
      exact EV.rret (List.Perm.refl _) ⟨rfl, G3, List.Perm.refl _, hSm _ _ _ (Aa.le_add _ _) hS10⟩
   ·rintro M8 G8 hM8 ⟨G2, hp8, hI8⟩
    repeat' first
      | refine EV.inBlock ?_
      | fail
    refine EV.rend hr2 hr2' hp8 ⟨G2, List.Perm.refl _, ?_⟩
    rw [List.flatMap_append, List.flatMap_singleton, ← List.append_assoc, hbase2]; exact hI8
   ·rintro c M8 G8 hM8 ⟨rfl, G2, hp8, hS8⟩
    exact EV.rret hp8 ⟨rfl, G2, List.Perm.refl _, hS8⟩
  ·rintro M6 G6 hM6 ⟨G1, hp6, hI6⟩
   repeat' first
     | refine EV.inBlock ?_
     | fail
   refine EV.rend hr1 hr1' hp6 ⟨G1, List.Perm.refl _, ?_⟩
   rw [List.flatMap_append, List.flatMap_singleton, ← List.append_assoc, hbase]; exact hI6
  ·rintro c M6 G6 hM6 ⟨rfl, G1, hp6, hS6⟩
   exact EV.rret hp6 ⟨rfl, G1, List.Perm.refl _, hS6⟩
 ·rintro d M4 G4 hM4 ⟨G0, hp4, hI4⟩
  refine EV.inBlock ?_
  refine EV.doneM Q19_ok (ms := [d]) (by simpa [L1] using hp4) ?_
  (repeat first | refine nx ?_ | simp only [Q19])
  left; rw [hLs]; exact hI4
 ·rintro d c M4 G4 hM4 ⟨rfl, G0, hp4, hS4⟩
  refine EV.retM Q19_ok (ms := [d]) (by simpa [L1] using hp4) ?_
  (repeat first | refine nx ?_ | simp only [Q19])
  right; exact hS4
def Ey6 {α : Type} (L : List α) (El : α → Value → Aa → Prop) (v : Value) (M : Aa) (_ : Own) : Prop := ∃ g caps, v = .func (.func g) #[] caps ∧ Ua Tryz.prog g #[] caps M L El
set_option maxHeartbeats 4000000 in
theorem Wx (p : List Ev) (hp : POk p) {ps : Value} (hps : Sl M 6 A2 ps p) : Con Tryz.prog 34 #[ps] M [] (Ey6 (Gu p) ElX) := by
 have hpl := hp.len
 refine Con.enter Q17_ok (args := [ps]) (by simp [Q17]) fun w0 => ?_
 simp only [Q17, A3]
 have hps0 := hps
 obtain ⟨ea, ec, rfl, hpr⟩ := hps
 refine EV.seq (EV.reg ?_)
 (repeat first | refine nx ?_ | simp only [Ay9])
 intro pb
 refine EV.frz [(pb, Cl 74 [.slice ea p.length ec])] ?_
 generalize hR : M.add _ = N
 have hMN : M.le N := hR ▸ Aa.le_add _ _
 have hpb : rd N pb 0 1 [.slice ea p.length ec] := hR ▸ An 0 rfl rfl (by simp)
 clear hR
 repeat' first
   | refine EV.seq ?_
   | refine rg ?_
   | (refine xn ?_; try refine nx ?_)
   | exact ⟨⟩
   | fail
 refine Con.callS (G1 := []) (Jg p _ ⟨ea, ec, rfl, hpr.mono hMN⟩ (by omega) _ _ (fun i => (evAt p i).strong) ?_) ?_
 ·intro M' hM' i hi
  obtain ⟨eb1, eo, rfl, hat⟩ := Sl.at (enc := A2) (fun _ => rfl) (by decide) hpr (by omega)
  exact Qk p (hpb.mono hM') i hi ((Sl.evAt hat i hi).mono (Aa.le_trans hMN hM'))
 rintro v M2 G2 hM2 ⟨of, rfl, hof, rfl⟩
 repeat' first
   | refine EV.seq ?_
   | refine rg ?_
   | (with_reducible intro b; try refine nx ?_)
   | (refine xw ?_; refine nx ?_)
   | exact ⟨⟩
   | fail
 refine EV.keepS [] ?_
 generalize hR : M2.add _ = N2
 have hMN2 : M2.le N2 := hR ▸ Aa.le_add _ _
 (refine rt Q17_ok ?_; try with_reducible exact ⟨⟩)
 refine ⟨_, _, rfl, Ub p hp (hps0.mono (Aa.le_trans hMN (Aa.le_trans hM2 hMN2))) (hR ▸ Hh (T := 3) hof rfl (fun q hq => by simp [hq])) (hpb.mono (Aa.le_trans hM2 hMN2)) (hR ▸ An 0 rfl rfl (by simp))⟩
end
end Go.EV

namespace Go.EV
open Go.Proofs
theorem Na : ∀ (l : List (List OpV)) (n : Nat) (e : Ev), e ∈ Cj n l → e.op ∈ l.flatten
 | [], _, e, h => by simp [Cj] at h
 | t :: l, n, e, h => by
  simp only [Cj, List.mem_append, List.mem_map] at h
  rcases h with ⟨o, ho, rfl⟩ | h
  ·exact List.mem_flatten.2 ⟨t, List.mem_cons_self .., ho⟩
  ·obtain ⟨l', h1, h2⟩ := List.mem_flatten.1 (Na l (n + 1) e h)
   exact List.mem_flatten.2 ⟨l', List.mem_cons_of_mem _ h1, h2⟩
theorem expOp_ok {o : OpV} (h : Lg o = true) : ∀ x ∈ Ca o, Bq x.ord = true ∧ 0 ≤ x.loc ∧ x.loc < 3 := by
 obtain ⟨q1, q2, q3⟩ := (Eo o).1 h
 have hl : 0 ≤ o.loc ∧ o.loc < 3 := by
  simp only [Wk, Bool.and_eq_true, decide_eq_true_eq] at q3; exact q3.1
 have ho : Bq o.ord = true := by
  simp only [Te, Bool.and_eq_true] at q1; exact q1.2
 intro x hx
 unfold Ca at hx
 split at hx
 ·simp only [List.mem_singleton] at hx; subst hx; exact ⟨ho, hl⟩
 ·simp only [List.mem_cons, List.not_mem_nil, or_false] at hx
  rcases hx with rfl | rfl | rfl
  ·decide
  ·refine ⟨?_, hl⟩
   have : ∀ k : Int, Bq (Ie k o.ord) = true := fun k => by
    unfold Ie
    split
    ·exact ho
    ·split
     ·decide
     ·split <;> decide
   exact this _
  ·decide
theorem Vr (l : List OpV) (hall : ∀ o ∈ l, Lg o = true) : ((Dp l).length : Int) ≤ (A5 l).acc + (A5 l).fen ∧ True := by
 have key : ∀ (l : List OpV) (s : LimS), (∀ o ∈ l, Lg o = true) → ((Dp l).length : Int) + s.acc + s.fen ≤ (l.foldl Ak s).acc + (l.foldl Ak s).fen := by
  intro l
  induction l with
  | nil => intro s _; simp [Dp]
  | cons o l ih =>
   intro s h
   have ih2 := ih (Ak s o) (fun x hx => h x (List.mem_cons_of_mem _ hx))
   have ho := h o (List.mem_cons_self ..)
   obtain ⟨q1, q2, q3⟩ := (Eo o).1 ho
   have hk : 0 ≤ o.kind ∧ o.kind < 6 := by
    simp only [Te, Bool.and_eq_true, decide_eq_true_eq] at q1; exact q1.1
   have e : (Dp (o :: l)).length = (Ca o).length + (Dp l).length := by simp [Dp]
   have : ((Ca o).length : Int) + s.acc + s.fen ≤ (Ak s o).acc + (Ak s o).fen := by
    by_cases h5 : o.kind = 5
    ·have e1 : (Ca o).length = 1 := by unfold Ca Bh; rw [if_pos (by left; simp [h5])]; rfl
     have e2 : (Ak s o).acc = s.acc ∧ (Ak s o).fen = s.fen + 1 := by unfold Ak; rw [if_pos h5]; exact ⟨rfl, rfl⟩
     omega
    ·have ha : Bh o = true := by simp [Bh]; omega
     by_cases h4 : o.ord = 4
     ·have e1 : (Ca o).length = 3 := by unfold Ca; rw [if_neg (by simp [ha, h4])]; rfl
      have e2 : (Ak s o).acc = s.acc + 1 ∧ (Ak s o).fen = s.fen + 2 := by unfold Ak; rw [if_neg h5, if_pos ha]; simp [h4]
      omega
     ·have e1 : (Ca o).length = 1 := by unfold Ca; rw [if_pos (by right; exact h4)]; rfl
      have e2 : (Ak s o).acc = s.acc + 1 ∧ (Ak s o).fen = s.fen := by unfold Ak; rw [if_neg h5, if_pos ha]; simp [h4]
      omega
   rw [List.foldl_cons]
   omega
 exact ⟨by have := key l ⟨0, 0, 0, 0, 0⟩ hall; simpa [A5] using this, trivial⟩
theorem Ql {ts : List (List OpV)} (h : Bd ts = 0) : POk (A6 ts) := by
 obtain ⟨hl, hn, hall⟩ := Cu h
 have hall' : ∀ o ∈ ts.flatten, Lg o = true := List.all_eq_true.1 hall
 have hfl : (ts.map Dp).flatten = Dp ts.flatten := by simp [Dp, List.flatMap_def, List.map_flatten, List.flatten_flatten, List.map_map]; rfl
 have hmem : ∀ i, i < (A6 ts).length → Bq (evAt (A6 ts) i).op.ord = true ∧ 0 ≤ (evAt (A6 ts) i).op.loc ∧ (evAt (A6 ts) i).op.loc < 3 := by
  intro i hi
  have he : evAt (A6 ts) i = (A6 ts)[i] := by simp [evAt, hi]
  rw [he]
  have := Na _ _ _ (List.getElem_mem hi)
  rw [hfl, Dp, List.mem_flatMap] at this
  obtain ⟨o, ho, hx⟩ := this
  exact expOp_ok (hall' o ho) _ hx
 refine ⟨?_, fun i hi => (hmem i hi).1, fun i hi => (hmem i hi).2⟩
 have h1 := (Vr ts.flatten hall').1
 simp only [Fg, Bool.and_eq_true, decide_eq_true_eq] at hl
 have : (A6 ts).length = (Dp ts.flatten).length := by rw [A6, Hc, hfl]
 omega
section
variable {M : Aa}
end
end Go.EV

namespace Go.EV
open Go.Proofs
theorem Gg {α : Type} [DecidableEq α] : ∀ {l m : List α}, l.Nodup → (∀ x ∈ l, x ∈ m) → l.length ≤ m.length
 | [], _, _, _ => Nat.zero_le _
 | x :: l, m, hn, h => by
  obtain ⟨h1, h2⟩ := List.nodup_cons.1 hn
  have hx : x ∈ m := h x (List.mem_cons_self ..)
  have := Gg (l := l) (m := m.erase x) h2 (fun y hy => (List.mem_erase_of_ne (fun e => by subst e; exact h1 hy)).2 (h y (List.mem_cons_of_mem _ hy)))
  rw [List.length_erase_of_mem hx] at this
  have hpos : 0 < m.length := List.length_pos_of_mem hx
  rw [List.length_cons]; omega
def Nb {α : Type} : List (List α) → List (List α)
 | [] => [[]]
 | l :: ls => l.flatMap fun x => (Nb ls).map (x :: ·)
theorem Nc {α : Type} : ∀ {ls : List (List α)} {x : List α}, x.length = ls.length → (∀ i (h : i < x.length) (h' : i < ls.length), x[i] ∈ ls[i]) → x ∈ Nb ls
 | [], x, hl, _ => by
  have : x = [] := List.length_eq_zero_iff.1 hl
  simp [Nb, this]
 | l :: ls, [], hl, _ => by simp at hl
 | l :: ls, y :: x, hl, h => by
  simp only [Nb, List.mem_flatMap, List.mem_map]
  exact ⟨y, h 0 (by simp) (by simp), x, Nc (by simpa using hl) (fun i h1 h2 => by have := h (i + 1) (by simpa using h1) (by simpa using h2); rwa [List.getElem_cons_succ, List.getElem_cons_succ] at this), rfl⟩
theorem Kc {α β : Type} {f : α → List β} {c : Nat} : ∀ {l : List α}, (∀ x ∈ l, (f x).length ≤ c) → (l.flatMap f).length ≤ l.length * c
 | [], _ => by simp
 | x :: l, h => by
  have h1 := Kc (l := l) (fun y hy => h y (List.mem_cons_of_mem _ hy))
  have h2 := h x (List.mem_cons_self ..)
  rw [List.flatMap_cons, List.length_append, List.length_cons, Nat.succ_mul]; omega
theorem Dn {α : Type} {l : List α} {ls : List (List α)} {a b : Nat} (h1 : l.length ≤ a) (h2 : (Nb ls).length ≤ b) : (Nb (l :: ls)).length ≤ a * b := by
 have : (Nb (l :: ls)).length ≤ l.length * b := Kc fun x _ => by rw [List.length_map]; exact h2
 exact Nat.le_trans this (Nat.mul_le_mul_right _ h1)
theorem Kz {f : Nat → List Int} {g : Nat → Bool} {c : Nat} (hc : 0 < c) (h1 : ∀ i, g i = true → (f i).length ≤ c) (h2 : ∀ i, g i = false → (f i).length ≤ 1) : ∀ (l : List Nat), (Nb (l.map f)).length ≤ c ^ (l.filter g).length
 | [] => by simp [Nb]
 | x :: l => by
  have ih := Kz hc h1 h2 l
  rw [List.map_cons]
  cases hg : g x with
  | true =>
   rw [List.filter_cons, hg, if_pos rfl, List.length_cons, Nat.pow_succ, Nat.mul_comm]
   exact Dn (h1 x hg) ih
  | false =>
   rw [List.filter_cons, hg, if_neg (by decide)]
   have := Dn (h2 x hg) ih
   rwa [Nat.one_mul] at this
theorem Wy (p : List Ev) : (List.range p.length).map (evAt p) = p := by
 refine List.ext_getElem (by simp) fun i h1 h2 => ?_
 rw [List.getElem_map, List.getElem_range, B5 h2]
theorem K0 (p : List Ev) (g : Ev → Bool) : ((List.range p.length).filter fun i => g (evAt p i)).length = (p.filter g).length := by
 conv => rhs; rw [← Wy p]
 rw [List.filter_map, List.length_map]; rfl
theorem K1 (g : OpV → Bool) : ∀ (l : List (List OpV)) (n : Nat), ((Cj n l).filter fun e => g e.op).length = (l.flatten.filter g).length
 | [], n => rfl
 | t :: l, n => by
  rw [Cj, List.filter_append, List.length_append, K1 g l (n + 1), List.flatten_cons, List.filter_append, List.length_append, List.filter_map, List.length_map]; rfl
theorem Nd {g : OpV → Bool} (h5 : g Gs = false) (ho : ∀ o : OpV, ∀ r, g { o with ord := r } = g o) : ∀ l : List OpV, ((Dp l).filter g).length = (l.filter g).length
 | [] => rfl
 | o :: l => by
  have ih := Nd h5 ho l
  have e : Dp (o :: l) = Ca o ++ Dp l := by simp [Dp]
  have h1 : ((Ca o).filter g).length = ([o].filter g).length := by
   unfold Ca
   split
   ·rfl
   ·simp only [List.filter_cons, h5, ho, List.filter_nil]
    cases g o <;> simp
  rw [e, List.filter_append, List.length_append, ih, h1, ← List.length_append, ← List.filter_append]; rfl
theorem Vs (ts : List (List OpV)) : (ts.map Dp).flatten = Dp ts.flatten := by simp [Dp, List.flatMap_def, List.map_flatten, List.flatten_flatten, List.map_map]; rfl
theorem Pe {g : OpV → Bool} (h5 : g Gs = false) (ho : ∀ o : OpV, ∀ r, g { o with ord := r } = g o) (ts : List (List OpV)) : ((A6 ts).filter fun e => g e.op).length = (ts.flatten.filter g).length := by
 rw [A6, K1, Vs, Nd h5 ho]
theorem Wz {o : OpV} (h : Lg o = true) : ∀ x ∈ Ca o, 0 ≤ x.kind ∧ x.kind ≤ 5 := by
 obtain ⟨q1, _, _⟩ := (Eo o).1 h
 have hk : 0 ≤ o.kind ∧ o.kind < 6 := by simp only [Te, Bool.and_eq_true, decide_eq_true_eq] at q1; exact q1.1
 intro x hx
 unfold Ca at hx
 split at hx
 ·simp only [List.mem_singleton] at hx; subst hx; omega
 ·simp only [List.mem_cons, List.not_mem_nil, or_false] at hx
  rcases hx with rfl | rfl | rfl
  ·decide
  ·exact ⟨hk.1, by have := hk.2; show o.kind ≤ 5; omega⟩
  ·decide
theorem Cl5 {ts : List (List OpV)} (h : Bd ts = 0) (i : Nat) (hi : i < (A6 ts).length) : ∃ o, Lg o = true ∧ o ∈ ts.flatten ∧ (evAt (A6 ts) i).op ∈ Ca o := by
 obtain ⟨_, _, hall⟩ := Cu h
 rw [B5 hi]
 have := Na _ _ _ (List.getElem_mem hi)
 rw [Vs, Dp, List.mem_flatMap] at this
 obtain ⟨o, ho, hx⟩ := this
 exact ⟨o, List.all_eq_true.1 hall o ho, ho, hx⟩
theorem Vt {ts : List (List OpV)} (h : Bd ts = 0) (i : Nat) (hi : i < (A6 ts).length) : 0 ≤ (evAt (A6 ts) i).op.kind ∧ (evAt (A6 ts) i).op.kind ≤ 5 := by
 obtain ⟨o, h1, _, h2⟩ := Cl5 h i hi
 exact Wz h1 _ h2
theorem Pf : ∀ (l : List (List OpV)) (n : Nat), (Cj n l).Pairwise (fun a b => a.th ≤ b.th) ∧ ∀ e ∈ Cj n l, (n : Int) ≤ e.th
 | [], n => ⟨List.Pairwise.nil, fun e h => nomatch h⟩
 | t :: l, n => by
  obtain ⟨h1, h2⟩ := Pf l (n + 1)
  rw [Cj]
  refine ⟨List.pairwise_append.2 ⟨?_, h1, ?_⟩, ?_⟩
  ·rw [List.pairwise_map]; exact List.pairwise_of_forall fun _ _ => Int.le_refl _
  ·intro a ha b hb
   obtain ⟨o, _, rfl⟩ := List.mem_map.1 ha
   have := h2 b hb
   show (n : Int) ≤ b.th
   omega
  ·intro e he
   rcases List.mem_append.1 he with he | he
   ·obtain ⟨o, _, rfl⟩ := List.mem_map.1 he
    exact Int.le_refl _
   ·have := h2 e he; omega
theorem Qm (ts : List (List OpV)) : Lo (A6 ts) := by
 intro a b hab hb
 rcases Nat.lt_or_eq_of_le hab with h | h
 ·have := (List.pairwise_iff_getElem.1 (Pf (ts.map Dp) 0).1) a b (by rw [A6] at hb; omega) hb h
  rw [B5 hb, B5 (by omega)]; exact this
 ·rw [h]; exact Int.le_refl _
def isW (k : Int) (o : OpV) : Bool := decide (1 ≤ o.kind) && decide (o.kind ≤ 4) && decide (o.loc = k)
theorem W0 (l : List OpV) (hall : ∀ o ∈ l, Lg o = true) : ((l.filter fun o => decide (o.kind ≠ 5)).length : Int) ≤ (A5 l).acc ∧
  ((l.filter (isW 0)).length : Int) ≤ (A5 l).w0 ∧ ((l.filter (isW 1)).length : Int) ≤ (A5 l).w1 ∧ ((l.filter (isW 2)).length : Int) ≤ (A5 l).w2 := by
 have key : ∀ (l : List OpV) (s : LimS), (∀ o ∈ l, Lg o = true) → s.acc + ((l.filter fun o => decide (o.kind ≠ 5)).length : Int) ≤ (l.foldl Ak s).acc ∧
  s.w0 + ((l.filter (isW 0)).length : Int) ≤ (l.foldl Ak s).w0 ∧ s.w1 + ((l.filter (isW 1)).length : Int) ≤ (l.foldl Ak s).w1 ∧ s.w2 + ((l.filter (isW 2)).length : Int) ≤ (l.foldl Ak s).w2 := by
  intro l
  induction l with
  | nil => intro s _; simp
  | cons o l ih =>
   intro s h
   have ih2 := ih (Ak s o) (fun x hx => h x (List.mem_cons_of_mem _ hx))
   have ho := h o (List.mem_cons_self ..)
   obtain ⟨q1, _, _⟩ := (Eo o).1 ho
   have hk : 0 ≤ o.kind ∧ o.kind < 6 := by simp only [Te, Bool.and_eq_true, decide_eq_true_eq] at q1; exact q1.1
   rw [List.foldl_cons]
   by_cases h5 : o.kind = 5
   ·have e : Ak s o = { s with fen := s.fen + 1 } := by unfold Ak; rw [if_pos h5]
    rw [e] at ih2 ⊢
    simp only [List.filter_cons, isW, h5]
    simpa [isW] using ih2
   ·have ha : Bh o = true := by simp [Bh]; omega
    have e : Ak s o = { acc := s.acc + 1, fen := if o.ord = 4 then s.fen + 2 else s.fen, w0 := if o.kind ≠ 0 ∧ o.loc = 0 then s.w0 + 1 else s.w0, w1 := if o.kind ≠ 0 ∧ o.loc = 1 then s.w1 + 1 else s.w1, w2 := if o.kind ≠ 0 ∧ o.loc = 2 then s.w2 + 1 else s.w2 } := by
     unfold Ak; rw [if_neg h5, if_pos ha]
    have hw : ∀ k : Int, isW k o = decide (o.kind ≠ 0 ∧ o.loc = k) := fun k => by
     unfold isW
     rw [Bool.eq_iff_iff]
     simp only [Bool.and_eq_true, decide_eq_true_eq]; omega
    rw [e] at ih2 ⊢
    obtain ⟨i1, i2, i3, i4⟩ := ih2
    dsimp only at i1 i2 i3 i4
    generalize l.foldl Ak _ = z at i1 i2 i3 i4 ⊢
    have hh : ∀ (g : OpV → Bool), (((o :: l).filter g).length : Int) = (if g o = true then 1 else 0) + ((l.filter g).length : Int) := fun g => by
     rw [List.filter_cons]; split
     ·rw [List.length_cons]; omega
     ·omega
    refine ⟨?_, ?_, ?_, ?_⟩
    ·rw [hh]; split <;> omega
    ·rw [hh, hw]
     by_cases hc : o.kind ≠ 0 ∧ o.loc = 0
     ·rw [if_pos hc] at i2; rw [if_pos (decide_eq_true hc)]; omega
     ·rw [if_neg hc] at i2; rw [if_neg (by simpa using hc)]; omega
    ·rw [hh, hw]
     by_cases hc : o.kind ≠ 0 ∧ o.loc = 1
     ·rw [if_pos hc] at i3; rw [if_pos (decide_eq_true hc)]; omega
     ·rw [if_neg hc] at i3; rw [if_neg (by simpa using hc)]; omega
    ·rw [hh, hw]
     by_cases hc : o.kind ≠ 0 ∧ o.loc = 2
     ·rw [if_pos hc] at i4; rw [if_pos (decide_eq_true hc)]; omega
     ·rw [if_neg hc] at i4; rw [if_neg (by simpa using hc)]; omega
 have := key l ⟨0, 0, 0, 0, 0⟩ hall
 simpa [A5] using this
structure Few (p : List Ev) : Prop where
 acc : (p.filter fun e => decide (e.op.kind ≠ 5)).length ≤ 6
 w : ∀ k : Int, (p.filter fun e => isW k e.op).length ≤ 4
 ws : (p.filter fun e => isW 0 e.op).length + (p.filter fun e => isW 1 e.op).length + (p.filter fun e => isW 2 e.op).length ≤ 6
theorem Nf {α : Type} {f g h t : α → Bool} (hd : ∀ x, (f x = true → g x = false ∧ h x = false ∧ t x = true) ∧ (g x = true → h x = false ∧ t x = true) ∧ (h x = true → t x = true)) : ∀ l : List α, (l.filter f).length + (l.filter g).length + (l.filter h).length ≤ (l.filter t).length
 | [] => by simp
 | x :: l => by
  have ih := Nf hd l
  obtain ⟨h1, h2, h3⟩ := hd x
  simp only [List.filter_cons]
  cases hf : f x with
  | true =>
   obtain ⟨a, b, c⟩ := h1 hf
   rw [a, b, c]; simp; omega
  | false =>
   cases hg : g x with
   | true =>
    obtain ⟨b, c⟩ := h2 hg
    rw [b, c]; simp; omega
   | false =>
    cases hh : h x with
    | true => rw [h3 hh]; simp; omega
    | false => cases t x <;> simp <;> omega
theorem As5 {ts : List (List OpV)} (h : Bd ts = 0) : Few (A6 ts) := by
 obtain ⟨hl, _, hall⟩ := Cu h
 obtain ⟨c1, c2, c3, c4⟩ := W0 ts.flatten (List.all_eq_true.1 hall)
 simp only [Fg, Bool.and_eq_true, decide_eq_true_eq] at hl
 obtain ⟨⟨⟨⟨⟨_, l1⟩, _⟩, l2⟩, l3⟩, l4⟩ := hl
 have ha : ((A6 ts).filter fun e => decide (e.op.kind ≠ 5)).length ≤ 6 := by
  have := Pe (g := fun o => decide (o.kind ≠ 5)) (by simp) (fun _ _ => rfl) ts
  omega
 have hw : ∀ k : Int, ((A6 ts).filter fun e => isW k e.op).length = (ts.flatten.filter (isW k)).length := fun k => Pe (g := isW k) (by simp [isW]) (fun _ _ => rfl) ts
 refine ⟨ha, fun k => ?_, ?_⟩
 ·by_cases h0 : k = 0
  ·subst h0; have := hw 0; omega
  ·by_cases h1 : k = 1
   ·subst h1; have := hw 1; omega
   ·by_cases h2 : k = 2
    ·subst h2; have := hw 2; omega
    ·have : ((A6 ts).filter fun e => isW k e.op) = [] := by
      rw [List.filter_eq_nil_iff]
      intro e he hk
      obtain ⟨i, hi, rfl⟩ := List.getElem_of_mem he
      have := (Ql h).loc i hi
      rw [B5 hi] at this
      simp only [isW, Bool.and_eq_true, decide_eq_true_eq] at hk
      omega
     rw [this]; simp
 ·refine Nat.le_trans (Nf (t := fun e : Ev => decide (e.op.kind ≠ 5)) (fun x => ?_) _) ha
  simp only [isW, Bool.and_eq_true, decide_eq_true_eq, Bool.and_eq_false_iff, decide_eq_false_iff_not]
  refine ⟨fun h => ⟨.inr (by omega), .inr (by omega), by omega⟩, fun h => ⟨.inr (by omega), by omega⟩, fun h => by omega⟩
def H2 (p : List Ev) (k : Int) : List Int := Cr p.length fun i => isW k (evAt p i).op
theorem K2 {p : List Ev} {k : Int} : (H2 p k).length = (p.filter fun e => isW k e.op).length := by
 rw [H2, Cr, List.length_map, ← K0 p fun e => isW k e.op]
theorem K3 {p : List Ev} {k : Int} {w : Nat} : (w : Int) ∈ H2 p k ↔ w < p.length ∧ 1 ≤ (evAt p w).op.kind ∧ (evAt p w).op.kind ≤ 4 ∧ (evAt p w).op.loc = k := by
 rw [H2, Dj]
 simp only [isW, Bool.and_eq_true, decide_eq_true_eq]
 constructor
 ·rintro ⟨i, h1, ⟨⟨h2, h3⟩, h4⟩, h5⟩
  have : i = w := by omega
  subst this; exact ⟨h1, h2, h3, h4⟩
 ·rintro ⟨h1, h2, h3, h4⟩; exact ⟨w, h1, ⟨⟨h2, h3⟩, h4⟩, rfl⟩
def Cn1 (p : List Ev) : List (List Int) := Nb ((List.range p.length).map fun i => if (evAt p i).reads then -1 :: H2 p (evAt p i).op.loc else [-2])
def Uc (p : List Ev) (w : Wd) (k : Int) : List Int := 0 :: (H2 p k).map fun x => w.w[x.toNat]?.getD 0
def Ac5 (p : List Ev) : List (List Int) := (Cn1 p).flatMap fun f => (Nb [Uc p (Ap p f) 0, Uc p (Ap p f) 1, Uc p (Ap p f) 2]).map (Cm p (Ap p f) p.length ++ ·)
theorem Ey7 : ∀ a b c : Fin 5, a.1 + b.1 + c.1 ≤ 6 → (a.1 + 1) * ((b.1 + 1) * ((c.1 + 1) * 1)) ≤ 27 := by decide
theorem Y4 {p : List Ev} (h : Few p) : (Ac5 p).length ≤ 421875 := by
 have h1 : (Cn1 p).length ≤ 5 ^ ((List.range p.length).filter fun i => (evAt p i).reads).length := by
  refine Kz (by decide) (fun i hi => ?_) (fun i hi => ?_) _
  ·rw [if_pos hi, List.length_cons, K2]
   have := h.w (evAt p i).op.loc; omega
  ·rw [if_neg (by rw [hi]; decide)]; simp
 have h2 : ((List.range p.length).filter fun i => (evAt p i).reads).length ≤ 6 := by
  rw [K0 p Ev.reads]
  refine Nat.le_trans ?_ h.acc
  have : p.filter Ev.reads = (p.filter fun e => decide (e.op.kind ≠ 5)).filter Ev.reads := by
   rw [List.filter_filter]
   congr 1
   funext e
   simp only [Ev.reads]
   cases decide (e.op.kind ≠ 1) <;> cases decide (e.op.kind ≠ 5) <;> rfl
  rw [this]; exact List.length_filter_le _ _
 have h3 : (Cn1 p).length ≤ 15625 := Nat.le_trans h1 (Nat.le_trans (Nat.pow_le_pow_right (by decide) h2) (by decide))
 have h4 : (Ac5 p).length ≤ (Cn1 p).length * 27 := by
  refine Kc fun f _ => ?_
  rw [List.length_map]
  have hl : ∀ k, (Uc p (Ap p f) k).length ≤ (p.filter fun e => isW k e.op).length + 1 := fun k => by rw [Uc, List.length_cons, List.length_map, K2]; exact Nat.le_refl _
  refine Nat.le_trans (Dn (hl 0) (Dn (hl 1) (Dn (hl 2) (Nat.le_refl 1)))) ?_
  have w0 := h.w 0; have w1 := h.w 1; have w2 := h.w 2; have ws := h.ws
  exact Ey7 ⟨_, by omega⟩ ⟨_, by omega⟩ ⟨_, by omega⟩ ws
 omega
theorem Y5 {p : List Ev} (hp : POk p) {e : Exec} (h : Shape p e) : Bf p e ∈ Ac5 p := by
 unfold Ac5
 rw [List.mem_flatMap]
 refine ⟨e.frm, Nc (by simp [h.fl]) fun i h1 h2 => ?_, ?_⟩
 ·simp only [List.getElem_map, List.getElem_range]
  have hi : i < p.length := by rw [← h.fl]; exact h1
  have hf : Ae e i = e.frm[i] := by simp [Ae, h1]
  cases hr : (evAt p i).reads with
  | false => rw [if_neg (by decide), List.mem_singleton, ← hf]; exact h.out i hi hr
  | true =>
   rw [if_pos rfl, ← hf]
   rcases h.src i hi hr with h3 | ⟨w, h3, h4, h5, h6⟩
   ·exact List.mem_cons.2 (.inl h3)
   ·have := h.dn0 w h4 h5
    exact List.mem_cons.2 (.inr (by rw [h3]; exact K3.2 ⟨h4, this.1, this.2, h6⟩))
 ·refine List.mem_map.2 ⟨e.ord.map (Dm (Ap p e.frm)), Nc (by simp [h.ol]) fun i h1 h2 => ?_, rfl⟩
  rw [List.length_map] at h1
  have hi3 : i < 3 := by rw [h.ol] at h1; exact h1
  have hperm := h.ord i hi3
  rw [List.getElem?_eq_getElem h1, Option.getD_some] at hperm
  have key : Dm (Ap p e.frm) e.ord[i] ∈ Uc p (Ap p e.frm) i := by
   unfold Dm Uc
   split
   ·exact List.mem_cons_self ..
   ·rename_i hne
    refine List.mem_cons_of_mem _ (List.mem_map.2 ⟨Ad e.ord[i] (e.ord[i].length - 1), ?_, rfl⟩)
    have := hperm.mem_iff.1 (Hk.2 ⟨e.ord[i].length - 1, by omega, rfl⟩)
    obtain ⟨w, q1, q2, _, q3, q4⟩ := A7.1 this
    have := h.dn0 w q2 q3
    rw [q1]; exact K3.2 ⟨q2, this.1, this.2, q4⟩
  rw [List.getElem_map]
  have : i = 0 ∨ i = 1 ∨ i = 2 := by omega
  rcases this with rfl | rfl | rfl <;> exact key
def As6 (p : List Ev) (x : List Int) : Prop := ∃ e, e ∈ Gu p ∧ Bf p e = x
theorem Ac6 {p : List Ev} (hp : POk p) (hm : Lo p) (hf : Few p) {l : List (List Int)} (hn : l.Nodup) (h : ∀ x ∈ l, As6 p x) : l.length ≤ 421875 :=
 Nat.le_trans (Gg hn fun x hx => by
  obtain ⟨e, he, rfl⟩ := h x hx
  exact Y5 hp ((Ac3 hp hm).1 he).1) (Y4 hf)
end Go.EV

namespace Go.EV
open Go.Proofs
def Ac7 (a b : Int) : Int := if a < b then -1 else if a > b then 1 else 0
def Fd : List Int → List Int → Int
 | [], [] => 0
 | [], _ :: _ => -1
 | _ :: _, [] => 1
 | a :: l, b :: m => if Ac7 a b = 0 then Fd l m else Ac7 a b
theorem As7 (a b : Int) : Ac7 a b < 0 ↔ a < b := by unfold Ac7; split <;> (try split) <;> omega
theorem Hm (a b : Int) : Ac7 a b = 0 ↔ a = b := by unfold Ac7; split <;> (try split) <;> omega
theorem Ec : ∀ xs, Fd xs xs = 0
 | [] => rfl
 | x :: xs => by rw [Fd, if_pos ((Hm x x).2 rfl), Ec xs]
theorem Hn {a b : Int} {l m : List Int} : Fd (a :: l) (b :: m) < 0 ↔ a < b ∨ (a = b ∧ Fd l m < 0) := by
 rw [Fd]
 split
 ·rename_i h; have := (Hm a b).1 h; subst this; simp
 ·rename_i h
  have h2 : a ≠ b := fun e => h ((Hm a b).2 e)
  rw [As7]; simp [h2]
theorem Fw : ∀ xs ys zs, Fd xs ys < 0 → Fd ys zs < 0 → Fd xs zs < 0
 | [], [], _, h, _ => by simp [Fd] at h
 | [], _ :: _, [], _, h => by simp [Fd] at h
 | [], _ :: _, _ :: _, _, _ => by simp [Fd]
 | _ :: _, [], _, h, _ => by simp [Fd] at h
 | _ :: _, _ :: _, [], _, h => by simp [Fd] at h
 | a :: l, b :: m, c :: n, h1, h2 => by
  rw [Hn] at *
  rcases h1 with h1 | ⟨rfl, h1⟩ <;> rcases h2 with h2 | ⟨rfl, h2⟩
  ·left; omega
  ·left; exact h1
  ·left; exact h2
  ·right; exact ⟨rfl, Fw _ _ _ h1 h2⟩
theorem Ez : ∀ xs ys, Fd xs ys < 0 ∨ xs = ys ∨ Fd ys xs < 0
 | [], [] => by simp
 | [], _ :: _ => by simp [Fd]
 | _ :: _, [] => by simp [Fd]
 | a :: l, b :: m => by
  rw [Hn, Hn]
  have := Ez l m
  by_cases h1 : a < b
  ·left; left; exact h1
  ·by_cases h2 : b < a
   ·right; right; left; exact h2
   ·have : a = b := by omega
    subst this
    rcases Ez l m with h | rfl | h
    ·left; right; exact ⟨rfl, h⟩
    ·right; left; rfl
    ·right; right; right; exact ⟨rfl, h⟩
theorem Y6 {xs ys : List Int} : ∀ {i : Nat}, xs.take i = ys.take i → Fd xs ys = Fd (xs.drop i) (ys.drop i) := by
 induction xs generalizing ys with
 | nil => intro i h; cases i with
  | zero => rfl
  | succ i => cases ys with
   | nil => rfl
   | cons y ys => simp at h
 | cons x xs ih => intro i h; cases i with
  | zero => rfl
  | succ i => cases ys with
   | nil => simp at h
   | cons y ys =>
    simp only [List.take_succ_cons, List.cons.injEq] at h
    rw [h.1, Fd, if_pos ((Hm y y).2 rfl), ih h.2]; rfl
section
variable {M : Aa}
theorem Ud (x : Int) : Aq Tryz.prog 152 #[vi x] M (vb false) := by
 refine Con.enter Q48_ok (args := [vi x]) (by simp [Q48]) fun w0 => ?_
 simp only [Q48, A3]
 repeat' first
   | refine EV.seq ?_
   | refine rg ?_
   | refine rt Q48_ok ?_
   | exact ⟨⟩
   | fail
 all_goals simp
theorem Qn (x y : Int) : Aq Tryz.prog 127 #[vi x, vi y] M (vi (Ac7 x y)) := by
 refine Con.enter Q47_ok (args := [vi x, vi y]) (by simp [Q47]) fun w0 => ?_
 simp only [Q47, A3]
 repeat' first
   | refine EV.seq ?_
   | refine EV.skip ?_
   | refine rg ?_
   | (refine Aq.call (Ud _) ?_; try refine nx ?_)
   | (refine cX (fun h => ?_) (fun h => ?_) <;> try exact Ah h)
   | refine rt Q47_ok ?_
   | exact ⟨⟩
   | fail
 all_goals (simp only [Ac7]; grind)
theorem R5 (xs ys : List Int) (s t : Value) (hs : Sl M 1 ei s xs) (ht : Sl M 1 ei t ys) (hb : xs.length < 1000000) (hb2 : ys.length < 1000000) : Aq Tryz.prog 88 #[s, t] M (vi (Fd xs ys)) := by
 obtain ⟨a, c, rfl, hrd⟩ := hs
 obtain ⟨a2, c2, rfl, hrd2⟩ := ht
 refine Con.enter Q104_ok (args := [.slice a xs.length c, .slice a2 ys.length c2]) (by simp [Dv7]) fun w0 => ?_
 simp only [Dv7, A3]
 repeat' first
   | refine EV.seq ?_
   | refine EV.block ?_
   | refine rg ?_
   | exact ⟨⟩
   | fail
 refine EV.loopTo (fun i : Nat => ([(0, .slice a xs.length c), (1, .slice a2 ys.length c2), (9, .slice a xs.length c), (10, vi xs.length), (11, vi i)], M, [])) (fun i => i ≤ xs.length ∧ i ≤ ys.length ∧ xs.take i = ys.take i) (fun i => xs.length - i) 0 rfl ⟨Nat.zero_le _, Nat.zero_le _, rfl⟩ ?env1 (List.Sublist.refl _) ?_
 case env1 =>
  exact eE
 rintro i ⟨hi, hiy, hsame⟩ ih
 dsimp only at hi hiy hsame ih ⊢
 have hcd := Y6 hsame
 repeat' first
   | refine EV.seq ?_
   | refine EV.skip ?_
   | refine EV.block ?_
   | refine rg ?_
   | (refine cX (fun h => ?_) (fun h => ?_) <;> try exact Ah h)
   | (refine EV.exit rfl ?_)
   | exact ⟨⟩
   | fail
 ·have hi' : i < xs.length := by omega
  obtain ⟨wb, wo, rfl, hat⟩ := Sl.at (sz := 1) (enc := ei) (fun _ => rfl) (by decide) hrd (by omega)
  have hri := hat i hi'
  rw [Nat.mul_one] at hri
  rw [List.drop_eq_getElem_cons hi'] at hcd
  by_cases hi2 : i < ys.length
  ·obtain ⟨wb2, wo2, rfl, hat2⟩ := Sl.at (sz := 1) (enc := ei) (fun _ => rfl) (by decide) hrd2 (by omega)
   have hri2 := hat2 i hi2
   rw [Nat.mul_one] at hri2
   rw [List.drop_eq_getElem_cons hi2, Fd] at hcd
   have hge : ¬ ((ys.length : Int) ≤ i) := by omega
   have hi3 : (i : Int) < (ys.length : Int) := by omega
   repeat' first
     | refine EV.seq ?_
     | refine EV.skip ?_
     | refine EV.inBlock ?_
     | refine rg ?_
     | (refine Aq.call (Qn xs[i] ys[i]) ?_; try refine nx ?_)
     | (refine cX (fun h => ?_) (fun h => ?_) <;> try exact Ah h)
     | (refine And.intro (by omega) ?_)
     | (refine xm ?_; try refine nx ?_)
     | exact ⟨⟩
     | fail
   ·(refine rt Q104_ok ?_; try with_reducible exact ⟨⟩)
    rw [hcd, if_neg (by simp_all)]
   ·have hz : Ac7 xs[i] ys[i] = 0 := by simp_all
    have he := (Hm _ _).1 hz
    refine EV.to (ih (i + 1) ⟨by omega, by omega, ?_⟩ (by omega)) ?_ (List.Sublist.refl _)
    ·rw [List.take_succ_eq_append_getElem hi', List.take_succ_eq_append_getElem hi2, hsame, he]
    ·exact eE
  ·have hge : ((ys.length : Int) ≤ i) := by omega
   have hdy : ys.drop i = [] := List.drop_eq_nil_of_le (by omega)
   rw [hdy, Fd] at hcd
   repeat' first
     | refine EV.seq ?_
     | refine rg ?_
     | (refine cX (fun h => ?_) (fun h => ?_) <;> try exact Ah h)
     | (refine And.intro (by omega) ?_)
     | (refine xm ?_; try refine nx ?_)
     | exact ⟨⟩
     | fail
   (refine rt Q104_ok ?_; try with_reducible exact ⟨⟩)
   rw [hcd]
 ·have hie : i = xs.length := by omega
  have hdx : xs.drop i = [] := List.drop_eq_nil_of_le (by omega)
  have hi2 : i < ys.length := by omega
  rw [hdx, List.drop_eq_getElem_cons hi2, Fd] at hcd
  (refine rt Q104_ok ?_; try with_reducible exact ⟨⟩)
  rw [hcd]
 ·have hdx : xs.drop i = [] := List.drop_eq_nil_of_le (by omega)
  have hdy : ys.drop i = [] := List.drop_eq_nil_of_le (by omega)
  rw [hdx, hdy, Fd] at hcd
  (refine rt Q104_ok ?_; try with_reducible exact ⟨⟩)
  rw [hcd]
end
end Go.EV

namespace Go.EV
open Go.Proofs
theorem execsP_ok {p : List Ev} (hp : POk p) {e : Exec} (h : e ∈ Gu p) : XOk p e := by
 simp only [Gu, Kt, Mf, List.mem_flatMap] at h
 obtain ⟨dn, hd, ord, ho, frm, hf, h⟩ := h
 unfold Ih at h
 split at h
 ·obtain ⟨h, _⟩ := List.mem_filter.1 h
  obtain ⟨fen, hn, rfl⟩ := List.mem_map.1 h
  exact exec_ok hp hd ho hf (J9 hn)
 ·exact absurd h List.not_mem_nil
def Z9 (p : List Ev) (outs : List (List Int)) : Prop := outs.Pairwise (fun x y => Fd x y < 0) ∧ ∀ x, x ∈ outs ↔ x ∈ (Gu p).map (Bf p)
end Go.EV

namespace Go.EV
open Go.Proofs
theorem Vu : ∀ {a b : List (List Int)}, a.Pairwise (fun x y => Fd x y < 0) → b.Pairwise (fun x y => Fd x y < 0) → (∀ x, x ∈ a ↔ x ∈ b) → a = b
 | [], [], _, _, _ => rfl
 | [], y :: b, _, _, h => absurd ((h y).2 (List.mem_cons_self ..)) List.not_mem_nil
 | x :: a, [], _, _, h => absurd ((h x).1 (List.mem_cons_self ..)) List.not_mem_nil
 | x :: a, y :: b, ha, hb, h => by
  obtain ⟨a1, a2⟩ := List.pairwise_cons.1 ha
  obtain ⟨b1, b2⟩ := List.pairwise_cons.1 hb
  have hxy : x = y := by
   have h1 := (h x).1 (List.mem_cons_self ..)
   have h2 := (h y).2 (List.mem_cons_self ..)
   rcases List.mem_cons.1 h1 with h1 | h1
   ·exact h1
   ·rcases List.mem_cons.1 h2 with h2 | h2
    ·exact h2.symm
    ·have := Fw _ _ _ (a1 y h2) (b1 x h1)
     rw [Ec] at this; omega
  subst hxy
  have : a = b := Vu a2 b2 fun z => by
   constructor
   ·intro hz
    rcases List.mem_cons.1 ((h z).1 (List.mem_cons_of_mem _ hz)) with e | e
    ·subst e
     have := a1 z hz
     rw [Ec] at this; omega
    ·exact e
   ·intro hz
    rcases List.mem_cons.1 ((h z).2 (List.mem_cons_of_mem _ hz)) with e | e
    ·subst e
     have := b1 z hz
     rw [Ec] at this; omega
    ·exact e
  rw [this]
def Aa0 (x : List Int) : List (List Int) → List (List Int)
 | [] => [x]
 | y :: l => if Fd x y < 0 then x :: y :: l else if x = y then y :: l else y :: Aa0 x l
theorem Qo {x z : List Int} : ∀ l : List (List Int), z ∈ Aa0 x l ↔ z = x ∨ z ∈ l
 | [] => by simp [Aa0]
 | y :: l => by
  rw [Aa0]
  split
  ·simp
  ·split
   ·rename_i h; subst h; simp
   ·simp only [List.mem_cons, Qo l]
    constructor
    ·rintro (h | h | h)
     ·exact .inr (.inl h)
     ·exact .inl h
     ·exact .inr (.inr h)
    ·rintro (h | h | h)
     ·exact .inr (.inl h)
     ·exact .inl h
     ·exact .inr (.inr h)
theorem Vv {x : List Int} : ∀ {l : List (List Int)}, l.Pairwise (fun x y => Fd x y < 0) → (Aa0 x l).Pairwise (fun x y => Fd x y < 0)
 | [], _ => by simp [Aa0]
 | y :: l, h => by
  obtain ⟨h1, h2⟩ := List.pairwise_cons.1 h
  rw [Aa0]
  split
  ·rename_i hx
   refine List.pairwise_cons.2 ⟨fun z hz => ?_, h⟩
   rcases List.mem_cons.1 hz with rfl | hz
   ·exact hx
   ·exact Fw _ _ _ hx (h1 z hz)
  ·rename_i hx
   split
   ·exact h
   ·rename_i hne
    refine List.pairwise_cons.2 ⟨fun z hz => ?_, Vv h2⟩
    rcases (Qo l).1 hz with rfl | hz
    ·rcases Ez y z with k | k | k
     ·exact k
     ·exact absurd k.symm hne
     ·exact absurd k hx
    ·exact h1 z hz
def As8 (p : List Ev) : List (List Int) := ((Gu p).map (Bf p)).foldr Aa0 []
theorem Y7 (l : List (List Int)) : (l.foldr Aa0 []).Pairwise (fun x y => Fd x y < 0) ∧ ∀ x, x ∈ l.foldr Aa0 [] ↔ x ∈ l := by
 induction l with
 | nil => exact ⟨List.Pairwise.nil, fun x => Iff.rfl⟩
 | cons y l ih => exact ⟨Vv ih.1, fun x => by rw [List.foldr_cons, Qo, ih.2, List.mem_cons]⟩
theorem Cl6 (p : List Ev) : Z9 p (As8 p) := Y7 _
theorem Z9.uniq {p : List Ev} {a b : List (List Int)} (h : Z9 p a) (k : Z9 p b) : a = b := Vu h.1 k.1 fun x => (h.2 x).trans (k.2 x).symm
theorem Z9.eq {p : List Ev} {a : List (List Int)} (h : Z9 p a) : a = As8 p := h.uniq (Cl6 p)
def Jo : List (List OpV) := [[⟨1, 0, 1, 0, 0⟩, ⟨0, 1, 0, 0, 0⟩], [⟨1, 1, 1, 0, 0⟩, ⟨0, 0, 0, 0, 0⟩]]
theorem buffers_ok : Bd Jo = 0 := by decide +kernel
theorem R6 : As8 (A6 Jo) = [[0, 0, 1, 1, 0], [0, 1, 1, 1, 0], [1, 0, 1, 1, 0], [1, 1, 1, 1, 0]] := by decide +kernel
end Go.EV

namespace Go.EV
open Go.Proofs
variable {P : Program}
theorem Ext.grown {w w' : World} (e : Ext w w') : ∃ q os, w' = Go.Sort.grow (w.drewN q) os := by
 refine ⟨w'.drawn - w.drawn, w'.heap.extract w.heap.size w'.heap.size, ?_⟩
 have h1 : w'.heap = w.heap ++ w'.heap.extract w.heap.size w'.heap.size := by
  apply Array.ext_getElem?
  intro i
  rw [Array.getElem?_append]
  split
  ·rename_i hi; exact e.block i hi
  ·rename_i hi
   rw [Array.getElem?_extract]
   have := e.size
   by_cases h2 : i < w'.heap.size
   ·rw [if_pos (by omega)]; congr 1; omega
   ·rw [if_neg (by omega), Array.getElem?_eq_none (by omega)]
 have h2 := e.os
 have h3 := e.tape
 have h4 := e.output
 obtain ⟨h5, h6⟩ := h3
 cases w' with
 | mk heap' tape' drawn' os' output' =>
  dsimp only at h1 h2 h4 h5 h6 ⊢
  subst h2 h4 h5
  simp only [Go.Sort.grow, World.drewN]
  congr 1
  omega
theorem St.enterIn {w W : World} {F : List Nat} {M : Aa} {G : Own} (hs : St w F M M G w) (h : ∀ b o, M b o → W.heap[b]? = w.heap[b]?) : St W [] M M [] W :=
 St.enter (G := []) (fun b o hb => (h b o hb).trans (hs.agree b o hb)) (fun p hp => by cases hp) (fun p hp => by cases hp) (by simp)
theorem Aq.exact {g : FuncId} {args : Array Value} {M : Aa} {v : Value} (h : Aq P g args M v) {W : World} (hs : St W [] M M [] W) :
  Calls P g args W fun e w' => e = .returned v ∧ ∃ q os', w' = Go.Sort.grow (W.drewN q) os' :=
 (h.2 W hs).mono fun e w' ⟨u, he, M', G', h1, h2⟩ => ⟨by rw [he, h2], (Ext.of_st h1).grown⟩
theorem K4 {α : Type} [Inhabited α] (enc : α → Value) (w : World) (b : Nat) (d : Array α) {T : TypeId} {cs : List Value} (hb : w.heap[b]? = some (Cl T cs)) (hl : d.size ≤ cs.length) :
  (Go.Sort.putRow enc w b 0 d).heap[b]? = some (Cl T (d.toList.map enc ++ cs.drop d.size)) := by
 unfold Go.Sort.putRow Go.Sort.mapBlock
 simp only [Array.getElem?_modify, if_true, hb, Option.map_some, Go.Sort.onCells, Option.some.injEq, Obj.cells.injEq, and_true]
 apply Array.ext_getElem?
 intro i
 simp only [Go.Sort.putCells, Array.getElem?_mapIdx, List.getElem?_toArray, Nat.zero_add, Nat.zero_le, true_and, Nat.sub_zero]
 by_cases hi : i < d.size
 ·rw [List.getElem?_append_left (by simpa using hi), List.getElem?_eq_getElem (by omega : i < cs.length)]
  simp [hi]
 ·rw [List.getElem?_append_right (by simpa using (by omega : d.size ≤ i))]
  simp only [hi, if_false, List.length_map, Array.length_toList, List.getElem?_drop]
  rw [show d.size + (i - d.size) = i by omega]
  simp
theorem Ho {α : Type} [Inhabited α] (enc : α → Value) (w : World) (b off : Nat) (d : Array α) {k : Nat} (hk : k ≠ b) : (Go.Sort.putRow enc w b off d).heap[k]? = w.heap[k]? := by
 unfold Go.Sort.putRow Go.Sort.mapBlock
 simp only [Array.getElem?_modify]
 rw [if_neg (fun h => hk h.symm)]
theorem Cz {α : Type} [Inhabited α] (enc : α → Value) (w : World) (b off : Nat) (d : Array α) : (Go.Sort.putRow enc w b off d).heap.size = w.heap.size := by
 simp [Go.Sort.putRow, Go.Sort.mapBlock]
end Go.EV

namespace Go.EV
open Go.Proofs
variable {P : Program}
theorem R7 {α : Type} [Inhabited α] (enc : α → Value) {w : World} {b : Nat} {T : TypeId} {xs : List α} {sp : List Value} (hb : w.heap[b]? = some (Cl T (xs.map enc ++ sp))) : Go.Sort.Holds enc w b 0 xs.toArray := by
 intro j hj
 have hj' : j < xs.length := by simpa using hj
 constructor
 ·simp only [World.cell?, hb, Option.isSome_none, Nat.zero_add]
  rw [List.getElem?_toArray, List.getElem?_append_left (by simpa using hj')]
  simp [hj']
 ·simp [World.frozen?, hb]
set_option maxHeartbeats 1000000 in
theorem Con.sort {ρ : Go.Shelf.Ren} (L : SlLaysF.n6 P ρ) {α : Type} [Inhabited α] (enc : α → Value) (h1 : ∀ x, (enc x).oneCell' = true) (cf : α → α → Int) (hO : Go.Sort.SWO (ltOf cf)) {g : FuncId} {M : Aa} (hgo : Xo P (ρ.f 6) = true)
  (hcmp : ∀ x y : α, Aq P g #[enc x, enc y] M (.int .i64 (cf x y))) {b : Nat} {T : TypeId} {xs : List α} {sp : List Value} {c : Nat} (hlen : xs.length < 4611686018427387904) :
  Con P (ρ.f 6) #[.slice (some ⟨b, 0, none⟩) xs.length c, .func (.func g) #[] #[]] M [(b, Cl T (xs.map enc ++ sp))] fun v M' G' =>
   v = .tuple #[] ∧ M' = M ∧ ∃ ys : List α, ys.Perm xs ∧ ys.Pairwise (fun x y => ltOf cf y x = false) ∧ G' = [(b, Cl T (ys.map enc ++ sp))] := by
 refine ⟨hgo, fun w hs => ?_⟩
 have hb := hs.own (b, _) (List.mem_singleton_self ..)
 have hblt := hs.lt (List.mem_singleton_self ..)
 dsimp only at hb hblt
 have hH := R7 enc hb
 have hsep : ∀ b' o, M b' o → b' ≠ b := fun b' o hm e => hs.sep _ (List.mem_singleton_self ..) o (e ▸ hm)
 have hW : ∀ m os dk, St (sortWorld enc w b 0 m dk os) [] M M [] (sortWorld enc w b 0 m dk os) := fun m os dk => hs.enterIn fun b' o hm => by
  show ((Go.Sort.putRow enc (Go.Sort.ahead w m) b 0 dk).heap ++ os)[b']? = _
  rw [Array.getElem?_append_left (by rw [Cz]; exact hs.ltM hm), Ho _ _ _ _ _ (hsep b' o hm)]; rfl
 have hmain := Any.slices_SortFunc L enc h1 cf hO g #[] b 0 c xs.toArray w (F5 (hcmp default default).1) (fun m os dk hd x y => by simpa using (hcmp x y).exact (hW m os dk)) hH hblt (by simpa using hlen)
 rw [List.size_toArray] at hmain
 refine hmain.mono ?_
 rintro e w' ⟨rfl, d', n, os, ⟨hsz, _, hp⟩, hsd, rfl⟩
 have hsz' : d'.size = xs.length := by simpa using hsz
 have hperm : d'.toList.Perm xs := by
  have := hp
  rw [show d'.extract 0 xs.length = d' by rw [← hsz']; simp, show xs.toArray.extract 0 xs.length = xs.toArray by simp] at this
  simpa using this
 refine ⟨_, rfl, M, [(b, Cl T (d'.toList.map enc ++ sp))], ?_, rfl, rfl, d'.toList, hperm, ?_, rfl⟩
 ·have hrow := K4 enc (Go.Sort.ahead w n) b d' (T := T) (cs := xs.map enc ++ sp) hb (by simp [hsz'])
  rw [hsz', List.drop_left' (by simp)] at hrow
  have hsize : w.heap.size ≤ (sortWorld enc w b 0 n d' os).heap.size := by
   show _ ≤ ((Go.Sort.putRow enc (Go.Sort.ahead w n) b 0 d').heap ++ os).size
   rw [Array.size_append, Cz]; exact Nat.le_add_right _ _
  have hother : ∀ k, k < w.heap.size → k ≠ b → (sortWorld enc w b 0 n d' os).heap[k]? = w.heap[k]? := fun k hk hne => by
   show ((Go.Sort.putRow enc (Go.Sort.ahead w n) b 0 d').heap ++ os)[k]? = _
   rw [Array.getElem?_append_left (by rw [Cz]; exact hk), Ho _ _ _ _ _ hne]; rfl
  have hat : (sortWorld enc w b 0 n d' os).heap[b]? = some (Cl T (d'.toList.map enc ++ sp)) := by
   show ((Go.Sort.putRow enc (Go.Sort.ahead w n) b 0 d').heap ++ os)[b]? = _
   rw [Array.getElem?_append_left (by rw [Cz]; exact hblt)]; exact hrow
  refine ⟨rfl, ⟨rfl, Nat.le_add_right _ _⟩, rfl, hsize, fun k hk hf => hother k hk (fun e => hf (by simp [e])), fun k o hk => (hother k (hs.ltM hk) (hsep k o hk)).trans (hs.agree k o hk), ?_, ?_, ?_, by simp, Aa.le_refl _, fun k o hk => .inl hk⟩
  ·intro p hp; rw [List.mem_singleton] at hp; subst hp; exact hat
  ·intro p hp o hm; rw [List.mem_singleton] at hp; subst hp; exact hsep _ _ hm rfl
  ·intro p hp; rw [List.mem_singleton] at hp; subst hp; exact .inl (by simp)
 ·rw [List.pairwise_iff_getElem]
  intro i j hi hj hij
  have := hsd i j (Nat.zero_le _) hij (by simpa [hsz'] using hj)
  rw [getElem!_pos d' i (by simpa using hi), getElem!_pos d' j (by simpa using hj)] at this
  simpa using this
theorem Con.sortNone {ρ : Go.Shelf.Ren} (L : SlLaysF0.n6 P ρ) (hgo : Xo P (ρ.f 6) = true) {M : Aa} (p : Option Addr) (cap : Nat) (fv : Value) :
  Con P (ρ.f 6) #[.slice p 0 cap, fv] M [] fun v _ G' => v = .tuple #[] ∧ G' = [] := by
 refine ⟨hgo, fun w hs => (AnyF.slices_SortFunc_none L p cap fv w).mono ?_⟩
 rintro e w' ⟨rfl, rfl⟩
 exact ⟨_, rfl, M, [], hs, rfl, rfl⟩
end Go.EV

namespace Go.Proofs
open Go.Shelf Go.RowKit Go.Lib Go.Sort
def Tryz.sortRows_ren : Go.Shelf.Ren := ⟨fun | 6 => 87 | 15 => 126 | 14 => 125 | 28 => 150 | 29 => 151 | 20 => 142 | 21 => 143 | 22 => 144 | 23 => 145 | 24 => 146 | 25 => 147 | 26 => 148 | 27 => 149 | 46 => 160 | 47 => 161 | 48 => 162 | 49 => 163 | 50 => 164 | 57 => 169 | n => n, fun | 22 => 26 | 24 => 34 | 25 => 138 | 3 => 3 | 39 => 67 | 0 => 0 | 53 => 144 | 55 => 175 | 4 => 4 | 46 => 167 | 45 => 166 | 50 => 171 | 5 => 5 | 9 => 9 | 66 => 181 | 70 => 185 | 76 => 188 | 77 => 189 | n => n, fun | n => n⟩
theorem Tryz.sortRows : Go.Proofs.SlLaysF.n6 Tryz.prog Tryz.sortRows_ren := {
 mixed := by kernel_rfl
 f6 := ⟨Tryz.f87.name, by decide, Tryz.func87.trans (congrArg some (by kernel_rfl))⟩
 f14 := ⟨Tryz.f125.name, by decide, Tryz.func125.trans (congrArg some (by kernel_rfl))⟩
 f15 := Tryz.func126.trans (congrArg some (by kernel_rfl))
 f20 := ⟨Tryz.f142.name, by decide, Tryz.func142.trans (congrArg some (by kernel_rfl))⟩
 f21 := ⟨Tryz.f143.name, by decide, Tryz.func143.trans (congrArg some (by kernel_rfl))⟩
 f22 := ⟨Tryz.f144.name, by decide, Tryz.func144.trans (congrArg some (by kernel_rfl))⟩
 f23 := ⟨Tryz.f145.name, by decide, Tryz.func145.trans (congrArg some (by kernel_rfl))⟩
 f24 := ⟨Tryz.f146.name, by decide, Tryz.func146.trans (congrArg some (by kernel_rfl))⟩
 f25 := ⟨Tryz.f147.name, by decide, Tryz.func147.trans (congrArg some (by kernel_rfl))⟩
 f26 := ⟨Tryz.f148.name, by decide, Tryz.func148.trans (congrArg some (by kernel_rfl))⟩
 f27 := ⟨Tryz.f149.name, by decide, Tryz.func149.trans (congrArg some (by kernel_rfl))⟩
 f28 := Tryz.func150.trans (congrArg some (by kernel_rfl))
 f29 := Tryz.func151.trans (congrArg some (by kernel_rfl))
 f46 := ⟨Tryz.f160.name, by decide, Tryz.func160.trans (congrArg some (by kernel_rfl))⟩
 f47 := Tryz.func161.trans (congrArg some (by kernel_rfl))
 f48 := Tryz.func162.trans (congrArg some (by kernel_rfl))
 f49 := ⟨Tryz.f163.name, by decide, Tryz.func163.trans (congrArg some (by kernel_rfl))⟩
 f50 := ⟨Tryz.f164.name, by decide, Tryz.func164.trans (congrArg some (by kernel_rfl))⟩
 f57 := ⟨Tryz.f169.name, by decide, Tryz.func169.trans (congrArg some (by kernel_rfl))⟩
 t0 := Tryz.underlying0
 a0 := Tryz.isAgg0
 z0 := Tryz.sizeOf0
 v0 := Tryz.zeroValue0
 t3 := Tryz.underlying3
 a3 := Tryz.isAgg3
 z3 := Tryz.sizeOf3
 v3 := Tryz.zeroValue3
 t4 := Tryz.underlying4
 a4 := Tryz.isAgg4
 z4 := Tryz.sizeOf4
 v4 := Tryz.zeroValue4
 t5 := Tryz.underlying5
 a5 := Tryz.isAgg5
 z5 := Tryz.sizeOf5
 v5 := Tryz.zeroValue5
 t9 := Tryz.underlying9
 a9 := Tryz.isAgg9
 z9 := Tryz.sizeOf9
 v9 := Tryz.zeroValue9
 t22 := Tryz.underlying26
 a22 := Tryz.isAgg26
 z22 := Tryz.sizeOf26
 v22 := Tryz.zeroValue26
 a24 := Tryz.isAgg34
 z24 := Tryz.sizeOf34
 t25 := Tryz.underlying138
 a25 := Tryz.isAgg138
 z25 := Tryz.sizeOf138
 v25 := Tryz.zeroValue138
 t39 := Tryz.underlying67
 a39 := Tryz.isAgg67
 z39 := Tryz.sizeOf67
 v39 := Tryz.zeroValue67
 t45 := Tryz.underlying166
 a45 := Tryz.isAgg166
 z45 := Tryz.sizeOf166
 v45 := Tryz.zeroValue166
 t46 := Tryz.underlying167
 a46 := Tryz.isAgg167
 z46 := Tryz.sizeOf167
 v46 := Tryz.zeroValue167
 t50 := Tryz.underlying171
 a50 := Tryz.isAgg171
 z50 := Tryz.sizeOf171
 v50 := Tryz.zeroValue171
 t53 := Tryz.underlying144
 a53 := Tryz.isAgg144
 z53 := Tryz.sizeOf144
 v53 := Tryz.zeroValue144
 t55 := Tryz.underlying175
 a55 := Tryz.isAgg175
 z55 := Tryz.sizeOf175
 v55 := Tryz.zeroValue175
 t66 := Tryz.underlying181
 a66 := Tryz.isAgg181
 z66 := Tryz.sizeOf181
 v66 := Tryz.zeroValue181
 t70 := Tryz.underlying185
 a70 := Tryz.isAgg185
 z70 := Tryz.sizeOf185
 v70 := Tryz.zeroValue185
 t76 := Tryz.underlying188
 a76 := Tryz.isAgg188
 z76 := Tryz.sizeOf188
 v76 := Tryz.zeroValue188
 t77 := Tryz.underlying189
 a77 := Tryz.isAgg189
 z77 := Tryz.sizeOf189
 v77 := Tryz.zeroValue189 }
end Go.Proofs
namespace Go.EV
open Go.Proofs
def Bm (M : Aa) : Type := { p : Value × List Int // SlC M 1 ei p.1 p.2 ∧ p.2.length < 1000000 }
instance (M : Aa) : Inhabited (Bm M) := ⟨⟨(.slice none 0 0, []), ⟨none, 0, rfl, Nat.le_refl _, .inl ⟨rfl, rfl⟩⟩, by decide⟩⟩
def Bm.v {M : Aa} (r : Bm M) : Value := r.1.1
def Bm.xs {M : Aa} (r : Bm M) : List Int := r.1.2
theorem Bm.one {M : Aa} (r : Bm M) : r.v.oneCell' = true := by
 obtain ⟨⟨v, xs⟩, ⟨a, c, h, _⟩, _⟩ := r
 show Value.oneCell' v = true
 dsimp only at h; rw [h]; rfl
theorem As9 (M : Aa) : Go.Sort.SWO (ltOf fun x y : Bm M => Fd x.xs y.xs) where
 irrefl x := by simp [ltOf, Ec]
 trans x y z h1 h2 := by
  simp only [ltOf, decide_eq_true_eq] at *
  exact Fw _ _ _ h1 h2
 ntrans x y z h1 h2 := by
  simp only [ltOf, decide_eq_false_iff_not] at *
  intro h3
  rcases Ez x.xs y.xs with h | h | h
  ·exact h1 h
  ·rw [h] at h3; exact h2 h3
  ·exact h2 (Fw _ _ _ h h3)
section
variable {M : Aa}
theorem Y8 {b : Nat} {T : TypeId} {rs : List (Bm M)} {sp : List Value} {c : Nat} (hl : rs.length < 1000000000000) :
  Con Tryz.prog 87 #[.slice (some ⟨b, 0, none⟩) rs.length c, .func (.func 88) #[] #[]] M [(b, Cl T (rs.map Bm.v ++ sp))] fun v M' G' =>
   v = .tuple #[] ∧ M' = M ∧ ∃ ys : List (Bm M), ys.Perm rs ∧ ys.Pairwise (fun x y => ¬ Fd y.xs x.xs < 0) ∧ G' = [(b, Cl T (ys.map Bm.v ++ sp))] := by
 have h := Con.sort (P := Tryz.prog) Tryz.sortRows (M := M) Bm.v Bm.one (fun x y => Fd x.xs y.xs) (As9 M) (g := 88) rfl
  (fun x y => R5 x.xs y.xs x.v y.v x.2.1.sl y.2.1.sl x.2.2 y.2.2) (b := b) (T := T) (xs := rs) (sp := sp) (c := c) (by omega)
 refine ⟨h.1, fun w hs => (h.2 w hs).mono ?_⟩
 rintro e w' ⟨v, he, M', G', hs', rfl, rfl, ys, h1, h2, h3⟩
 refine ⟨_, he, _, G', hs', rfl, rfl, ys, h1, h2.imp fun {x y} h => by simpa [ltOf] using h, h3⟩
end
end Go.EV

namespace Go.EV
open Go.Proofs
theorem Bm.slice {M : Aa} (r : Bm M) : ∃ a n c, r.v = .slice a n c := by
 obtain ⟨⟨v, xs⟩, ⟨a, c, h, _⟩, _⟩ := r
 exact ⟨a, xs.length, c, h⟩
section
variable {M : Aa}
def Jz (l : List (Bm M)) : Nat → List (Bm M)
 | 0 => []
 | n + 1 => Jz l n ++ (if n = 0 ∨ (l[n]!).xs ≠ (l[n - 1]!).xs then [l[n]!] else [])
def W1 (l : List (Bm M)) : List (Bm M) := Jz l l.length
theorem At0 {α : Type} (f : α → Value) (xs : List α) (sp : List Value) {i : Nat} (hi : i < xs.length) (x : α) : (xs.map f ++ sp).take i ++ (f x :: (xs.map f ++ sp).drop (i + 1)) = (xs.set i x).map f ++ sp := by
 rw [List.take_append_of_le_length (by rw [List.length_map]; omega), List.drop_append_of_le_length (by rw [List.length_map]; omega), ← List.cons_append, ← List.append_assoc, Ao f xs hi x]
theorem Gh {l : List (Bm M)} {i : Nat} (h : i < l.length) : l[i]! = l[i] := getElem!_pos l i h
set_option maxHeartbeats 4000000 in
theorem R8 {b : Nat} {T : TypeId} {l : List (Bm M)} {sp : List Value} {c : Nat} (hl : l.length < 1000000000000) (hc : c = l.length + sp.length) :
  Con Tryz.prog 89 #[.slice (some ⟨b, 0, none⟩) l.length c, .func (.func 41) #[] #[]] M [(b, Cl T (l.map Bm.v ++ sp))] fun v M' G' =>
   M' = M ∧ ∃ sp', v = .slice (some ⟨b, 0, none⟩) (W1 l).length c ∧ G' = [(b, Cl T ((W1 l).map Bm.v ++ sp'))] ∧ c = (W1 l).length + sp'.length := by
 have heq : ∀ (x y : Bm M) (G : Own), Aq Tryz.prog 41 #[x.v, y.v] (M.add G) (vb (decide (x.xs = y.xs))) := fun x y G =>
  O4 x.xs y.xs x.v y.v (x.2.1.sl.mono (Aa.le_add _ _)) (y.2.1.sl.mono (Aa.le_add _ _)) x.2.2 y.2.2
 refine Con.enter Q103_ok (args := [.slice (some ⟨b, 0, none⟩) l.length c, .func (.func 41) #[] #[]]) (by simp [Bs4]) fun w0 => ?_
 simp only [Bs4, A3]
 repeat' first
   | refine EV.seq ?_
   | refine EV.skip ?_
   | refine EV.block ?_
   | refine rg ?_
   | (refine cX (fun h => ?_) (fun h => ?_) <;> try exact Ah h)
   | exact ⟨⟩
   | fail
 ·have hcl : W1 l = l := by
   rcases l with _ | ⟨x, _ | ⟨y, l⟩⟩
   ·rfl
   ·simp [W1, Jz]
   ·exfalso; simp at h; omega
  (refine rt Q103_ok ?_; try with_reducible exact ⟨⟩)
  rw [hcl]; first | exact ⟨rfl, sp, rfl, hc⟩ | exact ⟨sp, rfl, hc⟩ | exact ⟨sp, hc⟩ | exact ⟨sp, c, rfl, rfl, hc⟩ | exact ⟨rfl, sp, c, rfl, rfl, hc⟩ | exact ⟨sp, c, rfl, hc⟩ | fail
 ·have h2 : 2 ≤ l.length := by omega
  refine EV.loopTo (fun i : Nat => ([(0, .slice (some ⟨b, 0, none⟩) l.length c), (1, .func (.func 41) #[] #[]), (5, vi i)], M, [(b, Cl T (l.map Bm.v ++ sp))])) (fun i => 1 ≤ i ∧ i ≤ l.length ∧ Jz l i = l.take i) (fun i => l.length - i) 1 rfl ⟨Nat.le_refl _, by omega, by rw [Jz, Jz, if_pos (.inl rfl), Gh (by omega), List.nil_append]; cases l with | nil => simp at h2 | cons x l => rfl⟩ ?env1 (List.Sublist.refl _) ?_
  case env1 =>
   exact eE
  rintro i ⟨hi1, hi, hcp⟩ ih
  dsimp only at hi1 hi hcp ih ⊢
  repeat' first
    | refine EV.seq ?_
    | refine EV.skip ?_
    | refine EV.block ?_
    | refine rg ?_
    | (refine cX (fun h => ?_) (fun h => ?_) <;> try exact Ah h)
    | (refine EV.exit rfl ?_)
    | exact ⟨⟩
    | fail
  ·have hi' : i < l.length := by omega
   have hw1 : IntKind.i64.wrap ((i : Int) - 1) = ((i - 1 : Nat) : Int) := by rw [w64 (by omega) (by omega)]; omega
   have hr1 := Vb (M := M) (G := [(b, Cl T (l.map Bm.v ++ sp))]) (b := b) (T := T) (f := Bm.v) (xs := l) (sp := sp) hi'
   have hr2 := Vb (M := M) (G := [(b, Cl T (l.map Bm.v ++ sp))]) (b := b) (T := T) (f := Bm.v) (xs := l) (sp := sp) (i := i - 1) (by omega)
   obtain ⟨a1, n1, c1, e1⟩ := (l[i]).slice
   obtain ⟨a2, n2, c2, e2⟩ := (l[i - 1]'(by omega)).slice
   have hq := heq l[i] (l[i - 1]'(by omega))
   rw [e1, e2] at hq
   rw [e1] at hr1
   rw [e2] at hr2
   have hcpi : Jz l (i + 1) = Jz l i ++ (if (l[i]).xs ≠ (l[i - 1]'(by omega)).xs then [l[i]] else []) := by
    rw [Jz, Gh hi', Gh (show i - 1 < l.length by omega)]
    simp only [show ¬ i = 0 by omega, false_or]
   refine EV.any (t := U6) [(b, Cl T (l.map Bm.v ++ sp))] (List.Sublist.refl _) ?_
   simp only [Am, Au, Al, As, reduceIte, Nat.reduceEqDiff]
   by_cases hsame : (l[i]).xs = (l[i - 1]'(by omega)).xs
   ·have hd : decide ((l[i]).xs = (l[i - 1]'(by omega)).xs) = true := decide_eq_true hsame
    rw [hd] at hq
    rw [if_neg (by simpa using hsame), List.append_nil, hcp] at hcpi
    refine Ck8 (t := U6) rfl (fun lq tq hlq htq => ?_)
    repeat' first
      | ((first | refine zo (fun lq hlq => ?_) | refine zl ?_ | fail); (repeat first | refine nz ?_ | simp only [hw1]))
      | refine zq (fun lq tq hlq htq => ?_)
      | ((first | refine Aq.call (hq _) ?_ | refine Exists.intro _ (Exists.intro _ (Exists.intro _ (And.intro (hr1) ?_))) | refine Exists.intro _ (Exists.intro _ (Exists.intro _ (And.intro (hr2) ?_))) | fail); (repeat first | refine nz ?_ | simp only [hw1]))
      | (refine Ea (by first | with_reducible assumption | rfl) (fun tq htq => ?_) (fun tq htq => ?_) <;> (repeat first | refine nz ?_ | simp only [hw1]))
      | exact zn
      | refine zf ?_
      | (refine And.intro (by omega) ?_)
      | fail
    repeat' first
      | refine EV.seq ?_
      | refine rg ?_
      | (refine cX (fun h => ?_) (fun h => ?_) <;> try exact Ah h)
      | exact ⟨⟩
      | fail
    simp only [Option.map_some, Ch]
    refine ⟨i, rfl, by omega, by omega, Or.inr rfl, ?_⟩
    obtain ⟨ro, hro, ero⟩ := P4 (wb := b) (wo := 0) (n := l.length) (c := c) (i := i) (by omega)
    have hro2 : ro = i := by have := hro hi'; omega
    subst hro2
    rw [ero]
    clear hro ero
    repeat' first
      | refine EV.seq ?_
      | refine EV.block ?_
      | refine rg ?_
      | exact ⟨⟩
      | fail
    have hci : (Jz l (ro + 1)).length = ro := by rw [hcpi, List.length_take]; omega
    refine EV.loopTo (fun x : Nat × List (Bm M) => ([(0, .slice (some ⟨b, 0, none⟩) l.length c), (1, .func (.func 41) #[] #[]), (5, vi (Jz l (ro + x.1)).length), (6, .slice (some ⟨b, ro, none⟩) (l.length - ro) (c - ro)), (7, vi x.1)], M, [(b, Cl T (x.2.map Bm.v ++ sp))]))
     (fun x => 1 ≤ x.1 ∧ ro + x.1 ≤ l.length ∧ x.2.length = l.length ∧ x.2.take (Jz l (ro + x.1)).length = Jz l (ro + x.1) ∧ (Jz l (ro + x.1)).length + 1 ≤ ro + x.1 ∧ ∀ j, ro + x.1 ≤ j + 1 → x.2[j]? = l[j]?) (fun x => l.length - (ro + x.1)) (1, l) rfl ⟨Nat.le_refl _, by dsimp only; omega, rfl, by dsimp only; rw [hci, hcpi], by dsimp only; omega, fun j _ => rfl⟩ ?env2 (List.Sublist.refl _) ?_
    case env2 =>
     simp only [hci]
     exact eE
    rintro ⟨k, C⟩ ⟨hk1, hk, hCl, hCt, hCi, hCj⟩ ih2
    dsimp only at hk1 hk hCl hCt hCi hCj ih2 ⊢
    repeat' first
      | refine EV.seq ?_
      | refine EV.skip ?_
      | refine EV.block ?_
      | refine rg ?_
      | (refine cX (fun h => ?_) (fun h => ?_) <;> try exact Ah h)
      | (refine EV.exit rfl ?_)
      | exact ⟨⟩
      | fail
    ·have hk' : ro + k < l.length := by omega
     have g1 : C[ro + k]'(by omega) = l[ro + k] := by
      have := hCj (ro + k) (by omega)
      rw [List.getElem?_eq_getElem (by omega), List.getElem?_eq_getElem hk'] at this
      exact Option.some.inj this
     have g2 : C[ro + (k - 1)]'(by omega) = l[ro + (k - 1)]'(by omega) := by
      have := hCj (ro + (k - 1)) (by omega)
      rw [List.getElem?_eq_getElem (by omega), List.getElem?_eq_getElem (by omega)] at this
      exact Option.some.inj this
     have hw2 : IntKind.i64.wrap ((k : Int) - 1) = ((k - 1 : Nat) : Int) := by rw [w64 (by omega) (by omega)]; omega
     have hr3 := Vb (M := M) (G := [(b, Cl T (C.map Bm.v ++ sp))]) (b := b) (T := T) (f := Bm.v) (xs := C) (sp := sp) (i := ro + k) (by omega)
     have hr4 := Vb (M := M) (G := [(b, Cl T (C.map Bm.v ++ sp))]) (b := b) (T := T) (f := Bm.v) (xs := C) (sp := sp) (i := ro + (k - 1)) (by omega)
     rw [g1] at hr3
     rw [g2] at hr4
     obtain ⟨a3, n3, c3, e3⟩ := (l[ro + k]).slice
     obtain ⟨a4, n4, c4, e4⟩ := (l[ro + (k - 1)]'(by omega)).slice
     have hq2 := heq l[ro + k] (l[ro + (k - 1)]'(by omega))
     rw [e3, e4] at hq2
     rw [e3] at hr3
     rw [e4] at hr4
     have hcpk : Jz l (ro + (k + 1)) = Jz l (ro + k) ++ (if (l[ro + k]).xs ≠ (l[ro + (k - 1)]'(by omega)).xs then [l[ro + k]] else []) := by
      rw [← Nat.add_assoc, Jz, Gh hk', Gh (show ro + k - 1 < l.length by omega)]
      simp only [show ¬ ro + k = 0 by omega, false_or, show ro + k - 1 = ro + (k - 1) by omega]
     refine EV.any (t := U7) [(b, Cl T (C.map Bm.v ++ sp))] (List.Sublist.refl _) ?_
     simp only [Am, Au, Al, As, reduceIte, Nat.reduceEqDiff]
     by_cases hsame2 : (l[ro + k]).xs = (l[ro + (k - 1)]'(by omega)).xs
     ·have hd2 : decide ((l[ro + k]).xs = (l[ro + (k - 1)]'(by omega)).xs) = true := decide_eq_true hsame2
      rw [hd2] at hq2
      rw [if_neg (by simpa using hsame2), List.append_nil] at hcpk
      refine Ck8 (t := U7) rfl (fun lq tq hlq htq => ?_)
      repeat' first
        | ((first | refine zo (fun lq hlq => ?_) | refine zl ?_ | fail); (repeat first | refine nz ?_ | simp only [hw2]))
        | refine zq (fun lq tq hlq htq => ?_)
        | ((first | refine Aq.call (hq2 _) ?_ | refine Exists.intro _ (Exists.intro _ (Exists.intro _ (And.intro (hr3) ?_))) | refine Exists.intro _ (Exists.intro _ (Exists.intro _ (And.intro (hr4) ?_))) | fail); (repeat first | refine nz ?_ | simp only [hw2]))
        | (refine Ea (by first | with_reducible assumption | rfl) (fun tq htq => ?_) (fun tq htq => ?_) <;> (repeat first | refine nz ?_ | simp only [hw2]))
        | exact zn
        | refine zf ?_
        | (refine And.intro (by omega) ?_)
        | fail
      repeat' first
        | refine EV.skip ?_
        | refine EV.inBlock ?_
        | refine rg ?_
        | (refine cX (fun h => ?_) (fun h => ?_) <;> try exact Ah h)
        | exact ⟨⟩
        | fail
      refine EV.to (ih2 (k + 1, C) ⟨by dsimp only; omega, by dsimp only; omega, hCl, by dsimp only; rw [hcpk]; exact hCt, by dsimp only; rw [hcpk]; omega, fun j hj => hCj j (by dsimp only at hj; omega)⟩ (by dsimp only; omega)) ?_ (List.Sublist.refl _)
      simp only [hcpk]
      exact eE
     ·have hd2 : decide ((l[ro + k]).xs = (l[ro + (k - 1)]'(by omega)).xs) = false := decide_eq_false hsame2
      rw [hd2] at hq2
      rw [if_pos hsame2] at hcpk
      refine Ck8 (t := U7) rfl (fun lq tq hlq htq => ?_)
      repeat' first
        | ((first | refine zo (fun lq hlq => ?_) | refine zl ?_ | fail); (repeat first | refine nz ?_ | simp only [hw2]))
        | refine zq (fun lq tq hlq htq => ?_)
        | ((first | refine Aq.call (hq2 _) ?_ | refine Exists.intro _ (Exists.intro _ (Exists.intro _ (And.intro (hr3) ?_))) | refine Exists.intro _ (Exists.intro _ (Exists.intro _ (And.intro (hr4) ?_))) | fail); (repeat first | refine nz ?_ | simp only [hw2]))
        | (refine Ea (by first | with_reducible assumption | rfl) (fun tq htq => ?_) (fun tq htq => ?_) <;> (repeat first | refine nz ?_ | simp only [hw2]))
        | exact zn
        | refine zf ?_
        | (refine And.intro (by omega) ?_)
        | fail
      repeat' first
        | refine EV.seq ?_
        | refine rg ?_
        | (refine cX (fun h => ?_) (fun h => ?_) <;> try exact Ah h)
        | (refine And.intro (by omega) ?_)
        | (refine Exists.intro _ (Exists.intro _ (Exists.intro _ (And.intro (by assumption) ?_))); try refine nx ?_)
        | (refine xw ?_; refine nx ?_)
        | exact ⟨⟩
        | fail
      refine ⟨by rw [List.length_append, List.length_map]; omega, ?_⟩
      rw [← e3, At0 Bm.v C sp (show (Jz l (ro + k)).length < C.length by omega)]
      have hci3 : (Jz l (ro + (k + 1))).length = (Jz l (ro + k)).length + 1 := by rw [hcpk, List.length_append, List.length_singleton]
      repeat' first
        | refine EV.inBlock ?_
        | refine rg ?_
        | exact ⟨⟩
        | fail
      refine EV.to (ih2 (k + 1, C.set (Jz l (ro + k)).length l[ro + k]) ⟨by dsimp only; omega, by dsimp only; omega, by rw [List.length_set]; exact hCl, ?_, by dsimp only; rw [hci3]; omega, fun j hj => ?_⟩ (by dsimp only; omega)) ?_ (List.Sublist.refl _)
      ·dsimp only
       rw [hci3, hcpk, List.take_succ_eq_append_getElem (by rw [List.length_set]; omega), List.getElem_set_self, List.take_set, List.set_eq_of_length_le (by rw [List.length_take]; omega), hCt]
      ·dsimp only at hj ⊢
       rw [List.getElem?_set_ne (by omega)]; exact hCj j (by omega)
      ·simp only [hci3]
       exact eE
    ·have hke : ro + k = l.length := by omega
     have hcL : W1 l = Jz l (ro + k) := by rw [W1, hke]
     generalize hm : Jz l (ro + k) = m at *
     simp only [Option.map_some, Ch]
     refine ⟨m.length, rfl, by omega, by omega, Or.inr rfl, ?_⟩
     obtain ⟨r2, hr2', er2⟩ := P4 (wb := b) (wo := 0) (n := l.length) (c := c) (i := m.length) (by omega)
     have hr3 : r2 = m.length := by have := hr2' (by omega); omega
     subst hr3
     rw [er2]
     refine Or.inr ⟨b, m.length, rfl, by omega, T, C.map Bm.v ++ sp, [], [], rfl, by rw [List.length_append, List.length_map]; omega, ?_⟩
     have htk : (C.map Bm.v ++ sp).take m.length = m.map Bm.v := by
      rw [List.take_append_of_le_length (by rw [List.length_map]; omega), ← List.map_take, hCt]
     rw [htk]
     have hlen2 : (C.map Bm.v ++ sp).length = l.length + sp.length := by rw [List.length_append, List.length_map, hCl]
     generalize hsp : (List.replicate (l.length - m.length) (Value.slice none 0 0) ++ List.drop (m.length + (List.replicate (l.length - m.length) (Value.slice none 0 0)).length) (C.map Bm.v ++ sp)) = sp'
     have hspl : c = m.length + sp'.length := by
      rw [← hsp, List.length_append, List.length_drop, hlen2, List.length_replicate]; omega
     rw [List.nil_append]
     repeat' first
       | refine EV.seq ?_
       | refine rg ?_
       | exact ⟨⟩
       | fail
     simp only [Option.map_some, Ch]
     refine ⟨m.length, rfl, by omega, Or.inl rfl, ?_⟩
     rw [Ar7]
     repeat' first
       | fail
     (refine rt Q103_ok ?_; try with_reducible exact ⟨⟩)
     rw [hcL]; first | exact ⟨rfl, sp', rfl, hspl⟩ | exact ⟨sp', rfl, hspl⟩ | exact ⟨sp', hspl⟩ | exact ⟨sp', c, rfl, rfl, hspl⟩ | exact ⟨rfl, sp', c, rfl, rfl, hspl⟩ | exact ⟨sp', c, rfl, hspl⟩ | fail
   ·have hd : decide ((l[i]).xs = (l[i - 1]'(by omega)).xs) = false := decide_eq_false hsame
    rw [hd] at hq
    rw [if_pos hsame, hcp, ← List.take_succ_eq_append_getElem hi'] at hcpi
    refine Ck8 (t := U6) rfl (fun lq tq hlq htq => ?_)
    repeat' first
      | ((first | refine zo (fun lq hlq => ?_) | refine zl ?_ | fail); (repeat first | refine nz ?_ | simp only [hw1]))
      | refine zq (fun lq tq hlq htq => ?_)
      | ((first | refine Aq.call (hq _) ?_ | refine Exists.intro _ (Exists.intro _ (Exists.intro _ (And.intro (hr1) ?_))) | refine Exists.intro _ (Exists.intro _ (Exists.intro _ (And.intro (hr2) ?_))) | fail); (repeat first | refine nz ?_ | simp only [hw1]))
      | (refine Ea (by first | with_reducible assumption | rfl) (fun tq htq => ?_) (fun tq htq => ?_) <;> (repeat first | refine nz ?_ | simp only [hw1]))
      | exact zn
      | refine zf ?_
      | (refine And.intro (by omega) ?_)
      | fail
    repeat' first
      | refine EV.skip ?_
      | refine EV.inBlock ?_
      | refine rg ?_
      | (refine cX (fun h => ?_) (fun h => ?_) <;> try exact Ah h)
      | exact ⟨⟩
      | fail
    refine EV.to (ih (i + 1) ⟨by omega, by omega, hcpi⟩ (by omega)) ?_ (List.Sublist.refl _)
    exact eE
  ·have hie : i = l.length := by omega
   subst hie
   have hcl : W1 l = l := by rw [W1, hcp, List.take_length]
   (refine rt Q103_ok ?_; try with_reducible exact ⟨⟩)
   rw [hcl]; first | exact ⟨rfl, sp, rfl, hc⟩ | exact ⟨sp, rfl, hc⟩ | exact ⟨sp, hc⟩ | exact ⟨sp, c, rfl, rfl, hc⟩ | exact ⟨rfl, sp, c, rfl, rfl, hc⟩ | exact ⟨sp, c, rfl, hc⟩ | fail
end
end Go.EV
