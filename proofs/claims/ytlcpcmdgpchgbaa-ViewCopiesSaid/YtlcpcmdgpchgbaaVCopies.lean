/- slices.Clone. A copy of a machine of views. A copy of a machine goes on alike. A copy of a machine goes on alike, and neither is changed by the other: the statement. -/
import Derived.Test.YtlcpcmdgpchgbaaVPae
import Derived.Test.YtlcpcmdgpchgbaaVPaf
set_option maxRecDepth 8000
set_option linter.unusedSimpArgs false
set_option linter.unusedVariables false
namespace Go.EV
open Go.Proofs

/-- What a clone is. -/
def CloneR (T : TypeId) (sz n : Nat) (xs : List Value) (v : Value) (_ : PHeap) (G' : Own) : Prop := ∃ ov, v = osv ov n ∧ osok sz ov n xs ∧ G' = osg T ov xs

theorem ok1_op (o : OpV) : ok1 (encOp o) := by simp [encOp, ok1_cons, ok1_nil, Value.oneCell']
theorem ok1_flatMap {α : Type} {enc : α → List Value} (h : ∀ x, ok1 (enc x)) (xs : List α) : ok1 (xs.flatMap enc) := fun v hv => by
  obtain ⟨x, _, hx⟩ := List.mem_flatMap.1 hv
  exact h x v hx

section
variable {P : Program} {C : Cx P} {f : FuncId} {args : Array Value} {M : PHeap} {G : Own} {K : Value → PHeap → Own → Prop}
/-- A call that hands back a clone, which is never changed again. -/
theorem Con.callZ {Mr : PHeap} {T : TypeId} {sz n : Nat} {xs : List Value} (h : Con P f args Mr [] (CloneR T sz n xs)) (hMr : Mr.le (M.add G)) (hk : ∀ ov M' (_ : M.le M') (_ : rdS M' sz (oad ov) n xs), K (osv ov n) M' G) : CallW C f args M G K := by
  refine ⟨h.1, fun w hs cs => ?_⟩
  obtain ⟨e, w', fr, ⟨v, he, M', G', h1, ov, rfl, hov, rfl⟩, r⟩ := h.2 w (St.part (G1 := []) (G2 := G) hs hMr) cs
  have h2 := St.callB (G1 := []) (G2 := G) hs h1
  exact ⟨e, w', fr, ⟨_, he, _, G, h2.freeze, hk ov _ (PHeap.le_add _ _) (rd_osg hov (fun q hq => hq))⟩, r⟩
end

section
variable {M : PHeap}

theorem clone_int_c (n : Nat) (xs : List Value) (a : Option Addr) (c : Nat) (hx : rdS M 1 a n xs) (hok : ok1 xs) (hb : n < 1000000) : Con Try.prog 55 #[.slice a n c] M [] (CloneR 3 1 n xs) := by
  refine Con.enter Q56_ok (args := [.slice a n c]) (by simp [Q56]) fun w0 => ?_
  simp only [Q56, argE]
  cases a with
  | none =>
    have h0 : n = 0 ∧ xs = [] := by
      rcases hx with ⟨h1, h2⟩ | ⟨b, off, h1, _⟩
      · exact ⟨by omega, h2⟩
      · cases h1
    obtain ⟨rfl, rfl⟩ := h0
    repeat' first
        | refine EV.seq ?_
        | (refine EV.reg ?_; (conv => (arg 2; whnf)); simp only [push_cast, Int.cast_ofNat_Int, reduceIte, Nat.reduceEqDiff, reduceCtorEq, Nat.reduceAdd, Nat.reduceSub, Nat.reduceMul, Int.reduceToNat, Nat.reduceLeDiff, Option.isNone_none])
        | ((refine EV.cond rfl (fun h => ?_) (fun h => ?_) <;> try simp only [reduceCtorEq, reduceIte, if_true, if_false, Bool.not_eq_true', Bool.not_eq_false', decide_eq_true_eq, decide_eq_false_iff_not, Bool.and_eq_true, Bool.or_eq_true, Bool.and_eq_false_iff, Bool.or_eq_false_iff] at h) <;> try (exfalso; first | exact h True.intro | (exact h; done) | omega | (simp only [not_true_eq_false, false_or, or_false] at h; omega)))
        | (refine EV.ret Q56_ok ?_; simp only [push_cast, Int.cast_ofNat_Int, reduceIte, Nat.reduceEqDiff, reduceCtorEq, Nat.reduceAdd, Nat.reduceSub, Nat.reduceMul, Int.reduceToNat, Nat.reduceLeDiff, Option.isNone_none, Q56])
        | fail
    exact ⟨none, rfl, ⟨rfl, rfl⟩, rfl⟩
  | some ad =>
    repeat' first
        | refine EV.seq ?_
        | refine EV.skip ?_
        | (refine EV.reg ?_; (conv => (arg 2; whnf)); simp only [push_cast, Int.cast_ofNat_Int, reduceIte, Nat.reduceEqDiff, reduceCtorEq, Nat.reduceAdd, Nat.reduceSub, Nat.reduceMul, Int.reduceToNat, Nat.reduceLeDiff, Option.isNone_some])
        | ((refine EV.cond rfl (fun h => ?_) (fun h => ?_) <;> try simp only [reduceCtorEq, reduceIte, if_true, if_false, Bool.not_eq_true', Bool.not_eq_false', decide_eq_true_eq, decide_eq_false_iff_not, Bool.and_eq_true, Bool.or_eq_true, Bool.and_eq_false_iff, Bool.or_eq_false_iff] at h) <;> try (exfalso; first | exact h True.intro | (exact h; done) | omega | (simp only [not_true_eq_false, false_or, or_false] at h; omega)))
        | (with_reducible intro b; try simp only [push_cast, Int.cast_ofNat_Int, reduceIte, Nat.reduceEqDiff, reduceCtorEq, Nat.reduceAdd, Nat.reduceSub, Nat.reduceMul, Int.reduceToNat, Nat.reduceLeDiff, Option.isNone_some])
        | fail
    refine ⟨_, rdS_M hx, hok, Or.inl ⟨some (b, 0, []), 0, rfl, [], ⟨rfl, rfl, Nat.le_refl _, by simp [maxLen]⟩, [], List.Perm.refl _, ?_, ?_, ?_⟩⟩
    · simp only [maxLen]; omega
    · omega
    intro o' ho' hn
    simp only [Nat.zero_add, List.nil_append] at ho' hn ⊢
    repeat' first
        | (refine EV.ret Q56_ok ?_; simp only [push_cast, Int.cast_ofNat_Int, reduceIte, Nat.reduceEqDiff, reduceCtorEq, Nat.reduceAdd, Nat.reduceSub, Nat.reduceMul, Int.reduceToNat, Nat.reduceLeDiff, Q56])
        | fail
    exact ⟨o', rfl, ho', rfl⟩

theorem clone_op_c (n : Nat) (xs : List Value) (a : Option Addr) (c : Nat) (hx : rdS M 5 a n xs) (hok : ok1 xs) (hb : n < 1000000) : Con Try.prog 53 #[.slice a n c] M [] (CloneR 55 5 n xs) := by
  refine Con.enter Q55_ok (args := [.slice a n c]) (by simp [Q55]) fun w0 => ?_
  simp only [Q55, argE]
  cases a with
  | none =>
    have h0 : n = 0 ∧ xs = [] := by
      rcases hx with ⟨h1, h2⟩ | ⟨b, off, h1, _⟩
      · exact ⟨by omega, h2⟩
      · cases h1
    obtain ⟨rfl, rfl⟩ := h0
    repeat' first
        | refine EV.seq ?_
        | (refine EV.reg ?_; (conv => (arg 2; whnf)); simp only [push_cast, Int.cast_ofNat_Int, reduceIte, Nat.reduceEqDiff, reduceCtorEq, Nat.reduceAdd, Nat.reduceSub, Nat.reduceMul, Int.reduceToNat, Nat.reduceLeDiff, Option.isNone_none])
        | ((refine EV.cond rfl (fun h => ?_) (fun h => ?_) <;> try simp only [reduceCtorEq, reduceIte, if_true, if_false, Bool.not_eq_true', Bool.not_eq_false', decide_eq_true_eq, decide_eq_false_iff_not, Bool.and_eq_true, Bool.or_eq_true, Bool.and_eq_false_iff, Bool.or_eq_false_iff] at h) <;> try (exfalso; first | exact h True.intro | (exact h; done) | omega | (simp only [not_true_eq_false, false_or, or_false] at h; omega)))
        | (refine EV.ret Q55_ok ?_; simp only [push_cast, Int.cast_ofNat_Int, reduceIte, Nat.reduceEqDiff, reduceCtorEq, Nat.reduceAdd, Nat.reduceSub, Nat.reduceMul, Int.reduceToNat, Nat.reduceLeDiff, Option.isNone_none, Q55])
        | fail
    exact ⟨none, rfl, ⟨rfl, rfl⟩, rfl⟩
  | some ad =>
    repeat' first
        | refine EV.seq ?_
        | refine EV.skip ?_
        | (refine EV.reg ?_; (conv => (arg 2; whnf)); simp only [push_cast, Int.cast_ofNat_Int, reduceIte, Nat.reduceEqDiff, reduceCtorEq, Nat.reduceAdd, Nat.reduceSub, Nat.reduceMul, Int.reduceToNat, Nat.reduceLeDiff, Option.isNone_some])
        | ((refine EV.cond rfl (fun h => ?_) (fun h => ?_) <;> try simp only [reduceCtorEq, reduceIte, if_true, if_false, Bool.not_eq_true', Bool.not_eq_false', decide_eq_true_eq, decide_eq_false_iff_not, Bool.and_eq_true, Bool.or_eq_true, Bool.and_eq_false_iff, Bool.or_eq_false_iff] at h) <;> try (exfalso; first | exact h True.intro | (exact h; done) | omega | (simp only [not_true_eq_false, false_or, or_false] at h; omega)))
        | (with_reducible intro b; try simp only [push_cast, Int.cast_ofNat_Int, reduceIte, Nat.reduceEqDiff, reduceCtorEq, Nat.reduceAdd, Nat.reduceSub, Nat.reduceMul, Int.reduceToNat, Nat.reduceLeDiff, Option.isNone_some])
        | fail
    refine ⟨_, rdS_M hx, hok, Or.inl ⟨some (b, 0, []), 0, rfl, [], ⟨rfl, rfl, Nat.le_refl _, by simp [maxLen]⟩, [], List.Perm.refl _, ?_, ?_, ?_⟩⟩
    · simp only [maxLen]; omega
    · omega
    intro o' ho' hn
    simp only [Nat.zero_add, List.nil_append] at ho' hn ⊢
    repeat' first
        | (refine EV.ret Q55_ok ?_; simp only [push_cast, Int.cast_ofNat_Int, reduceIte, Nat.reduceEqDiff, reduceCtorEq, Nat.reduceAdd, Nat.reduceSub, Nat.reduceMul, Int.reduceToNat, Nat.reduceLeDiff, Q55])
        | fail
    exact ⟨o', rfl, ho', rfl⟩

theorem clone_msg_c (n : Nat) (xs : List Value) (a : Option Addr) (c : Nat) (hx : rdS M 5 a n xs) (hok : ok1 xs) (hb : n < 1000000) : Con Try.prog 54 #[.slice a n c] M [] (CloneR 67 5 n xs) := by
  refine Con.enter Q57_ok (args := [.slice a n c]) (by simp [Q57]) fun w0 => ?_
  simp only [Q57, argE]
  cases a with
  | none =>
    have h0 : n = 0 ∧ xs = [] := by
      rcases hx with ⟨h1, h2⟩ | ⟨b, off, h1, _⟩
      · exact ⟨by omega, h2⟩
      · cases h1
    obtain ⟨rfl, rfl⟩ := h0
    repeat' first
        | refine EV.seq ?_
        | (refine EV.reg ?_; (conv => (arg 2; whnf)); simp only [push_cast, Int.cast_ofNat_Int, reduceIte, Nat.reduceEqDiff, reduceCtorEq, Nat.reduceAdd, Nat.reduceSub, Nat.reduceMul, Int.reduceToNat, Nat.reduceLeDiff, Option.isNone_none])
        | ((refine EV.cond rfl (fun h => ?_) (fun h => ?_) <;> try simp only [reduceCtorEq, reduceIte, if_true, if_false, Bool.not_eq_true', Bool.not_eq_false', decide_eq_true_eq, decide_eq_false_iff_not, Bool.and_eq_true, Bool.or_eq_true, Bool.and_eq_false_iff, Bool.or_eq_false_iff] at h) <;> try (exfalso; first | exact h True.intro | (exact h; done) | omega | (simp only [not_true_eq_false, false_or, or_false] at h; omega)))
        | (refine EV.ret Q57_ok ?_; simp only [push_cast, Int.cast_ofNat_Int, reduceIte, Nat.reduceEqDiff, reduceCtorEq, Nat.reduceAdd, Nat.reduceSub, Nat.reduceMul, Int.reduceToNat, Nat.reduceLeDiff, Option.isNone_none, Q57])
        | fail
    exact ⟨none, rfl, ⟨rfl, rfl⟩, rfl⟩
  | some ad =>
    repeat' first
        | refine EV.seq ?_
        | refine EV.skip ?_
        | (refine EV.reg ?_; (conv => (arg 2; whnf)); simp only [push_cast, Int.cast_ofNat_Int, reduceIte, Nat.reduceEqDiff, reduceCtorEq, Nat.reduceAdd, Nat.reduceSub, Nat.reduceMul, Int.reduceToNat, Nat.reduceLeDiff, Option.isNone_some])
        | ((refine EV.cond rfl (fun h => ?_) (fun h => ?_) <;> try simp only [reduceCtorEq, reduceIte, if_true, if_false, Bool.not_eq_true', Bool.not_eq_false', decide_eq_true_eq, decide_eq_false_iff_not, Bool.and_eq_true, Bool.or_eq_true, Bool.and_eq_false_iff, Bool.or_eq_false_iff] at h) <;> try (exfalso; first | exact h True.intro | (exact h; done) | omega | (simp only [not_true_eq_false, false_or, or_false] at h; omega)))
        | (with_reducible intro b; try simp only [push_cast, Int.cast_ofNat_Int, reduceIte, Nat.reduceEqDiff, reduceCtorEq, Nat.reduceAdd, Nat.reduceSub, Nat.reduceMul, Int.reduceToNat, Nat.reduceLeDiff, Option.isNone_some])
        | fail
    refine ⟨_, rdS_M hx, hok, Or.inl ⟨some (b, 0, []), 0, rfl, [], ⟨rfl, rfl, Nat.le_refl _, by simp [maxLen]⟩, [], List.Perm.refl _, ?_, ?_, ?_⟩⟩
    · simp only [maxLen]; omega
    · omega
    intro o' ho' hn
    simp only [Nat.zero_add, List.nil_append] at ho' hn ⊢
    repeat' first
        | (refine EV.ret Q57_ok ?_; simp only [push_cast, Int.cast_ofNat_Int, reduceIte, Nat.reduceEqDiff, reduceCtorEq, Nat.reduceAdd, Nat.reduceSub, Nat.reduceMul, Int.reduceToNat, Nat.reduceLeDiff, Q57])
        | fail
    exact ⟨o', rfl, ho', rfl⟩

theorem clone_thr_c (n : Nat) (xs : List Value) (a : Option Addr) (c : Nat) (hx : rdS M 11 a n xs) (hok : ok1 xs) (hb : n < 1000000) : Con Try.prog 56 #[.slice a n c] M [] (CloneR 69 11 n xs) := by
  refine Con.enter Q58_ok (args := [.slice a n c]) (by simp [Q58]) fun w0 => ?_
  simp only [Q58, argE]
  cases a with
  | none =>
    have h0 : n = 0 ∧ xs = [] := by
      rcases hx with ⟨h1, h2⟩ | ⟨b, off, h1, _⟩
      · exact ⟨by omega, h2⟩
      · cases h1
    obtain ⟨rfl, rfl⟩ := h0
    repeat' first
        | refine EV.seq ?_
        | (refine EV.reg ?_; (conv => (arg 2; whnf)); simp only [push_cast, Int.cast_ofNat_Int, reduceIte, Nat.reduceEqDiff, reduceCtorEq, Nat.reduceAdd, Nat.reduceSub, Nat.reduceMul, Int.reduceToNat, Nat.reduceLeDiff, Option.isNone_none])
        | ((refine EV.cond rfl (fun h => ?_) (fun h => ?_) <;> try simp only [reduceCtorEq, reduceIte, if_true, if_false, Bool.not_eq_true', Bool.not_eq_false', decide_eq_true_eq, decide_eq_false_iff_not, Bool.and_eq_true, Bool.or_eq_true, Bool.and_eq_false_iff, Bool.or_eq_false_iff] at h) <;> try (exfalso; first | exact h True.intro | (exact h; done) | omega | (simp only [not_true_eq_false, false_or, or_false] at h; omega)))
        | (refine EV.ret Q58_ok ?_; simp only [push_cast, Int.cast_ofNat_Int, reduceIte, Nat.reduceEqDiff, reduceCtorEq, Nat.reduceAdd, Nat.reduceSub, Nat.reduceMul, Int.reduceToNat, Nat.reduceLeDiff, Option.isNone_none, Q58])
        | fail
    exact ⟨none, rfl, ⟨rfl, rfl⟩, rfl⟩
  | some ad =>
    repeat' first
        | refine EV.seq ?_
        | refine EV.skip ?_
        | (refine EV.reg ?_; (conv => (arg 2; whnf)); simp only [push_cast, Int.cast_ofNat_Int, reduceIte, Nat.reduceEqDiff, reduceCtorEq, Nat.reduceAdd, Nat.reduceSub, Nat.reduceMul, Int.reduceToNat, Nat.reduceLeDiff, Option.isNone_some])
        | ((refine EV.cond rfl (fun h => ?_) (fun h => ?_) <;> try simp only [reduceCtorEq, reduceIte, if_true, if_false, Bool.not_eq_true', Bool.not_eq_false', decide_eq_true_eq, decide_eq_false_iff_not, Bool.and_eq_true, Bool.or_eq_true, Bool.and_eq_false_iff, Bool.or_eq_false_iff] at h) <;> try (exfalso; first | exact h True.intro | (exact h; done) | omega | (simp only [not_true_eq_false, false_or, or_false] at h; omega)))
        | (with_reducible intro b; try simp only [push_cast, Int.cast_ofNat_Int, reduceIte, Nat.reduceEqDiff, reduceCtorEq, Nat.reduceAdd, Nat.reduceSub, Nat.reduceMul, Int.reduceToNat, Nat.reduceLeDiff, Option.isNone_some])
        | fail
    refine ⟨_, rdS_M hx, hok, Or.inl ⟨some (b, 0, []), 0, rfl, [], ⟨rfl, rfl, Nat.le_refl _, by simp [maxLen]⟩, [], List.Perm.refl _, ?_, ?_, ?_⟩⟩
    · simp only [maxLen]; omega
    · omega
    intro o' ho' hn
    simp only [Nat.zero_add, List.nil_append] at ho' hn ⊢
    repeat' first
        | (refine EV.ret Q58_ok ?_; simp only [push_cast, Int.cast_ofNat_Int, reduceIte, Nat.reduceEqDiff, reduceCtorEq, Nat.reduceAdd, Nat.reduceSub, Nat.reduceMul, Int.reduceToNat, Nat.reduceLeDiff, Q58])
        | fail
    exact ⟨o', rfl, ho', rfl⟩

end
end Go.EV

namespace Go.EV
open Go.Proofs

theorem hd_st_pg {pg mh th v : Value} {lh : Nat → Value} {all : Vw} : (hdL pg mh lh th all).take 0 ++ (v :: (hdL pg mh lh th all).drop (0 + 1)) = hdL v mh lh th all := rfl

theorem ok1_hdL {pg mh th : Value} {lh : Nat → Value} {all : Vw} (h1 : pg.oneCell' = true) (h2 : mh.oneCell' = true) (h3 : ∀ l, (lh l).oneCell' = true) (h4 : th.oneCell' = true) : ok1 (hdL pg mh lh th all) := by
  simp only [hdL, encV, ok1_cons, ok1_nil, h1, h2, h3, h4, true_and, and_true]
  exact ⟨rfl, rfl, rfl⟩
theorem rd_hd_pg {M : PHeap} {G : Own} {b : Nat} {T : TypeId} {pg mh th : Value} {lh : Nat → Value} {all : Vw} [h : At G b T (hdL pg mh lh th all)] : rd (M.add G) b 0 1 [pg] := rd_at h.mem rfl (by rw [hd_len]; omega)

theorem ok1_msg (x : Msg) : ok1 (encMsg x) := by simp [encMsg, ok1_cons, ok1_nil, Value.oneCell']
theorem ok1_thr (x : Thr × (Option Addr × Nat)) : ok1 (encThr x) := by simp [encThr, ok1_cons, ok1_nil, Value.oneCell']
theorem ok1_vi (xs : List Int) : ok1 (xs.map vi) := fun v hv => by
  obtain ⟨x, _, rfl⟩ := List.mem_map.1 hv
  rfl
theorem range_updF {α β : Type} (F : Nat → α → List β) (g : Nat → α) (k : Nat) (x : α) : (List.range (k + 1)).flatMap (fun j => F j (upd g k x j)) = (List.range k).flatMap (fun j => F j (g j)) ++ F k x := by
  rw [List.range_succ, List.flatMap_append]
  congr 1
  · have : (List.range k).map (fun j => F j (upd g k x j)) = (List.range k).map (fun j => F j (g j)) := List.map_congr_left fun j hj => by
      have := List.mem_range.1 hj
      simp only [upd]; rw [if_neg (by omega)]
    rw [List.flatMap, List.flatMap, this]
  · simp [upd]
/-- The copied lines so far. -/
def cpH (lh : Nat → Value) (n : Nat → Nat) (lv : Nat → Vec) (l : Nat) : Nat → Value := fun j => if j < l then .slice (oad (lv j)) (n j) (ocap (lv j)) else lh j
theorem cpH_upd (lh : Nat → Value) (n : Nat → Nat) (lv : Nat → Vec) (l : Nat) (ov : Vec) : upd (cpH lh n lv l) l (.slice (oad ov) (n l) (ocap ov)) = cpH lh n (upd lv l ov) (l + 1) := by
  funext j
  simp only [upd, cpH]
  by_cases h : j = l
  · subst h; simp
  · have h2 : j < l + 1 ↔ j < l := by omega
    simp only [if_neg h, h2]
def cpL (line : Nat → List Int) (lv : Nat → Vec) (l : Nat) : Own := (List.range l).flatMap fun j => osg 3 (lv j) ((line j).map vi)
theorem cpL_upd (line : Nat → List Int) (lv : Nat → Vec) (l : Nat) (ov : Vec) : cpL line (upd lv l ov) (l + 1) = cpL line lv l ++ osg 3 ov ((line l).map vi) := range_updF (fun j (v : Vec) => osg 3 v ((line j).map vi)) lv l ov

/-- The copied program so far. -/
def cpP (prog : List (List OpV)) (cl : Nat → Vec) (i : Nat) : List Value := (List.range i).map fun j => .slice (oad (cl j)) prog[j]!.length (ocap (cl j))
def cpO (prog : List (List OpV)) (cl : Nat → Vec) (i : Nat) : Own := (List.range i).flatMap fun j => osg 55 (cl j) (prog[j]!.flatMap encOp)
theorem cpP_upd (prog : List (List OpV)) (cl : Nat → Vec) (i : Nat) (ov : Vec) : cpP prog (upd cl i ov) (i + 1) = cpP prog cl i ++ [.slice (oad ov) prog[i]!.length (ocap ov)] := range_upd (fun (j : Nat) (v : Vec) => Value.slice (oad v) prog[j]!.length (ocap v)) cl i ov
theorem cpO_upd (prog : List (List OpV)) (cl : Nat → Vec) (i : Nat) (ov : Vec) : cpO prog (upd cl i ov) (i + 1) = cpO prog cl i ++ osg 55 ov (prog[i]!.flatMap encOp) := range_updF (fun (j : Nat) (v : Vec) => osg 55 v (prog[j]!.flatMap encOp)) cl i ov
theorem cp_prog {prog : List (List OpV)} {cl : Nat → Vec} {op : Vec} (hop : osok 1 op prog.length (cpP prog cl prog.length)) (hcl : ∀ j, j < prog.length → osok 5 (cl j) prog[j]!.length (prog[j]!.flatMap encOp)) (N : PHeap) :
    SlSl (N.add (osg 53 op (cpP prog cl prog.length) ++ cpO prog cl prog.length)) 5 encOp (.slice (oad op) prog.length (ocap op)) prog := by
  refine ⟨_, _, cpP prog cl prog.length, rfl, by simp [cpP], rd_osg (T := 53) hop (fun q hq => List.mem_append_left _ hq), fun k h h' => ?_⟩
  have e : (cpP prog cl prog.length)[k] = .slice (oad (cl k)) prog[k]!.length (ocap (cl k)) := by simp only [cpP, List.getElem_map, List.getElem_range]
  rw [e, ← getB h']
  exact ⟨_, _, rfl, rd_osg (T := 55) (hcl k h') (fun q hq => List.mem_append_right _ (List.mem_flatMap.2 ⟨k, List.mem_range.2 h', hq⟩))⟩

/-- The copied threads so far. -/
def cpT (m : VM) (ra : List (Option Addr × Nat)) (rv : Nat → Vec) (i : Nat) : List Value := (List.range i).flatMap (fun j => encPT (m.thr[j]!, rv j)) ++ ((m.thr.zip ra).drop i).flatMap encThr
def cpR (m : VM) (rv : Nat → Vec) (i : Nat) : Own := (List.range i).flatMap fun j => osg 3 (rv j) (m.thr[j]!.read.map vi)
def cpA (m : VM) (rv : Nat → Vec) (i : Nat) : List Value := (List.range i).flatMap fun j => encPT (m.thr[j]!, rv j)
theorem cpA_len (m : VM) (rv : Nat → Vec) (i : Nat) : (cpA m rv i).length = i * 11 := by
  have := flatMap_length (enc := fun j => encPT (m.thr[j]!, rv j)) (sz := 11) (fun _ => rfl) (List.range i)
  rw [List.length_range] at this
  exact this
theorem cpR_upd (m : VM) (rv : Nat → Vec) (i : Nat) (ov : Vec) : cpR m (upd rv i ov) (i + 1) = cpR m rv i ++ osg 3 ov (m.thr[i]!.read.map vi) := range_updF (fun j (v : Vec) => osg 3 v (m.thr[j]!.read.map vi)) rv i ov
theorem cpT_tc {m : VM} {ra : List (Option Addr × Nat)} (rv : Nat → Vec) {i : Nat} (hi : i < m.thr.length) (hr : ra.length = m.thr.length) (sp : List Value) :
    cpT m ra rv i ++ sp = tc (cpA m rv i) m.thr[i]!.now m.thr[i]!.gained m.thr[i]!.given (.slice ra[i]!.1 m.thr[i]!.read.length ra[i]!.2) (vi m.thr[i]!.next) (((m.thr.zip ra).drop (i + 1)).flatMap encThr ++ sp) := by
  have h2 : i < (m.thr.zip ra).length := by rw [List.length_zip]; omega
  have e : (m.thr.zip ra)[i] = (m.thr[i]!, ra[i]!) := by rw [List.getElem_zip, getB hi, getB (by omega)]
  unfold cpT
  rw [List.drop_eq_getElem_cons h2, e]
  simp [tc, encThr, encV, cpA]
theorem cpT_next {m : VM} {ra : List (Option Addr × Nat)} (rv : Nat → Vec) {i : Nat} (ov : Vec) (sp : List Value) :
    tc (cpA m rv i) m.thr[i]!.now m.thr[i]!.gained m.thr[i]!.given (.slice (oad ov) m.thr[i]!.read.length (ocap ov)) (vi m.thr[i]!.next) (((m.thr.zip ra).drop (i + 1)).flatMap encThr ++ sp) = cpT m ra (upd rv i ov) (i + 1) ++ sp := by
  unfold cpT
  rw [range_updF (fun j (v : Vec) => encPT (m.thr[j]!, v)) rv i ov]
  simp [tc, encPT, encThr, encV, cpA]

theorem cpL_ln {line : Nat → List Int} {lv : Nat → Vec} (h : ∀ j, j < 3 → lv j ≠ none) : cpL line lv 3 = lnG line (fun j => (lv j).getD (0, 0, [])) := by
  have e : ∀ j, j < 3 → osg 3 (lv j) ((line j).map vi) = [(((lv j).getD (0, 0, [])).1, Cl 3 ((line j).map vi ++ ((lv j).getD (0, 0, [])).2.2))] := fun j hj => by
    have := h j hj
    cases hx : lv j with
    | none => exact absurd hx this
    | some x => rfl
  simp only [cpL, List.range_succ, List.range_zero, List.nil_append, List.cons_append, List.flatMap_cons, List.flatMap_nil, e 0 (by omega), e 1 (by omega), e 2 (by omega), lnG, List.append_nil]
theorem cpH_ln {line : Nat → List Int} {lv : Nat → Vec} (h : ∀ j, j < 3 → lv j ≠ none) (lh : Nat → Value) {j : Nat} (hj : j < 3) : cpH lh (fun l => (line l).length) lv 3 j = lnH line (fun j => (lv j).getD (0, 0, [])) j := by
  have := h j hj
  simp only [cpH, if_pos hj, lnH]
  cases hx : lv j with
  | none => exact absurd hx this
  | some x => rfl

section
variable {M : PHeap} {mp : Nat} {ad : Ad} {m : VM} {B : Nat}

def CopyR (m : VM) (v : Value) (_ : PHeap) (G' : Own) : Prop :=
  ∃ cp, ∃ p : PM, ∃ F : Own, v = pv cp 0 ∧ G' = p.G cp ++ F ∧ p.Ok ∧ p.vm = m ∧ ∀ N : PHeap, SlSl (N.add F) 5 encOp (.slice p.pg p.prog.length p.pc) p.prog

set_option maxRecDepth 8000 in
set_option maxHeartbeats 8000000 in
theorem view_Copy_c (r : RdM M mp ad m) (wf : m.Wf B) : Con Try.prog 21 #[pv mp 0] M [] (CopyR m) := by
  have hB := wf.b0
  have ht3 := wf.t3
  have hpl := wf.pl
  have hd9 : rd M mp 0 9 (hdL (.slice ad.pg m.prog.length ad.pc) (rowV ad.mb m.msgs.length ad.mc) (fun l => rowV (ad.lb l) (m.line l).length (ad.lc l)) (rowV ad.tb m.thr.length ad.tc) m.all) := r.hd
  have h0 := r.f0
  have h1 := r.f1
  have h5 := r.f5
  obtain ⟨pb, po, epg, hpg⟩ := r.progAt wf
  rw [epg] at h0
  refine Con.enter Q68_ok (args := [pv mp 0]) (by simp [Q68]) fun w0 => ?_
  simp only [Q68, argE]
  repeat' first
      | refine EV.seq ?_
      | refine EV.skip ?_
      | (refine EV.reg ?_; (conv => (arg 2; whnf)); simp only [push_cast, Int.cast_ofNat_Int, reduceIte, Nat.reduceEqDiff, reduceCtorEq, Nat.reduceAdd, Nat.reduceSub, Nat.reduceMul, Int.reduceToNat, Nat.reduceLeDiff, hd_len])
      | (refine ConQ.call (view_there_q (r.mono (PHeap.le_add _ _)) wf) ?_; try simp only [push_cast, Int.cast_ofNat_Int, reduceIte, Nat.reduceEqDiff, reduceCtorEq, Nat.reduceAdd, Nat.reduceSub, Nat.reduceMul, Int.reduceToNat, Nat.reduceLeDiff, hd_len])
      | ((refine EV.cond rfl (fun h => ?_) (fun h => ?_) <;> try simp only [reduceCtorEq, reduceIte, if_true, if_false, Bool.not_eq_true', Bool.not_eq_false', decide_eq_true_eq, decide_eq_false_iff_not, Bool.and_eq_true, Bool.or_eq_true, Bool.and_eq_false_iff, Bool.or_eq_false_iff] at h) <;> try (exfalso; first | exact h True.intro | (exact h; done) | omega | (simp only [not_true_eq_false, false_or, or_false] at h; omega)))
      | ((first | with_reducible intro b | refine Exists.intro _ (And.intro (rd_M (by assumption)) ?_) | fail); try simp only [push_cast, Int.cast_ofNat_Int, reduceIte, Nat.reduceEqDiff, reduceCtorEq, Nat.reduceAdd, Nat.reduceSub, Nat.reduceMul, Int.reduceToNat, Nat.reduceLeDiff, hd_len])
      | (refine xw ?_; simp only [push_cast, Int.cast_ofNat_Int, reduceIte, Nat.reduceEqDiff, reduceCtorEq, Nat.reduceAdd, Nat.reduceSub, Nat.reduceMul, Int.reduceToNat, Nat.reduceLeDiff, hd_len])
      | fail
  refine And.intro (ok1_hdL rfl rfl (fun _ => rfl) rfl) ?_
  obtain ⟨cp, hcp⟩ : ∃ x, x = b := ⟨_, rfl⟩
  subst hcp
  repeat' first
      | refine EV.seq ?_
      | refine EV.block ?_
      | (refine EV.reg ?_; (conv => (arg 2; whnf)); simp only [push_cast, Int.cast_ofNat_Int, reduceIte, Nat.reduceEqDiff, reduceCtorEq, Nat.reduceAdd, Nat.reduceSub, Nat.reduceMul, Int.reduceToNat, Nat.reduceLeDiff, hd_len, hd_st_pg])
      | (refine Exists.intro _ (Exists.intro _ (Exists.intro _ (And.intro (rd_M (by assumption)) ?_))); try simp only [push_cast, Int.cast_ofNat_Int, reduceIte, Nat.reduceEqDiff, reduceCtorEq, Nat.reduceAdd, Nat.reduceSub, Nat.reduceMul, Int.reduceToNat, Nat.reduceLeDiff, hd_len, hd_st_pg])
      | (refine xw ?_; simp only [push_cast, Int.cast_ofNat_Int, reduceIte, Nat.reduceEqDiff, reduceCtorEq, Nat.reduceAdd, Nat.reduceSub, Nat.reduceMul, Int.reduceToNat, Nat.reduceLeDiff, hd_len, hd_st_pg])
      | fail
  refine EV.to (ρ' := [(0, pv mp 0), (3, pv cp 0), (18, .slice (some ⟨pb, po, none⟩) m.prog.length ad.pc), (19, vi m.prog.length), (20, vi (0 : Nat))]) (G' := (cp, Cl 65 (hdL (.slice (oad none) 0 (ocap none)) (rowV ad.mb m.msgs.length ad.mc) (fun l => rowV (ad.lb l) (m.line l).length (ad.lc l)) (rowV ad.tb m.thr.length ad.tc) m.all)) :: (osg 53 none (cpP m.prog (fun _ => none) 0) ++ cpO m.prog (fun _ => none) 0)) ?_ ?env0 (List.Sublist.refl _)
  case env0 =>
    repeat' first
      | (refine List.forall_mem_cons.2 (And.intro ?_ ?_))
      | (intro _ hnil; cases hnil; done)
      | rfl
      | fail
  refine EV.loop (fun x : Nat × Vec × (Nat → Vec) => ([(0, pv mp 0), (3, pv cp 0), (18, .slice (some ⟨pb, po, none⟩) m.prog.length ad.pc), (19, vi m.prog.length), (20, vi x.1)], M, (cp, Cl 65 (hdL (.slice (oad x.2.1) x.1 (ocap x.2.1)) (rowV ad.mb m.msgs.length ad.mc) (fun l => rowV (ad.lb l) (m.line l).length (ad.lc l)) (rowV ad.tb m.thr.length ad.tc) m.all)) :: (osg 53 x.2.1 (cpP m.prog x.2.2 x.1) ++ cpO m.prog x.2.2 x.1)))
    (fun x => x.1 ≤ m.prog.length ∧ osok 1 x.2.1 x.1 (cpP m.prog x.2.2 x.1) ∧ ∀ j, j < x.1 → osok 5 (x.2.2 j) m.prog[j]!.length (m.prog[j]!.flatMap encOp)) (fun x => m.prog.length - x.1) (0, none, fun _ => none) ⟨Nat.zero_le _, ⟨rfl, rfl⟩, fun j hj => absurd hj (Nat.not_lt_zero _)⟩ ?_
  rintro ⟨i, op, cl⟩ ⟨hi, hop, hcl⟩ ih
  dsimp only at hi hop hcl ih ⊢
  repeat' first
      | refine EV.seq ?_
      | refine EV.skip ?_
      | refine EV.block ?_
      | (refine EV.reg ?_; (conv => (arg 2; whnf)); simp only [push_cast, Int.cast_ofNat_Int, reduceIte, Nat.reduceEqDiff, reduceCtorEq, Nat.reduceAdd, Nat.reduceSub, Nat.reduceMul, Int.reduceToNat, Nat.reduceLeDiff])
      | ((refine EV.cond rfl (fun h => ?_) (fun h => ?_) <;> try simp only [reduceCtorEq, reduceIte, if_true, if_false, Bool.not_eq_true', Bool.not_eq_false', decide_eq_true_eq, decide_eq_false_iff_not, Bool.and_eq_true, Bool.or_eq_true, Bool.and_eq_false_iff, Bool.or_eq_false_iff] at h) <;> try (exfalso; first | exact h True.intro | (exact h; done) | omega | (simp only [not_true_eq_false, false_or, or_false] at h; omega)))
      | (refine EV.exit rfl ?_)
      | (refine And.intro (by omega) ?_)
      | (refine Exists.intro _ (Exists.intro _ (Exists.intro _ (And.intro (rd_M (by assumption)) ?_))); try simp only [push_cast, Int.cast_ofNat_Int, reduceIte, Nat.reduceEqDiff, reduceCtorEq, Nat.reduceAdd, Nat.reduceSub, Nat.reduceMul, Int.reduceToNat, Nat.reduceLeDiff])
      | fail
  · have hi' : i < m.prog.length := by omega
    obtain ⟨ra, rc, hr1, hr2⟩ := hpg i (by omega)
    have hbi : m.prog[i]!.length < 1000000 := wf.pb _ (by rw [getB hi']; exact List.getElem_mem _)
    repeat' first
        | (refine Exists.intro _ (Exists.intro _ (Exists.intro _ (And.intro (rd_M (by assumption)) ?_))); try simp only [push_cast, Int.cast_ofNat_Int, reduceIte, Nat.reduceEqDiff, reduceCtorEq, Nat.reduceAdd, Nat.reduceSub, Nat.reduceMul, Int.reduceToNat, Nat.reduceLeDiff])
        | fail
    refine EV.any (t := Q68_8) _ (List.Sublist.cons_cons _ (List.nil_sublist _)) ?_
    simp only [push_cast, Int.cast_ofNat_Int, reduceIte, Nat.reduceEqDiff, reduceCtorEq, Nat.reduceAdd, Nat.reduceSub, Nat.reduceMul, Int.reduceToNat, Nat.reduceLeDiff, Q68_8]
    repeat' first
        | (refine Exists.intro _ (Exists.intro _ (Exists.intro _ (And.intro (rd_hd_pg) ?_))); try simp only [push_cast, Int.cast_ofNat_Int, reduceIte, Nat.reduceEqDiff, reduceCtorEq, Nat.reduceAdd, Nat.reduceSub, Nat.reduceMul, Int.reduceToNat, Nat.reduceLeDiff])
        | fail
    refine Con.callB (Mr := M) (G1 := []) (clone_op_c _ _ _ _ hr2 (ok1_flatMap ok1_op _) hbi) (PHeap.le_add _ _) (List.Perm.refl _) ?_
    rintro v1 M1 G1 ⟨ov, rfl, hov, rfl⟩
    refine And.intro (PHeap.le_refl _) (And.intro (mem_of_sub (List.Sublist.cons_cons _ (List.nil_sublist _))) ?_)
    simp only [push_cast, Int.cast_ofNat_Int, reduceIte, Nat.reduceEqDiff, reduceCtorEq, Nat.reduceAdd, Nat.reduceSub, Nat.reduceMul, Int.reduceToNat, Nat.reduceLeDiff, osv_sl]
    refine fun b1 => And.intro (PHeap.le_refl _) (And.intro (mem_of_sub (List.Sublist.cons _ (List.Sublist.cons_cons _ (List.nil_sublist _)))) ?_)
    refine ⟨_, Or.inr ⟨_, 0, rfl, rd_own' 0 rfl rfl (by simp)⟩, by simp [ok1_cons, ok1_nil, Value.oneCell'], Or.inl ⟨_, _, rfl, _, hop, _, cat_pull [[_, _], osg 53 op (cpP m.prog cl i), cpO m.prog cl i, osg 55 ov _] 1 (by simp), ?_, ?_, ?_⟩⟩
    · simp only [maxLen]; omega
    · omega
    intro o1 ho1 _
    simp only [List.eraseIdx_cons_succ, List.eraseIdx_cons_zero, List.getElem_cons_succ, List.getElem_cons_zero, cat_two, cat_one, cat_nil, List.nil_append, List.cons_append, List.append_assoc, List.append_nil]
    repeat' first
        | refine EV.inBlock ?_
        | (refine EV.reg ?_; (conv => (arg 2; whnf)); simp only [push_cast, Int.cast_ofNat_Int, reduceIte, Nat.reduceEqDiff, reduceCtorEq, Nat.reduceAdd, Nat.reduceSub, Nat.reduceMul, Int.reduceToNat, Nat.reduceLeDiff, hd_len, hd_st_pg])
        | (refine xw ?_; simp only [push_cast, Int.cast_ofNat_Int, reduceIte, Nat.reduceEqDiff, reduceCtorEq, Nat.reduceAdd, Nat.reduceSub, Nat.reduceMul, Int.reduceToNat, Nat.reduceLeDiff, hd_len, hd_st_pg])
        | fail
    refine EV.drop1 ?_
    refine EV.permG ?_ (cat_move [[_], cpO m.prog cl i, osg 55 ov _, osg 53 o1 _] 3 1 (by simp) (by simp))
    simp only [List.eraseIdx_cons_succ, List.eraseIdx_cons_zero, List.getElem_cons_succ, List.getElem_cons_zero, List.insertIdx_zero, List.insertIdx_succ_cons, cat_two, cat_one, cat_nil, List.nil_append, List.cons_append, List.append_assoc, List.append_nil]
    have ih3 := ih (i + 1, o1, upd cl i ov) ⟨by dsimp only; omega, by dsimp only; rw [cpP_upd]; exact ho1, fun j hj => by
      dsimp only at hj ⊢
      by_cases e : j = i
      · subst e; rw [upd_at]; exact hov
      · simp only [upd, if_neg e]; exact hcl j (by omega)⟩ (by dsimp only; omega)
    simp only [cpP_upd, cpO_upd, List.append_assoc] at ih3
    refine EV.to ih3 ?_ (by (repeat' first | exact List.Sublist.refl _ | exact List.nil_sublist _ | exact List.sublist_append_left _ _ | refine List.Sublist.cons_cons _ ?_ | refine List.Sublist.append_left ?_ _ | refine List.sublist_append_of_sublist_right ?_ | refine List.Sublist.cons _ ?_))
    repeat' first
      | (refine List.forall_mem_cons.2 (And.intro ?_ ?_))
      | (intro _ hnil; cases hnil; done)
      | rfl
      | (refine env_w64 rfl (by first | rfl | (push_cast; first | rfl | omega)) (by omega) (by omega); done)
      | fail
  · have e : i = m.prog.length := by omega
    subst e
    have hprog := cp_prog hop hcl
    generalize osg 53 op (cpP m.prog cl m.prog.length) ++ cpO m.prog cl m.prog.length = F at hprog ⊢
    have rN := r
    have h1N := rN.f1
    have h5N := rN.f5
    have hml : 0 < m.msgs.length := by
      have q1 := wf.lp 0 (by omega)
      have q2 := wf.le 0 (by omega) (m.line 0)[0]! (by rw [getB q1]; exact List.getElem_mem _)
      omega
    have hmb := wf.ml
    repeat' first
        | fail
    refine Con.callB (Mr := M) (G1 := []) (clone_msg_c m.msgs.length _ _ _ (.inr ⟨_, 0, rfl, rN.ms⟩) (ok1_flatMap ok1_msg _) (by omega)) (PHeap.le_add _ _) (List.Perm.refl _) ?_
    rintro v1 M1 G1 ⟨om, rfl, hom, rfl⟩
    simp only [push_cast, Int.cast_ofNat_Int, reduceIte, Nat.reduceEqDiff, reduceCtorEq, Nat.reduceAdd, Nat.reduceSub, Nat.reduceMul, Int.reduceToNat, Nat.reduceLeDiff, osv_sl]
    repeat' first
        | refine EV.seq ?_
        | refine EV.block ?_
        | (refine EV.reg ?_; (conv => (arg 2; whnf)); simp only [push_cast, Int.cast_ofNat_Int, reduceIte, Nat.reduceEqDiff, reduceCtorEq, Nat.reduceAdd, Nat.reduceSub, Nat.reduceMul, Int.reduceToNat, Nat.reduceLeDiff, hd_len, hd_st_ms])
        | (refine xw ?_; simp only [push_cast, Int.cast_ofNat_Int, reduceIte, Nat.reduceEqDiff, reduceCtorEq, Nat.reduceAdd, Nat.reduceSub, Nat.reduceMul, Int.reduceToNat, Nat.reduceLeDiff, hd_len, hd_st_ms])
        | fail
    refine EV.to (ρ' := [(0, pv mp 0), (3, pv cp 0), (38, vi (0 : Nat))]) (G' := (cp, Cl 65 (hdL (.slice (oad op) m.prog.length (ocap op)) (.slice (oad om) m.msgs.length (ocap om)) (cpH (fun l => rowV (ad.lb l) (m.line l).length (ad.lc l)) (fun l => (m.line l).length) (fun _ => none) 0) (rowV ad.tb m.thr.length ad.tc) m.all)) :: (F ++ (osg 67 om (m.msgs.flatMap encMsg) ++ cpL m.line (fun _ => none) 0))) ?_ ?env1 (by rw [show cpL m.line (fun _ => none) 0 = [] from rfl, List.append_nil]; exact List.Sublist.refl _)
    case env1 =>
      repeat' first
        | (refine List.forall_mem_cons.2 (And.intro ?_ ?_))
        | (intro _ hnil; cases hnil; done)
        | rfl
        | fail
    refine EV.loop (fun x : Nat × (Nat → Vec) => ([(0, pv mp 0), (3, pv cp 0), (38, vi x.1)], M, (cp, Cl 65 (hdL (.slice (oad op) m.prog.length (ocap op)) (.slice (oad om) m.msgs.length (ocap om)) (cpH (fun l => rowV (ad.lb l) (m.line l).length (ad.lc l)) (fun l => (m.line l).length) x.2 x.1) (rowV ad.tb m.thr.length ad.tc) m.all)) :: (F ++ (osg 67 om (m.msgs.flatMap encMsg) ++ cpL m.line x.2 x.1))))
      (fun x => x.1 ≤ 3 ∧ ∀ j, j < x.1 → osok 1 (x.2 j) (m.line j).length ((m.line j).map vi)) (fun x => 3 - x.1) (0, fun _ => none) ⟨Nat.zero_le _, fun j hj => absurd hj (Nat.not_lt_zero _)⟩ ?_
    rintro ⟨l, lv⟩ ⟨hl3, hlv⟩ ih
    dsimp only at hl3 hlv ih ⊢
    repeat' first
        | refine EV.seq ?_
        | refine EV.skip ?_
        | refine EV.block ?_
        | (refine EV.reg ?_; (conv => (arg 2; whnf)); simp only [push_cast, Int.cast_ofNat_Int, reduceIte, Nat.reduceEqDiff, reduceCtorEq, Nat.reduceAdd, Nat.reduceSub, Nat.reduceMul, Int.reduceToNat, Nat.reduceLeDiff])
        | ((refine EV.cond rfl (fun h => ?_) (fun h => ?_) <;> try simp only [reduceCtorEq, reduceIte, if_true, if_false, Bool.not_eq_true', Bool.not_eq_false', decide_eq_true_eq, decide_eq_false_iff_not, Bool.and_eq_true, Bool.or_eq_true, Bool.and_eq_false_iff, Bool.or_eq_false_iff] at h) <;> try (exfalso; first | exact h True.intro | (exact h; done) | omega | (simp only [not_true_eq_false, false_or, or_false] at h; omega)))
        | (refine EV.exit rfl ?_)
        | (refine And.intro (by omega) ?_)
        | (refine Exists.intro _ (Exists.intro _ (Exists.intro _ (And.intro (rd_M (by assumption)) ?_))); try simp only [push_cast, Int.cast_ofNat_Int, reduceIte, Nat.reduceEqDiff, reduceCtorEq, Nat.reduceAdd, Nat.reduceSub, Nat.reduceMul, Int.reduceToNat, Nat.reduceLeDiff])
        | fail
    · have hl : l < 3 := by omega
      have hrl := rN.fl hl
      have hlb := wf.ll l hl
      repeat' first
          | (refine Exists.intro _ (Exists.intro _ (Exists.intro _ (And.intro (rd_M (by assumption)) ?_))); try simp only [push_cast, Int.cast_ofNat_Int, reduceIte, Nat.reduceEqDiff, reduceCtorEq, Nat.reduceAdd, Nat.reduceSub, Nat.reduceMul, Int.reduceToNat, Nat.reduceLeDiff])
          | fail
      refine Con.callB (Mr := M) (G1 := []) (clone_int_c (m.line l).length _ _ _ (.inr ⟨_, 0, rfl, by rw [Nat.mul_one]; exact rN.ln l hl⟩) (ok1_vi _) (by omega)) (PHeap.le_add _ _) (List.Perm.refl _) ?_
      rintro v1 M1 G1 ⟨ov, rfl, hov, rfl⟩
      simp only [push_cast, Int.cast_ofNat_Int, reduceIte, Nat.reduceEqDiff, reduceCtorEq, Nat.reduceAdd, Nat.reduceSub, Nat.reduceMul, Int.reduceToNat, Nat.reduceLeDiff, osv_sl]
      repeat' first
          | refine EV.inBlock ?_
          | (refine EV.reg ?_; (conv => (arg 2; whnf)); simp only [push_cast, Int.cast_ofNat_Int, reduceIte, Nat.reduceEqDiff, reduceCtorEq, Nat.reduceAdd, Nat.reduceSub, Nat.reduceMul, Int.reduceToNat, Nat.reduceLeDiff, hd_len, hd_st_line hl, cpH_upd])
          | (refine And.intro (by omega) ?_)
          | (refine xw ?_; simp only [push_cast, Int.cast_ofNat_Int, reduceIte, Nat.reduceEqDiff, reduceCtorEq, Nat.reduceAdd, Nat.reduceSub, Nat.reduceMul, Int.reduceToNat, Nat.reduceLeDiff, hd_len, hd_st_line hl, cpH_upd])
          | fail
      have ih3 := ih (l + 1, upd lv l ov) ⟨by dsimp only; omega, fun j hj => by
        dsimp only at hj ⊢
        by_cases e : j = l
        · subst e; rw [upd_at]; exact hov
        · simp only [upd, if_neg e]; exact hlv j (by omega)⟩ (by dsimp only; omega)
      simp only [cpL_upd] at ih3
      refine EV.to ih3 ?_ (by (repeat' first | exact List.Sublist.refl _ | exact List.nil_sublist _ | exact List.sublist_append_left _ _ | refine List.Sublist.cons_cons _ ?_ | refine List.Sublist.append_left ?_ _ | refine List.sublist_append_of_sublist_right ?_ | refine List.Sublist.cons _ ?_))
      repeat' first
        | (refine List.forall_mem_cons.2 (And.intro ?_ ?_))
        | (intro _ hnil; cases hnil; done)
        | rfl
        | (refine env_w64 rfl (by first | rfl | (push_cast; first | rfl | omega)) (by omega) (by omega); done)
        | fail
    · have e : l = 3 := by omega
      subst e
      repeat' first
          | fail
      refine Con.callB (Mr := M) (G1 := []) (clone_thr_c m.thr.length _ _ _ (.inr ⟨_, 0, rfl, rN.th⟩) (ok1_flatMap ok1_thr _) (by omega)) (PHeap.le_add _ _) (List.Perm.refl _) ?_
      rintro v1 M1 G1 ⟨ot, rfl, hot, rfl⟩
      have htp := wf.tp
      obtain ⟨⟨tb, tk, tsp⟩, rfl⟩ : ∃ x, ot = some x := by
        cases ot with
        | none => exact absurd hot.1 (by omega)
        | some x => exact ⟨x, rfl⟩
      simp only [push_cast, Int.cast_ofNat_Int, reduceIte, Nat.reduceEqDiff, reduceCtorEq, Nat.reduceAdd, Nat.reduceSub, Nat.reduceMul, Int.reduceToNat, Nat.reduceLeDiff, osv_sl]
      repeat' first
          | refine EV.seq ?_
          | refine EV.block ?_
          | (refine EV.reg ?_; (conv => (arg 2; whnf)); simp only [push_cast, Int.cast_ofNat_Int, reduceIte, Nat.reduceEqDiff, reduceCtorEq, Nat.reduceAdd, Nat.reduceSub, Nat.reduceMul, Int.reduceToNat, Nat.reduceLeDiff, hd_len, hd_st_th])
          | (refine Exists.intro _ (Exists.intro _ (Exists.intro _ (And.intro (rd_hd_th) ?_))); try simp only [push_cast, Int.cast_ofNat_Int, reduceIte, Nat.reduceEqDiff, reduceCtorEq, Nat.reduceAdd, Nat.reduceSub, Nat.reduceMul, Int.reduceToNat, Nat.reduceLeDiff, hd_len, hd_st_th])
          | (refine xw ?_; simp only [push_cast, Int.cast_ofNat_Int, reduceIte, Nat.reduceEqDiff, reduceCtorEq, Nat.reduceAdd, Nat.reduceSub, Nat.reduceMul, Int.reduceToNat, Nat.reduceLeDiff, hd_len, hd_st_th])
          | fail
      refine EV.permG ?_ (cat_pull [[_], F, osg 67 om _, cpL m.line lv 3, [_]] 4 (by simp))
      simp only [List.eraseIdx_cons_succ, List.eraseIdx_cons_zero, List.getElem_cons_succ, List.getElem_cons_zero, List.insertIdx_zero, List.insertIdx_succ_cons, cat_two, cat_one, cat_nil, List.nil_append, List.cons_append, List.append_assoc, List.append_nil]
      refine EV.to (ρ' := [(0, pv mp 0), (3, pv cp 0), (60, vi m.thr.length), (61, vi (0 : Nat))]) (G' := (tb, Cl 69 (cpT m ad.ra (fun _ => none) 0 ++ tsp)) :: (cp, Cl 65 (hdL (.slice (oad op) m.prog.length (ocap op)) (.slice (oad om) m.msgs.length (ocap om)) (cpH (fun l => rowV (ad.lb l) (m.line l).length (ad.lc l)) (fun l => (m.line l).length) lv 3) (rowV tb m.thr.length tk) m.all)) :: (F ++ (osg 67 om (m.msgs.flatMap encMsg) ++ (cpL m.line lv 3 ++ cpR m (fun _ => none) 0)))) ?_ ?env2 (by rw [show cpR m (fun _ => none) 0 = [] from rfl, List.append_nil]; exact List.Sublist.refl _)
      case env2 =>
        repeat' first
          | (refine List.forall_mem_cons.2 (And.intro ?_ ?_))
          | (intro _ hnil; cases hnil; done)
          | rfl
          | fail
      refine EV.loop (fun x : Nat × (Nat → Vec) => ([(0, pv mp 0), (3, pv cp 0), (60, vi m.thr.length), (61, vi x.1)], M, (tb, Cl 69 (cpT m ad.ra x.2 x.1 ++ tsp)) :: (cp, Cl 65 (hdL (.slice (oad op) m.prog.length (ocap op)) (.slice (oad om) m.msgs.length (ocap om)) (cpH (fun l => rowV (ad.lb l) (m.line l).length (ad.lc l)) (fun l => (m.line l).length) lv 3) (rowV tb m.thr.length tk) m.all)) :: (F ++ (osg 67 om (m.msgs.flatMap encMsg) ++ (cpL m.line lv 3 ++ cpR m x.2 x.1)))))
        (fun x => x.1 ≤ m.thr.length ∧ ∀ j, j < x.1 → osok 1 (x.2 j) m.thr[j]!.read.length (m.thr[j]!.read.map vi)) (fun x => m.thr.length - x.1) (0, fun _ => none) ⟨Nat.zero_le _, fun j hj => absurd hj (Nat.not_lt_zero _)⟩ ?_
      rintro ⟨i, rv⟩ ⟨hi, hrv⟩ ih
      dsimp only at hi hrv ih ⊢
      repeat' first
          | refine EV.seq ?_
          | refine EV.skip ?_
          | refine EV.block ?_
          | (refine EV.reg ?_; (conv => (arg 2; whnf)); simp only [push_cast, Int.cast_ofNat_Int, reduceIte, Nat.reduceEqDiff, reduceCtorEq, Nat.reduceAdd, Nat.reduceSub, Nat.reduceMul, Int.reduceToNat, Nat.reduceLeDiff])
          | ((refine EV.cond rfl (fun h => ?_) (fun h => ?_) <;> try simp only [reduceCtorEq, reduceIte, if_true, if_false, Bool.not_eq_true', Bool.not_eq_false', decide_eq_true_eq, decide_eq_false_iff_not, Bool.and_eq_true, Bool.or_eq_true, Bool.and_eq_false_iff, Bool.or_eq_false_iff] at h) <;> try (exfalso; first | exact h True.intro | (exact h; done) | omega | (simp only [not_true_eq_false, false_or, or_false] at h; omega)))
          | (refine EV.exit rfl ?_)
          | fail
      · have hi' : i < m.thr.length := by omega
        have hA := cpA_len m rv i
        have hrd := rN.read hi'
        have hrr : rdS M 1 ad.ra[i]!.1 m.thr[i]!.read.length (m.thr[i]!.read.map vi) := by
          have := rN.rr i hi' (by rw [rN.rl]; exact hi')
          rwa [← getB, ← getB] at this
        have hrb := rb_at wf hi'
        repeat' first
            | fail
        refine EV.any (t := Q68_20) _ (List.Sublist.refl _) ?_
        simp only [push_cast, Int.cast_ofNat_Int, reduceIte, Nat.reduceEqDiff, reduceCtorEq, Nat.reduceAdd, Nat.reduceSub, Nat.reduceMul, Int.reduceToNat, Nat.reduceLeDiff, Q68_20]
        rw [cpT_tc rv hi' rN.rl]
        repeat' first
            | (refine Exists.intro _ (Exists.intro _ (Exists.intro _ (And.intro (rd_hd_th) ?_))); try simp only [push_cast, Int.cast_ofNat_Int, reduceIte, Nat.reduceEqDiff, reduceCtorEq, Nat.reduceAdd, Nat.reduceSub, Nat.reduceMul, Int.reduceToNat, Nat.reduceLeDiff])
            | (refine And.intro (by omega) ?_)
            | (refine Exists.intro _ (Exists.intro _ (Exists.intro _ (And.intro (rd_M (by assumption)) ?_))); try simp only [push_cast, Int.cast_ofNat_Int, reduceIte, Nat.reduceEqDiff, reduceCtorEq, Nat.reduceAdd, Nat.reduceSub, Nat.reduceMul, Int.reduceToNat, Nat.reduceLeDiff])
            | fail
        refine Con.callB (Mr := M) (G1 := []) (clone_int_c m.thr[i]!.read.length _ _ _ hrr (ok1_vi _) (by omega)) (PHeap.le_add _ _) (List.Perm.refl _) ?_
        rintro v1 M1 G1 ⟨ov, rfl, hov, rfl⟩
        refine And.intro (PHeap.le_refl _) (And.intro (fun q hq => List.mem_append_left _ hq) ?_)
        simp only [push_cast, Int.cast_ofNat_Int, reduceIte, Nat.reduceEqDiff, reduceCtorEq, Nat.reduceAdd, Nat.reduceSub, Nat.reduceMul, Int.reduceToNat, Nat.reduceLeDiff, osv_sl]
        repeat' first
            | refine EV.inBlock ?_
            | (refine EV.reg ?_; (conv => (arg 2; whnf)); simp only [push_cast, Int.cast_ofNat_Int, reduceIte, Nat.reduceEqDiff, reduceCtorEq, Nat.reduceAdd, Nat.reduceSub, Nat.reduceMul, Int.reduceToNat, Nat.reduceLeDiff, tc_len hA, tc_st_read hA])
            | (refine And.intro (by omega) ?_)
            | (refine xw ?_; simp only [push_cast, Int.cast_ofNat_Int, reduceIte, Nat.reduceEqDiff, reduceCtorEq, Nat.reduceAdd, Nat.reduceSub, Nat.reduceMul, Int.reduceToNat, Nat.reduceLeDiff, tc_len hA, tc_st_read hA])
            | fail
        rw [cpT_next]
        have ih3 := ih (i + 1, upd rv i ov) ⟨by dsimp only; omega, fun j hj => by
          dsimp only at hj ⊢
          by_cases e : j = i
          · subst e; rw [upd_at]; exact hov
          · simp only [upd, if_neg e]; exact hrv j (by omega)⟩ (by dsimp only; omega)
        simp only [cpR_upd] at ih3
        refine EV.to ih3 ?_ (by (repeat' first | exact List.Sublist.refl _ | exact List.nil_sublist _ | exact List.sublist_append_left _ _ | refine List.Sublist.cons_cons _ ?_ | refine List.Sublist.append_left ?_ _ | refine List.sublist_append_of_sublist_right ?_ | refine List.Sublist.cons _ ?_))
        repeat' first
          | (refine List.forall_mem_cons.2 (And.intro ?_ ?_))
          | (intro _ hnil; cases hnil; done)
          | rfl
          | (refine env_w64 rfl (by first | rfl | (push_cast; first | rfl | omega)) (by omega) (by omega); done)
          | fail
      · have e : i = m.thr.length := by omega
        subst e
        repeat' first
            | fail
        obtain ⟨⟨m1, m2, m3⟩, rfl⟩ : ∃ x, om = some x := by
          cases om with
          | none => exact absurd hom.1 (by omega)
          | some x => exact ⟨x, rfl⟩
        have hlvn : ∀ j, j < 3 → lv j ≠ none := fun j hj hx => by
          have h1 := hlv j hj
          have h2 := wf.lp j hj
          rw [hx] at h1
          exact absurd h1.1 (by omega)
        refine EV.permG ?_ ((List.Perm.swap _ _ _).trans (List.Perm.cons _ (List.Perm.cons _ List.perm_append_comm)))
        refine EV.ret Q68_ok ?_
        simp only [push_cast, Int.cast_ofNat_Int, reduceIte, Nat.reduceEqDiff, reduceCtorEq, Nat.reduceAdd, Nat.reduceSub, Nat.reduceMul, Int.reduceToNat, Nat.reduceLeDiff, Q68]
        have eT : cpT m ad.ra rv m.thr.length = cpA m rv m.thr.length := by
          unfold cpT
          rw [List.drop_eq_nil_of_le (by rw [List.length_zip]; omega)]
          exact List.append_nil _
        have hpt : ((List.range m.thr.length).map fun j => (m.thr[j]!, rv j)).flatMap encPT = cpA m rv m.thr.length := by rw [List.flatMap_map]; rfl
        have hpr : rdsG ((List.range m.thr.length).map fun j => (m.thr[j]!, rv j)) = cpR m rv m.thr.length := by rw [rdsG, List.flatMap_map]; rfl
        refine ⟨cp, ⟨oad op, ocap op, (m1, m2, m3), fun j => (lv j).getD (0, 0, []), (tb, tk, tsp), m.prog, m.msgs, m.line, m.all, (List.range m.thr.length).map fun j => (m.thr[j]!, rv j)⟩, F, rfl, ?_, ⟨hom, fun l hl => ?_, ?_, ?_⟩, ?_, hprog⟩
        · simp only [PM.G, hpt, hpr, eT, List.length_map, List.length_range, cpL_ln hlvn, hdL, cpH_ln hlvn _ (show 0 < 3 by omega), cpH_ln hlvn _ (show 1 < 3 by omega), cpH_ln hlvn _ (show 2 < 3 by omega), osg, List.cons_append, List.nil_append, List.append_assoc]
        · have h1 := hlv l hl
          have h2 := hlvn l hl
          dsimp only
          cases hx : lv l with
          | none => exact absurd hx h2
          | some x => rw [hx] at h1; exact h1
        · dsimp only
          rw [hpt, List.length_map, List.length_range]
          obtain ⟨k1, k2, k3, k4⟩ := hot
          have hA := cpA_len m rv m.thr.length
          exact ⟨hA, by rw [List.length_append] at k2 ⊢; omega, k3, k4⟩
        · intro q hq
          obtain ⟨j, hj, rfl⟩ := List.mem_map.1 hq
          exact hrv j (List.mem_range.1 hj)
        · have : ((List.range m.thr.length).map fun j => (m.thr[j]!, rv j)).map (·.1) = m.thr := by
            refine List.ext_getElem (by simp) fun j h1 h2 => ?_
            simp only [List.getElem_map, List.getElem_range]
            rw [getB h2]
          simp only [PM.vm, this]

end
end Go.EV

namespace Go.EV
open Go.Proofs

def runs (m : VM) (xs : List (Int × Int)) : VM := xs.foldl (fun m t => (m.step t.1 t.2).1) m
theorem runs_take (m : VM) {xs : List (Int × Int)} {j : Nat} (h : j < xs.length) : runs m (xs.take (j + 1)) = ((runs m (xs.take j)).step xs[j].1 xs[j].2).1 := by
  rw [runs, List.take_succ_eq_append_getElem h, List.foldl_append]; rfl

section
variable {M : PHeap} {mp xp cp : Nat} {B : Nat}

theorem Both.step {p p2 : PM} {q q2 : RP} (b : Both M mp xp p q B) (hB : B + 2 < 1000000) {x y : Int} (h1 : p2.Ok) (h2 : p2.vm = (p.vm.step x y).1) (h3 : p2.pg = p.pg) (h4 : p2.pc = p.pc) {M' : PHeap} (hM : M.le M') (k1 : q2.Ok) (k2 : q2.Vs M') (k3 : q2.rm = (q.rm.step x y).1) : Both M' mp xp p2 q2 (B + 2) := by
  obtain ⟨s2, he⟩ := b.s.step b.iv x y
  obtain ⟨iv2, le2⟩ := step_inv b.iv hB x y
  rw [← h2] at iv2 le2 s2
  rw [← k3] at s2
  have : p2.prog = p.prog := le2.pr
  exact ⟨h1, by rw [h3, h4, this]; exact b.pg.mono hM, iv2, k1, k2, s2⟩

/-- A machine of views alone. -/
structure Alone (M : PHeap) (p : PM) (B : Nat) : Prop where
  ok : p.Ok
  pg : SlSl M 5 encOp (.slice p.pg p.prog.length p.pc) p.prog
  iv : p.vm.Inv B
theorem Alone.step {p p2 : PM} (b : Alone M p B) (hB : B + 2 < 1000000) {x y : Int} (h1 : p2.Ok) (h2 : p2.vm = (p.vm.step x y).1) (h3 : p2.pg = p.pg) (h4 : p2.pc = p.pc) : Alone M p2 (B + 2) := by
  obtain ⟨iv2, le2⟩ := step_inv b.iv hB x y
  rw [← h2] at iv2 le2
  have : p2.prog = p.prog := le2.pr
  exact ⟨h1, by rw [h3, h4, this]; exact b.pg, iv2⟩

set_option maxRecDepth 8000 in
set_option maxHeartbeats 8000000 in
theorem ViewCopies_q (ts : List (List OpV)) (s : Value) (hs : SlSl M 5 encOp s ts) (hb : ts.length ≤ 140737488355328) (hb2 : ∀ t ∈ ts, t.length ≤ 140737488355328) (turns : List (Int × Int)) (tv : Value) (htv : Sl M 2 encTurn tv turns) (hbt : turns.length ≤ 140737488355328)
    (more : List (Int × Int)) (mv : Value) (hmv : Sl M 2 encTurn mv more) (hbm : more.length ≤ 140737488355328) :
    ConQ Try.prog 6 #[.agg #[s], tv, mv] M (vb true) := by
  have hs0 := hs
  obtain ⟨a, c, vs, rfl, _⟩ := hs
  obtain ⟨ta, tc, rfl, hrt⟩ := htv
  obtain ⟨ma, mc, rfl, hrm⟩ := hmv
  refine Con.enter Q9_ok (args := [.agg #[.slice a ts.length c], .slice ta turns.length tc, .slice ma more.length mc]) (by simp [Q9]) fun w0 => ?_
  simp only [Q9, argE]
  repeat' first
      | refine EV.seq ?_
      | refine EV.skip ?_
      | (refine EV.reg ?_; (conv => (arg 2; whnf)); simp only [push_cast, Int.cast_ofNat_Int, reduceIte, Nat.reduceEqDiff, reduceCtorEq, Nat.reduceAdd, Nat.reduceSub, Nat.reduceMul, Int.reduceToNat, Nat.reduceLeDiff])
      | ((first | refine ConQ.call (sane_q) ?_ | refine ConQ.call (large_q ts _ (hs0.mono (PHeap.le_add _ _)) hb hb2) ?_ | fail); try simp only [push_cast, Int.cast_ofNat_Int, reduceIte, Nat.reduceEqDiff, reduceCtorEq, Nat.reduceAdd, Nat.reduceSub, Nat.reduceMul, Int.reduceToNat, Nat.reduceLeDiff])
      | assumption
      | (refine condW.merge ?_ (fun hc K' hK => ?_) ?_; rotate_left)
      | ((refine EV.cond rfl (fun h => ?_) (fun h => ?_) <;> try simp only [reduceCtorEq, reduceIte, if_true, if_false, Bool.not_eq_true', Bool.not_eq_false', decide_eq_true_eq, decide_eq_false_iff_not, Bool.and_eq_true, Bool.or_eq_true, Bool.and_eq_false_iff, Bool.or_eq_false_iff] at h) <;> try (exfalso; first | exact h True.intro | (exact h; done) | omega | (simp only [not_true_eq_false, false_or, or_false] at h; omega)))
      | (refine EV.ret Q9_ok ?_; simp only [push_cast, Int.cast_ofNat_Int, reduceIte, Nat.reduceEqDiff, reduceCtorEq, Nat.reduceAdd, Nat.reduceSub, Nat.reduceMul, Int.reduceToNat, Nat.reduceLeDiff, Q9])
      | ((first | with_reducible intro b | refine xr rfl (by simp only [List.length_cons, List.length_nil]; omega) ?_ | fail); try simp only [push_cast, Int.cast_ofNat_Int, reduceIte, Nat.reduceEqDiff, reduceCtorEq, Nat.reduceAdd, Nat.reduceSub, Nat.reduceMul, Int.reduceToNat, Nat.reduceLeDiff])
      | fail
  · obtain ⟨⟨hl1, hl2⟩, hl3⟩ := h
    have hsm := largeP_small hl1
    refine Con.callA (G1 := []) (view_New_c ts _ hs0 (by omega) (by omega)) (List.Perm.refl _) ?_
    rintro v M1 G1 hM1 h1
    rcases h1 with ⟨hne, rfl⟩ | ⟨hck, mp, p, rfl, rfl, ok, hvm, hpg⟩
    · simp only [push_cast, Int.cast_ofNat_Int, reduceIte, Nat.reduceEqDiff, reduceCtorEq, Nat.reduceAdd, Nat.reduceSub, Nat.reduceMul, Int.reduceToNat, Nat.reduceLeDiff]
      repeat' first
          | refine EV.seq ?_
          | (refine EV.reg ?_; (conv => (arg 2; whnf)); simp only [push_cast, Int.cast_ofNat_Int, reduceIte, Nat.reduceEqDiff, reduceCtorEq, Nat.reduceAdd, Nat.reduceSub, Nat.reduceMul, Int.reduceToNat, Nat.reduceLeDiff])
          | (refine xr rfl (by simp only [List.length_cons, List.length_nil]; omega) ?_; try simp only [push_cast, Int.cast_ofNat_Int, reduceIte, Nat.reduceEqDiff, reduceCtorEq, Nat.reduceAdd, Nat.reduceSub, Nat.reduceMul, Int.reduceToNat, Nat.reduceLeDiff])
          | fail
      refine Con.callA (G1 := []) (ref_New_c ts _ (hs0.mono hM1) (by omega) (by omega)) (List.Perm.refl _) ?_
      rintro v M2 G2 hM2 h2
      rcases h2 with ⟨_, rfl⟩ | ⟨hck, _⟩
      · simp only [push_cast, Int.cast_ofNat_Int, reduceIte, Nat.reduceEqDiff, reduceCtorEq, Nat.reduceAdd, Nat.reduceSub, Nat.reduceMul, Int.reduceToNat, Nat.reduceLeDiff]
        repeat' first
            | refine EV.seq ?_
            | refine EV.skip ?_
            | refine EV.block ?_
            | (refine EV.reg ?_; (conv => (arg 2; whnf)); simp only [push_cast, Int.cast_ofNat_Int, reduceIte, Nat.reduceEqDiff, reduceCtorEq, Nat.reduceAdd, Nat.reduceSub, Nat.reduceMul, Int.reduceToNat, Nat.reduceLeDiff, ne_eq, not_true_eq_false, decide_false, Bool.or_self, beq_self_eq_true])
            | (refine ConQ.call (sane_q) ?_; try simp only [push_cast, Int.cast_ofNat_Int, reduceIte, Nat.reduceEqDiff, reduceCtorEq, Nat.reduceAdd, Nat.reduceSub, Nat.reduceMul, Int.reduceToNat, Nat.reduceLeDiff, ne_eq, not_true_eq_false, decide_false, Bool.or_self, beq_self_eq_true])
            | assumption
            | (refine condW.merge ?_ (fun hc K' hK => ?_) ?_; rotate_left)
            | ((refine EV.cond rfl (fun h => ?_) (fun h => ?_) <;> try simp only [reduceCtorEq, reduceIte, if_true, if_false, Bool.not_eq_true', Bool.not_eq_false', decide_eq_true_eq, decide_eq_false_iff_not, Bool.and_eq_true, Bool.or_eq_true, Bool.and_eq_false_iff, Bool.or_eq_false_iff] at h) <;> try (exfalso; first | exact h True.intro | (exact h; done) | omega | (simp only [not_true_eq_false, false_or, or_false] at h; omega)))
            | (refine EV.ret Q9_ok ?_; simp only [push_cast, Int.cast_ofNat_Int, reduceIte, Nat.reduceEqDiff, reduceCtorEq, Nat.reduceAdd, Nat.reduceSub, Nat.reduceMul, Int.reduceToNat, Nat.reduceLeDiff, ne_eq, not_true_eq_false, decide_false, Bool.or_self, beq_self_eq_true, Q9])
            | fail
        all_goals (exfalso; simp at h; done)
      · exact absurd hck hne
    · simp only [push_cast, Int.cast_ofNat_Int, reduceIte, Nat.reduceEqDiff, reduceCtorEq, Nat.reduceAdd, Nat.reduceSub, Nat.reduceMul, Int.reduceToNat, Nat.reduceLeDiff]
      repeat' first
          | refine EV.seq ?_
          | (refine EV.reg ?_; (conv => (arg 2; whnf)); simp only [push_cast, Int.cast_ofNat_Int, reduceIte, Nat.reduceEqDiff, reduceCtorEq, Nat.reduceAdd, Nat.reduceSub, Nat.reduceMul, Int.reduceToNat, Nat.reduceLeDiff])
          | (refine xr rfl (by simp only [List.length_cons, List.length_nil]; omega) ?_; try simp only [push_cast, Int.cast_ofNat_Int, reduceIte, Nat.reduceEqDiff, reduceCtorEq, Nat.reduceAdd, Nat.reduceSub, Nat.reduceMul, Int.reduceToNat, Nat.reduceLeDiff])
          | fail
      refine Con.callA (G1 := []) (ref_New_c ts _ (hs0.mono hM1) (by omega) (by omega)) (List.Perm.refl _) ?_
      rintro v M2 G2 hM2 h2
      rcases h2 with ⟨hne, _⟩ | ⟨_, xp, q, rfl, rfl, ok2, vs2, hrm2⟩
      · exact absurd hck hne
      have iv0 := new_inv hck (by omega) (show 10 < 1000000 by decide) (by decide)
      rw [← hvm] at iv0
      have sim0 : Sim p.vm q.rm := by rw [hvm, hrm2]; exact Sim.new _
      have bt : Both M2 mp xp p q 10 := ⟨ok, hpg.mono hM2, iv0, ok2, vs2, sim0⟩
      simp only [push_cast, Int.cast_ofNat_Int, reduceIte, Nat.reduceEqDiff, reduceCtorEq, Nat.reduceAdd, Nat.reduceSub, Nat.reduceMul, Int.reduceToNat, Nat.reduceLeDiff]
      obtain ⟨lb, hlb⟩ : ∃ x, x = b := ⟨_, rfl⟩
      subst hlb
      refine EV.permG ?_ (by exact List.Perm.refl ([(lb, _)] ++ (p.G mp ++ q.G xp)))
      refine EV.freeze ?_
      generalize hN : M2.add [(lb, Cl 24 [.slice a ts.length c])] = N
      have hMN : M2.le N := hN ▸ PHeap.le_add _ _
      have hrtN := ((hrt.mono hM1).mono hM2).mono hMN
      have hrmN := ((hrm.mono hM1).mono hM2).mono hMN
      have btN := bt.mono hMN
      clear hN bt
      repeat' first
          | refine EV.seq ?_
          | refine EV.skip ?_
          | refine EV.block ?_
          | (refine EV.reg ?_; (conv => (arg 2; whnf)); simp only [push_cast, Int.cast_ofNat_Int, reduceIte, Nat.reduceEqDiff, reduceCtorEq, Nat.reduceAdd, Nat.reduceSub, Nat.reduceMul, Int.reduceToNat, Nat.reduceLeDiff, ne_eq, not_true_eq_false, decide_false, decide_true, Bool.or_self, beq_self_eq_true, Option.isNone_some])
          | (refine condW.intro (fun hc => ?_) (fun hc => ?_) <;> try simp only [ne_eq, Bool.not_true, Bool.not_false, not_true_eq_false, not_false_eq_true, reduceCtorEq] at hc <;> try (exfalso; first | exact hc | omega | (simp at hc; done)))
          | ((refine EV.cond rfl (fun h => ?_) (fun h => ?_) <;> try simp only [reduceCtorEq, reduceIte, if_true, if_false, Bool.not_eq_true', Bool.not_eq_false', decide_eq_true_eq, decide_eq_false_iff_not, Bool.and_eq_true, Bool.or_eq_true, Bool.and_eq_false_iff, Bool.or_eq_false_iff] at h) <;> try (exfalso; first | exact h True.intro | (exact h; done) | omega | (simp only [not_true_eq_false, false_or, or_false] at h; omega)))
          | fail
      refine EV.to (ρ' := [(1, .slice ta turns.length tc), (2, .slice ma more.length mc), (7, pv mp 0), (9, pv xp 0), (11, vi (0 : Nat))]) (G' := p.G mp ++ q.G xp) ?_ ?env0 (List.Sublist.refl _)
      case env0 =>
        repeat' first
          | (refine List.forall_mem_cons.2 (And.intro ?_ ?_))
          | (intro _ hnil; cases hnil; done)
          | rfl
          | fail
      refine EV.loop (fun x : Nat × PHeap × PM × RP => ([(1, .slice ta turns.length tc), (2, .slice ma more.length mc), (7, pv mp 0), (9, pv xp 0), (11, vi x.1)], x.2.1, x.2.2.1.G mp ++ x.2.2.2.G xp))
        (fun x => x.1 ≤ turns.length ∧ N.le x.2.1 ∧ Both x.2.1 mp xp x.2.2.1 x.2.2.2 (10 + 2 * x.1)) (fun x => turns.length - x.1) (0, N, p, q) ⟨Nat.zero_le _, PHeap.le_refl _, btN⟩ ?_
      rintro ⟨i, Ni, p, q⟩ ⟨hi, hNi, bt⟩ ih
      dsimp only at hi hNi bt ih ⊢
      repeat' first
          | refine EV.seq ?_
          | refine EV.skip ?_
          | refine EV.block ?_
          | (refine EV.reg ?_; (conv => (arg 2; whnf)); simp only [push_cast, Int.cast_ofNat_Int, reduceIte, Nat.reduceEqDiff, reduceCtorEq, Nat.reduceAdd, Nat.reduceSub, Nat.reduceMul, Int.reduceToNat, Nat.reduceLeDiff])
          | ((refine EV.cond rfl (fun h => ?_) (fun h => ?_) <;> try simp only [reduceCtorEq, reduceIte, if_true, if_false, Bool.not_eq_true', Bool.not_eq_false', decide_eq_true_eq, decide_eq_false_iff_not, Bool.and_eq_true, Bool.or_eq_true, Bool.and_eq_false_iff, Bool.or_eq_false_iff] at h) <;> try (exfalso; first | exact h True.intro | (exact h; done) | omega | (simp only [not_true_eq_false, false_or, or_false] at h; omega)))
          | (refine EV.exit rfl ?_)
          | fail
      · have hi' : i < turns.length := by omega
        obtain ⟨tb, to, rfl, hat⟩ := Sl.at (enc := encTurn) (fun _ => rfl) (by omega) (hrtN.mono hNi) (by omega)
        have hr0 := (hat i hi').part' 0 1 (by omega) rfl
        have hr1 := (hat i hi').part' 1 1 (by omega) rfl
        refine EV.any (t := Q9_11) _ (List.nil_sublist _) ?_
        simp only [push_cast, Int.cast_ofNat_Int, reduceIte, Nat.reduceEqDiff, reduceCtorEq, Nat.reduceAdd, Nat.reduceSub, Nat.reduceMul, Int.reduceToNat, Nat.reduceLeDiff, Q9_11]
        repeat' first
            | (refine And.intro (by omega) ?_)
            | (refine Exists.intro _ (And.intro (rd_M (by assumption)) ?_); try simp only [push_cast, Int.cast_ofNat_Int, reduceIte, Nat.reduceEqDiff, reduceCtorEq, Nat.reduceAdd, Nat.reduceSub, Nat.reduceMul, Int.reduceToNat, Nat.reduceLeDiff])
            | fail
        refine Con.callB (Mr := Ni) (G2 := q.G xp) (view_Step_c p bt.ok bt.pg bt.iv.wf (by omega) _ _) (PHeap.le_add _ _) (List.Perm.refl _) ?_
        rintro v M3 G3 ⟨rfl, p2, rfl, ok3, hvm3, e1, e2⟩
        repeat' first
            | fail
        refine EV.any (t := Q9_12) _ (List.nil_sublist _) ?_
        simp only [push_cast, Int.cast_ofNat_Int, reduceIte, Nat.reduceEqDiff, reduceCtorEq, Nat.reduceAdd, Nat.reduceSub, Nat.reduceMul, Int.reduceToNat, Nat.reduceLeDiff, Q9_12]
        repeat' first
            | (refine And.intro (by omega) ?_)
            | (refine Exists.intro _ (And.intro (rd_M (by assumption)) ?_); try simp only [push_cast, Int.cast_ofNat_Int, reduceIte, Nat.reduceEqDiff, reduceCtorEq, Nat.reduceAdd, Nat.reduceSub, Nat.reduceMul, Int.reduceToNat, Nat.reduceLeDiff])
            | fail
        refine Con.callA (G2 := p2.G mp) (ref_Step_c q bt.ok2 bt.vs bt.rm (by omega) turns[i].1 turns[i].2) (List.Perm.refl _) ?_
        rintro v M4 G4 hM4 ⟨rfl, q2, rfl, ok4, vs4, hrm4, e3, e4⟩
        have bt2 := bt.step (by omega) ok3 hvm3 e1 e2 hM4 ok4 vs4 hrm4
        repeat' first
            | refine EV.inBlock ?_
            | (refine EV.reg ?_; (conv => (arg 2; whnf)); simp only [push_cast, Int.cast_ofNat_Int, reduceIte, Nat.reduceEqDiff, reduceCtorEq, Nat.reduceAdd, Nat.reduceSub, Nat.reduceMul, Int.reduceToNat, Nat.reduceLeDiff])
            | fail
        have he : 10 + 2 * (i + 1) = 10 + 2 * i + 2 := by omega
        refine EV.to (ih (i + 1, M4, p2, q2) ⟨by dsimp only; omega, PHeap.le_trans hNi hM4, by dsimp only; rw [he]; exact bt2⟩ (by dsimp only; omega)) ?_ (by (repeat' first | exact List.Sublist.refl _ | exact List.nil_sublist _ | exact List.sublist_append_left _ _ | refine List.Sublist.cons_cons _ ?_ | refine List.Sublist.append_left ?_ _ | refine List.sublist_append_of_sublist_right ?_ | refine List.Sublist.cons _ ?_))
        repeat' first
          | (refine List.forall_mem_cons.2 (And.intro ?_ ?_))
          | (intro _ hnil; cases hnil; done)
          | rfl
          | (refine env_w64 rfl (by first | rfl | (push_cast; first | rfl | omega)) (by omega) (by omega); done)
          | fail
      · have e : i = turns.length := by omega
        subst e
        repeat' first
            | fail
        refine Con.callB (Mr := Ni.add (p.G mp ++ q.G xp)) (G1 := []) (G2 := p.G mp ++ q.G xp) (view_Copy_c (PM.rdM bt.ok bt.pg (fun x hx => List.mem_append_left _ hx)) bt.iv.wf) (PHeap.le_refl _) (List.Perm.refl _) ?_
        rintro v1 M5 G5 ⟨cp, pc, F, rfl, rfl, okc, hvmc, hF⟩
        refine EV.permG ?_ (show ((p.G mp ++ q.G xp) ++ (pc.G cp ++ F)).Perm (F ++ (p.G mp ++ (q.G xp ++ pc.G cp))) from by
          rw [← List.append_assoc]
          refine List.perm_append_comm.trans ?_
          rw [List.append_assoc])
        refine EV.freeze ?_
        have hpc := hF Ni
        generalize hN2 : Ni.add F = N2 at hpc
        have hL : Ni.le N2 := hN2 ▸ PHeap.le_add _ _
        clear hN2
        have bt2 := bt.mono hL
        have bc : Both N2 cp xp pc q (10 + 2 * turns.length) := ⟨okc, hpc, hvmc.symm ▸ bt.iv, bt.ok2, bt2.vs, hvmc.symm ▸ bt.s⟩
        have hrm2 := (hrmN.mono hNi).mono hL
        have qa : ConQ Try.prog 19 #[pv cp 0, pv xp 0] (N2.add (p.G mp ++ (q.G xp ++ pc.G cp))) (vb true) := bc.alike (fun x hx => List.mem_append_right _ (List.mem_append_right _ hx)) (fun x hx => List.mem_append_right _ (List.mem_append_left _ hx))
        repeat' first
            | refine EV.seq ?_
            | refine EV.skip ?_
            | refine EV.block ?_
            | (refine EV.reg ?_; (conv => (arg 2; whnf)); simp only [push_cast, Int.cast_ofNat_Int, reduceIte, Nat.reduceEqDiff, reduceCtorEq, Nat.reduceAdd, Nat.reduceSub, Nat.reduceMul, Int.reduceToNat, Nat.reduceLeDiff, Option.isNone_some, Bool.not_true])
            | (refine ConQ.call (qa) ?_; try simp only [push_cast, Int.cast_ofNat_Int, reduceIte, Nat.reduceEqDiff, reduceCtorEq, Nat.reduceAdd, Nat.reduceSub, Nat.reduceMul, Int.reduceToNat, Nat.reduceLeDiff, Option.isNone_some, Bool.not_true])
            | (refine condW.intro (fun hc => ?_) (fun hc => ?_) <;> try simp only [ne_eq, Bool.not_true, Bool.not_false, not_true_eq_false, not_false_eq_true, reduceCtorEq] at hc <;> try (exfalso; first | exact hc | omega | (simp at hc; done)))
            | ((refine EV.cond rfl (fun h => ?_) (fun h => ?_) <;> try simp only [reduceCtorEq, reduceIte, if_true, if_false, Bool.not_eq_true', Bool.not_eq_false', decide_eq_true_eq, decide_eq_false_iff_not, Bool.and_eq_true, Bool.or_eq_true, Bool.and_eq_false_iff, Bool.or_eq_false_iff] at h) <;> try (exfalso; first | exact h True.intro | (exact h; done) | omega | (simp only [not_true_eq_false, false_or, or_false] at h; omega)))
            | fail
        refine EV.to (ρ' := [(2, .slice ma more.length mc), (7, pv mp 0), (9, pv xp 0), (12, pv cp 0), (13, vi (0 : Nat))]) (G' := p.G mp ++ (q.G xp ++ pc.G cp)) ?_ ?env1 (List.Sublist.refl _)
        case env1 =>
          repeat' first
            | (refine List.forall_mem_cons.2 (And.intro ?_ ?_))
            | (intro _ hnil; cases hnil; done)
            | rfl
            | fail
        refine EV.loop (fun x : Nat × PM => ([(2, .slice ma more.length mc), (7, pv mp 0), (9, pv xp 0), (12, pv cp 0), (13, vi x.1)], N2, p.G mp ++ (q.G xp ++ x.2.G cp)))
          (fun x => x.1 ≤ more.length ∧ Alone N2 x.2 (10 + 2 * turns.length + 2 * x.1) ∧ x.2.vm = runs p.vm (more.take x.1)) (fun x => more.length - x.1) (0, pc) ⟨Nat.zero_le _, ⟨bc.ok, bc.pg, bc.iv⟩, hvmc⟩ ?_
        rintro ⟨j, pj⟩ ⟨hj, al, hvj⟩ ih2
        dsimp only at hj al hvj ih2 ⊢
        have qa : ConQ Try.prog 19 #[pv mp 0, pv xp 0] (N2.add (p.G mp ++ (q.G xp ++ pj.G cp))) (vb true) := bt2.alike (fun x hx => List.mem_append_left _ hx) (fun x hx => List.mem_append_right _ (List.mem_append_left _ hx))
        repeat' first
            | refine EV.seq ?_
            | refine EV.skip ?_
            | refine EV.block ?_
            | (refine EV.reg ?_; (conv => (arg 2; whnf)); simp only [push_cast, Int.cast_ofNat_Int, reduceIte, Nat.reduceEqDiff, reduceCtorEq, Nat.reduceAdd, Nat.reduceSub, Nat.reduceMul, Int.reduceToNat, Nat.reduceLeDiff, Bool.not_true])
            | (refine ConQ.call (qa) ?_; try simp only [push_cast, Int.cast_ofNat_Int, reduceIte, Nat.reduceEqDiff, reduceCtorEq, Nat.reduceAdd, Nat.reduceSub, Nat.reduceMul, Int.reduceToNat, Nat.reduceLeDiff, Bool.not_true])
            | ((refine EV.cond rfl (fun h => ?_) (fun h => ?_) <;> try simp only [reduceCtorEq, reduceIte, if_true, if_false, Bool.not_eq_true', Bool.not_eq_false', decide_eq_true_eq, decide_eq_false_iff_not, Bool.and_eq_true, Bool.or_eq_true, Bool.and_eq_false_iff, Bool.or_eq_false_iff] at h) <;> try (exfalso; first | exact h True.intro | (exact h; done) | omega | (simp only [not_true_eq_false, false_or, or_false] at h; omega)))
            | (refine EV.exit rfl ?_)
            | fail
        · have hj' : j < more.length := by omega
          obtain ⟨mb, mo, rfl, hat⟩ := Sl.at (enc := encTurn) (fun _ => rfl) (by omega) hrm2 (by omega)
          have hr0 := (hat j hj').part' 0 1 (by omega) rfl
          have hr1 := (hat j hj').part' 1 1 (by omega) rfl
          refine EV.any (t := Q9_19) _ (List.nil_sublist _) ?_
          simp only [push_cast, Int.cast_ofNat_Int, reduceIte, Nat.reduceEqDiff, reduceCtorEq, Nat.reduceAdd, Nat.reduceSub, Nat.reduceMul, Int.reduceToNat, Nat.reduceLeDiff, Q9_19]
          repeat' first
              | (refine And.intro (by omega) ?_)
              | (refine Exists.intro _ (And.intro (rd_M (by assumption)) ?_); try simp only [push_cast, Int.cast_ofNat_Int, reduceIte, Nat.reduceEqDiff, reduceCtorEq, Nat.reduceAdd, Nat.reduceSub, Nat.reduceMul, Int.reduceToNat, Nat.reduceLeDiff])
              | fail
          refine Con.callB (Mr := N2) (G1 := pj.G cp) (G2 := p.G mp ++ q.G xp) (view_Step_c pj al.ok al.pg al.iv.wf (by omega) _ _) (PHeap.le_add _ _) (by exact cat_pull [p.G mp, q.G xp, pj.G cp] 2 (by simp)) ?_
          rintro v3 M3 G3 ⟨rfl, pj2, rfl, ok3, hvm3, e1, e2⟩
          have al2 := al.step (by omega) ok3 hvm3 e1 e2
          rw [List.append_assoc]
          repeat' first
              | refine EV.inBlock ?_
              | (refine EV.reg ?_; (conv => (arg 2; whnf)); simp only [push_cast, Int.cast_ofNat_Int, reduceIte, Nat.reduceEqDiff, reduceCtorEq, Nat.reduceAdd, Nat.reduceSub, Nat.reduceMul, Int.reduceToNat, Nat.reduceLeDiff])
              | fail
          have he : 10 + 2 * turns.length + 2 * (j + 1) = 10 + 2 * turns.length + 2 * j + 2 := by omega
          refine EV.to (ih2 (j + 1, pj2) ⟨by dsimp only; omega, by dsimp only; rw [he]; exact al2, by dsimp only; rw [hvm3, hvj, runs_take _ hj']⟩ (by dsimp only; omega)) ?_ (by (repeat' first | exact List.Sublist.refl _ | exact List.nil_sublist _ | exact List.sublist_append_left _ _ | refine List.Sublist.cons_cons _ ?_ | refine List.Sublist.append_left ?_ _ | refine List.sublist_append_of_sublist_right ?_ | refine List.Sublist.cons _ ?_))
          repeat' first
            | (refine List.forall_mem_cons.2 (And.intro ?_ ?_))
            | (intro _ hnil; cases hnil; done)
            | rfl
            | (refine env_w64 rfl (by first | rfl | (push_cast; first | rfl | omega)) (by omega) (by omega); done)
            | fail
        · have e : j = more.length := by omega
          subst e
          refine EV.to (ρ' := [(2, .slice ma more.length mc), (7, pv mp 0), (9, pv xp 0), (12, pv cp 0), (14, vi (0 : Nat))]) (G' := p.G mp ++ (q.G xp ++ pj.G cp)) ?_ ?env2 (List.Sublist.refl _)
          case env2 =>
            repeat' first
              | (refine List.forall_mem_cons.2 (And.intro ?_ ?_))
              | (intro _ hnil; cases hnil; done)
              | rfl
              | fail
          refine EV.loop (fun x : Nat × PHeap × PM × RP => ([(2, .slice ma more.length mc), (7, pv mp 0), (9, pv xp 0), (12, pv cp 0), (14, vi x.1)], x.2.1, x.2.2.1.G mp ++ (x.2.2.2.G xp ++ pj.G cp)))
            (fun x => x.1 ≤ more.length ∧ N2.le x.2.1 ∧ Both x.2.1 mp xp x.2.2.1 x.2.2.2 (10 + 2 * turns.length + 2 * x.1) ∧ x.2.2.1.vm = runs p.vm (more.take x.1)) (fun x => more.length - x.1) (0, N2, p, q) ⟨Nat.zero_le _, PHeap.le_refl _, bt2, rfl⟩ ?_
          rintro ⟨k, Nk, p3, q3⟩ ⟨hk, hNk, bt3, hv3⟩ ih3
          dsimp only at hk hNk bt3 hv3 ih3 ⊢
          by_cases hkl : k < more.length
          · obtain ⟨mb, mo, rfl, hat⟩ := Sl.at (enc := encTurn) (fun _ => rfl) (by omega) (hrm2.mono hNk) (by omega)
            have hr0 := (hat k hkl).part' 0 1 (by omega) rfl
            have hr1 := (hat k hkl).part' 1 1 (by omega) rfl
            have hkl1 : ((k : Int) < (more.length : Int)) = True := eq_true (by omega)
            repeat' first
                | refine EV.seq ?_
                | refine EV.skip ?_
                | refine EV.block ?_
                | (refine EV.reg ?_; (conv => (arg 2; whnf)); simp only [push_cast, Int.cast_ofNat_Int, reduceIte, Nat.reduceEqDiff, reduceCtorEq, Nat.reduceAdd, Nat.reduceSub, Nat.reduceMul, Int.reduceToNat, Nat.reduceLeDiff])
                | ((refine EV.cond rfl (fun h => ?_) (fun h => ?_) <;> try simp only [reduceCtorEq, reduceIte, if_true, if_false, Bool.not_eq_true', Bool.not_eq_false', decide_eq_true_eq, decide_eq_false_iff_not, Bool.and_eq_true, Bool.or_eq_true, Bool.and_eq_false_iff, Bool.or_eq_false_iff] at h) <;> try (exfalso; first | exact h True.intro | (exact h; done) | omega | (simp only [not_true_eq_false, false_or, or_false] at h; omega)))
                | fail
            refine EV.any (t := Q9_25) _ (List.nil_sublist _) ?_
            simp only [push_cast, Int.cast_ofNat_Int, reduceIte, Nat.reduceEqDiff, reduceCtorEq, Nat.reduceAdd, Nat.reduceSub, Nat.reduceMul, Int.reduceToNat, Nat.reduceLeDiff, Q9_25]
            repeat' first
                | (refine And.intro (by omega) ?_)
                | (refine Exists.intro _ (And.intro (rd_M (by assumption)) ?_); try simp only [push_cast, Int.cast_ofNat_Int, reduceIte, Nat.reduceEqDiff, reduceCtorEq, Nat.reduceAdd, Nat.reduceSub, Nat.reduceMul, Int.reduceToNat, Nat.reduceLeDiff])
                | fail
            refine Con.callB (Mr := Nk) (G1 := p3.G mp) (G2 := q3.G xp ++ pj.G cp) (view_Step_c p3 bt3.ok bt3.pg bt3.iv.wf (by omega) _ _) (PHeap.le_add _ _) (List.Perm.refl _) ?_
            rintro v4 M4 G4 ⟨rfl, p4, rfl, ok4, hvm4, e1, e2⟩
            rw [List.append_assoc]
            repeat' first
                | fail
            refine EV.any (t := Q9_26) _ (List.nil_sublist _) ?_
            simp only [push_cast, Int.cast_ofNat_Int, reduceIte, Nat.reduceEqDiff, reduceCtorEq, Nat.reduceAdd, Nat.reduceSub, Nat.reduceMul, Int.reduceToNat, Nat.reduceLeDiff, Q9_26]
            repeat' first
                | (refine And.intro (by omega) ?_)
                | (refine Exists.intro _ (And.intro (rd_M (by assumption)) ?_); try simp only [push_cast, Int.cast_ofNat_Int, reduceIte, Nat.reduceEqDiff, reduceCtorEq, Nat.reduceAdd, Nat.reduceSub, Nat.reduceMul, Int.reduceToNat, Nat.reduceLeDiff])
                | fail
            refine Con.callA (G1 := q3.G xp) (G2 := pj.G cp ++ p4.G mp) (ref_Step_c q3 bt3.ok2 bt3.vs bt3.rm (by omega) more[k].1 more[k].2) (List.Perm.refl _) ?_
            rintro v5 M5 G5 hM5 ⟨rfl, q4, rfl, ok5, vs5, hrm5, e3, e4⟩
            have bt4 := bt3.step (by omega) ok4 hvm4 e1 e2 hM5 ok5 vs5 hrm5
            refine EV.permG ?_ (show ((pj.G cp ++ p4.G mp) ++ q4.G xp).Perm (p4.G mp ++ (q4.G xp ++ pj.G cp)) from by
              rw [List.append_assoc, ← List.append_assoc (p4.G mp)]
              exact List.perm_append_comm)
            repeat' first
                | refine EV.inBlock ?_
                | (refine EV.reg ?_; (conv => (arg 2; whnf)); simp only [push_cast, Int.cast_ofNat_Int, reduceIte, Nat.reduceEqDiff, reduceCtorEq, Nat.reduceAdd, Nat.reduceSub, Nat.reduceMul, Int.reduceToNat, Nat.reduceLeDiff])
                | fail
            have he : 10 + 2 * turns.length + 2 * (k + 1) = 10 + 2 * turns.length + 2 * k + 2 := by omega
            refine EV.to (ih3 (k + 1, M5, p4, q4) ⟨by dsimp only; omega, PHeap.le_trans hNk hM5, by dsimp only; rw [he]; exact bt4, by dsimp only; rw [hvm4, hv3, runs_take _ hkl]⟩ (by dsimp only; omega)) ?_ (by (repeat' first | exact List.Sublist.refl _ | exact List.nil_sublist _ | exact List.sublist_append_left _ _ | refine List.Sublist.cons_cons _ ?_ | refine List.Sublist.append_left ?_ _ | refine List.sublist_append_of_sublist_right ?_ | refine List.Sublist.cons _ ?_))
            repeat' first
              | (refine List.forall_mem_cons.2 (And.intro ?_ ?_))
              | (intro _ hnil; cases hnil; done)
              | rfl
              | (refine env_w64 rfl (by first | rfl | (push_cast; first | rfl | omega)) (by omega) (by omega); done)
              | fail
          · have e : k = more.length := by omega
            subst e
            have hsame : pj.vm = p3.vm := hvj.trans hv3.symm
            have bc3 : Both Nk cp xp pj q3 (10 + 2 * turns.length + 2 * more.length) := ⟨al.ok, al.pg.mono hNk, al.iv, bt3.ok2, bt3.vs, hsame ▸ bt3.s⟩
            have qa : ConQ Try.prog 19 #[pv mp 0, pv xp 0] (Nk.add (p3.G mp ++ (q3.G xp ++ pj.G cp))) (vb true) := bt3.alike (fun x hx => List.mem_append_left _ hx) (fun x hx => List.mem_append_right _ (List.mem_append_left _ hx))
            have qb : ConQ Try.prog 19 #[pv cp 0, pv xp 0] (Nk.add (p3.G mp ++ (q3.G xp ++ pj.G cp))) (vb true) := bc3.alike (fun x hx => List.mem_append_right _ (List.mem_append_right _ hx)) (fun x hx => List.mem_append_right _ (List.mem_append_left _ hx))
            repeat' first
                | refine EV.seq ?_
                | (refine EV.reg ?_; (conv => (arg 2; whnf)); simp only [push_cast, Int.cast_ofNat_Int, reduceIte, Nat.reduceEqDiff, reduceCtorEq, Nat.reduceAdd, Nat.reduceSub, Nat.reduceMul, Int.reduceToNat, Nat.reduceLeDiff, Bool.not_true, Bool.and_self, Bool.and_true])
                | ((first | with_reducible refine ConQ.call (sane_q) ?_ | with_reducible refine ConQ.call (qb) ?_ | with_reducible refine ConQ.call (qa) ?_ | fail); try simp only [push_cast, Int.cast_ofNat_Int, reduceIte, Nat.reduceEqDiff, reduceCtorEq, Nat.reduceAdd, Nat.reduceSub, Nat.reduceMul, Int.reduceToNat, Nat.reduceLeDiff, Bool.not_true, Bool.and_self, Bool.and_true])
                | (refine condW.intro (fun hc => ?_) (fun hc => ?_) <;> try simp only [ne_eq, Bool.not_true, Bool.not_false, not_true_eq_false, not_false_eq_true, reduceCtorEq] at hc <;> try (exfalso; first | exact hc | omega | (simp at hc; done)))
                | ((refine EV.cond rfl (fun h => ?_) (fun h => ?_) <;> try simp only [reduceCtorEq, reduceIte, if_true, if_false, Bool.not_eq_true', Bool.not_eq_false', decide_eq_true_eq, decide_eq_false_iff_not, Bool.and_eq_true, Bool.or_eq_true, Bool.and_eq_false_iff, Bool.or_eq_false_iff] at h) <;> try (exfalso; first | exact h True.intro | (exact h; done) | omega | (simp only [not_true_eq_false, false_or, or_false] at h; omega)))
                | (refine EV.exit rfl ?_)
                | fail
            refine EV.ret Q9_ok ?_
            simp only [push_cast, Int.cast_ofNat_Int, reduceIte, Nat.reduceEqDiff, reduceCtorEq, Nat.reduceAdd, Nat.reduceSub, Nat.reduceMul, Int.reduceToNat, Nat.reduceLeDiff, Q9]

end
end Go.EV

namespace Go.Proofs.Ytlcpcmdgpchgbaa.viewCopies
open Go.ChangeShapes Go.WideShapes Go.ChangeAt Go.RowKit Go.EV
set_option linter.unusedVariables false

theorem own : ownKnob Try.prog.godebug = none := by kernel_rfl

set_option maxRecDepth 100000 in
theorem lifted (os : Os) (started : os.Started) (H : Type) (enc : TypeId × Value → H) :
    ReturnsInHanded {} Try.checked os 6 .any (Rows.viewCopiesSpec.pre6 enc Try.prog Try.f6 Rows.viewCopiesRow.domain false) (Rows.viewCopiesSpec.post enc Try.prog Try.f6 false true false false) := by
  refine returnsInHanded_of_change_shaped (C := Try.checked) own started (by kernel_rfl) Try.func6
    (ChangeSpec.witness6 (enc := enc) (C := Try.checked) false ⟨#[], #[.agg #[.slice none 0 0], .slice none 0 0, .slice none 0 0], []⟩ 8 (by kernel_rfl) (by kernel_rfl) (by kernel_rfl) (by kernel_rfl)) ?_
  intro W base args ds gs before hval0 hW hcnd hwt _ _
  have hval : ∀ (j : Nat) t v, Try.f6.params[j]? = some t → args[j]? = some v → Value.okWide Try.prog W .any base t v := hval0
  have hW' := hW
  obtain ⟨p, q, hA0, hV, rfl, hfz, hnd⟩ := hW
  have hA : DataW.TrodAll enc Try.prog W 0 (fun _ => true) true Try.f6.params.toList args.toList ds p := hA0
  have hA1 := hA
  rw [Try.params6] at hA hval
  obtain ⟨v0, vs0, d0, ds0, p0, q0, hargs, rfl, rfl, h0, r0⟩ := trodAll_cons hA
  obtain ⟨v1, vs1, d1, ds1, p1, q1, rfl, rfl, rfl, h1, r1⟩ := trodAll_cons r0
  obtain ⟨v2, vs2, d2, ds2, p2, q2, rfl, rfl, rfl, h2, r2⟩ := trodAll_cons r1
  obtain ⟨rfl, rfl, rfl⟩ := trodAll_nil r2
  obtain rfl : args = #[v0, v1, v2] := by cases args; simp_all
  obtain ⟨rfl, rfl⟩ := trodVars_none hV
  have k0 := hval 0 24 v0 rfl rfl
  have k1 := hval 1 25 v1 rfl rfl
  have k2 := hval 2 25 v2 rfl rfl
  simp only [Value.okWide, Try.underlying24] at k0
  obtain ⟨cs0, rfl, _, _⟩ := k0
  obtain ⟨a1, n1, c1, rfl⟩ := okWide_slice Try.underlying25 k1
  obtain ⟨a2, n2, c2, rfl⟩ := okWide_slice Try.underlying25 k2
  obtain ⟨m0, h0⟩ := h0
  obtain ⟨m1, h1⟩ := h1
  obtain ⟨m2, h2⟩ := h2
  have hwt2 : (DataW.weightsEach Try.prog [24, 25, 25] [d0, d1, d2]).all (· ≤ reachBytes) = true := hwt
  simp only [DataW.weightsEach, List.all_append, Bool.and_eq_true] at hwt2
  obtain ⟨hw0, hw1, hw2, _⟩ := hwt2
  obtain ⟨s, ts, hcs, hs, hb, hb2⟩ := litmus_in h0 hw0
  obtain ⟨turns, a, c, htv, hrt, hbt, _⟩ := slice_in (e' := encTurn) (Q := fun _ => True) Try.underlying25 cells_two (by decide) bytes_two (fun _ => rfl) h1 hw1 (fun m cs y hy _ => turn_in hy)
  obtain ⟨more, a3, c3, hmv, hrm, hbm, _⟩ := slice_in (e' := encTurn) (Q := fun _ => True) Try.underlying25 cells_two (by decide) bytes_two (fun _ => rfl) h2 hw2 (fun m cs y hy _ => turn_in hy)
  have hcs2 : cs0 = #[s] := by
    have : cs0.toList = [s] := hcs
    exact Array.ext' this
  subst hcs2
  have hrb : reachBytes ≤ 140737488355328 := by decide
  refine (Con.at2 (ViewCopies_q ts s hs (by omega) (fun t ht => Nat.le_trans (hb2 t ht) hrb) turns _ ⟨a, c, htv, hrt⟩ (by omega) more _ ⟨a3, c3, hmv, hrm⟩ (by omega))).mono fun e W' hX => ?_
  obtain ⟨v, rfl, ⟨_, _, rfl⟩, hk, hfr⟩ := hX
  have hlt := hW'.lt
  exact ⟨_, rfl, post_of_kept (pv := []) hW' (fun _ _ _ => (trodAll_cons_mk (shut_bool Try.underlying4 _) trodAll_mk0)) (fun sp hsp => trodAll_kept kids rows_pos' hfr (by rw [Try.params6]; exact of_decide_eq_true (by kernel_rfl)) hA1 (fun r hr => hlt r (by simpa using hr)) (fun r hr => hsp r (by simpa using hr))) (fun _ _ => rfl) rfl hk⟩

theorem over : Rows.viewCopiesRow.holds Try.pinned (OpenSpec.ofChange Rows.viewCopiesSpec) :=
  OpenClaim.holds_of_wide 6 Try.f6 rfl rfl rfl rfl rfl rfl rfl ⟨rfl, rfl, rfl, rfl, rfl⟩ rfl rfl rfl rfl rfl (by kernel_rfl) Try.func6 (by kernel_rfl)
    (of_decide_eq_true (by kernel_rfl)) (by unfold Func.isWrapper; first | (rw [if_pos (by decide +kernel)]; kernel_rfl) | (rw [if_neg (by decide +kernel)]; exact ⟨rfl, rfl⟩))
    (fun os started H enc _ => lifted os started H enc)

/-- The statement. -/
theorem proved : Rows.ViewCopiesSaid :=
  over
#print axioms proved
end Go.Proofs.Ytlcpcmdgpchgbaa.viewCopies
