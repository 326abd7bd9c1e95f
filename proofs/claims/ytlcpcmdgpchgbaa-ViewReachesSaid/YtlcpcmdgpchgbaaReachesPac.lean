/- litmus.Check. litmus.strongFence, litmus.Expand$1. Nothing of its own. litmus.rebuilt, litmus.Expand. litmus.Expand. The machine of views, as plain functions. A machine of views in memory, as it is read. What a machine of views tells: place, join. What a machine of views tells: turn, choices. -/
import Derived.Test.YtlcpcmdgpchgbaaReachesPab
set_option linter.unusedSimpArgs false
set_option linter.unusedVariables false
namespace Go.EV
open Go.Proofs
section
variable {M : PHeap}

def okOp (o : OpV) : Bool := mayR o.kind o.ord && mayP o.kind o.ord && fitsP o
def checkP (ts : List (List OpV)) : Int := if limitsP ts = false then 2 else if ts.length = 0 then 1 else if ts.flatten.all okOp = true then 0 else 1

theorem okOp_iff (o : OpV) : okOp o = true ↔ mayR o.kind o.ord = true ∧ mayP o.kind o.ord = true ∧ fitsP o = true := by
  simp [okOp, and_assoc]

set_option maxHeartbeats 4000000 in
theorem litmus_Check_q (ts : List (List OpV)) (s : Value) (hs : SlSl M 5 encOp s ts) (hb : ts.flatten.length < 1000000) (hb' : ts.length < 1000000) : ConQ Try.prog 59 #[.agg #[s]] M (vi (checkP ts)) := by
  have hlim := fun G => litmus_limits_q (M := M.add G) ts s (hs.mono (PHeap.le_add _ _)) hb hb'
  obtain ⟨a, c, vs, rfl, hl, hrd, hk⟩ := hs
  refine Con.enter R_litmus_Check_ok (args := [.agg #[.slice a ts.length c]]) (by simp [R_litmus_Check]) fun w0 => ?_
  simp only [R_litmus_Check, argE]
  repeat' first
      | refine EV.seq ?_
      | refine EV.skip ?_
      | refine EV.block ?_
      | refine EV.inBlock ?_
      | (refine EV.reg ?_; (conv => (arg 2; whnf)); simp only [push_cast, reduceIte, Nat.reduceEqDiff, reduceCtorEq, Nat.reduceAdd, Nat.reduceSub, Nat.reduceMul, Int.reduceToNat, Nat.reduceLeDiff])
      | (refine EV.any _ (List.Sublist.refl _) ?_; (conv => (arg 2; whnf)); simp only [push_cast, reduceIte, Nat.reduceEqDiff, reduceCtorEq, Nat.reduceAdd, Nat.reduceSub, Nat.reduceMul, Int.reduceToNat, Nat.reduceLeDiff])
      | (refine ConQ.call (hlim _) ?_; try simp only [push_cast, reduceIte, Nat.reduceEqDiff, reduceCtorEq, Nat.reduceAdd, Nat.reduceSub, Nat.reduceMul, Int.reduceToNat, Nat.reduceLeDiff])
      | (refine Exists.intro _ (And.intro (hlim _) ?_); try simp only [push_cast, reduceIte, Nat.reduceEqDiff, reduceCtorEq, Nat.reduceAdd, Nat.reduceSub, Nat.reduceMul, Int.reduceToNat, Nat.reduceLeDiff])
      | assumption
      | (refine condW.merge ?_ (fun hc K' hK => ?_) ?_; rotate_left)
      | (refine condQ.mk ?_ (fun hc => ?_) ?_; rotate_left; (try simp only [decide_eq_true_eq, decide_eq_false_iff_not, Bool.not_eq_true', Bool.not_eq_false', Bool.and_eq_true, Bool.or_eq_true, Bool.and_eq_false_iff, Bool.or_eq_false_iff] at hc))
      | (with_reducible rfl)
      | ((refine EV.cond rfl (fun h => ?_) (fun h => ?_) <;> try simp only [reduceCtorEq, reduceIte, if_true, if_false, Bool.not_eq_true', Bool.not_eq_false', decide_eq_true_eq, decide_eq_false_iff_not, Bool.and_eq_true, Bool.or_eq_true, Bool.and_eq_false_iff, Bool.or_eq_false_iff] at h) <;> try (exfalso; first | exact h True.intro | (exact h; done) | omega))
      | (refine EV.exit rfl ?_)
      | (refine EV.ret R_litmus_Check_ok ?_; simp only [push_cast, reduceIte, Nat.reduceEqDiff, reduceCtorEq, Nat.reduceAdd, Nat.reduceSub, Nat.reduceMul, Int.reduceToNat, Nat.reduceLeDiff, R_litmus_Check])
      | (with_reducible intro b; try simp only [push_cast, reduceIte, Nat.reduceEqDiff, reduceCtorEq, Nat.reduceAdd, Nat.reduceSub, Nat.reduceMul, Int.reduceToNat, Nat.reduceLeDiff])
      | with_reducible intro b
      | (refine And.intro (by omega) ?_)
      | (refine Exists.intro _ (And.intro (rd_M (by assumption)) ?_); try simp only [push_cast, reduceIte, Nat.reduceEqDiff, reduceCtorEq, Nat.reduceAdd, Nat.reduceSub, Nat.reduceMul, Int.reduceToNat, Nat.reduceLeDiff])
      | (refine Exists.intro _ (Exists.intro _ (Exists.intro _ (And.intro (rd_M (by assumption)) ?_))); try simp only [push_cast, reduceIte, Nat.reduceEqDiff, reduceCtorEq, Nat.reduceAdd, Nat.reduceSub, Nat.reduceMul, Int.reduceToNat, Nat.reduceLeDiff])
      | (refine Exists.intro _ (And.intro (by assumption) ?_); try simp only [push_cast, reduceIte, Nat.reduceEqDiff, reduceCtorEq, Nat.reduceAdd, Nat.reduceSub, Nat.reduceMul, Int.reduceToNat, Nat.reduceLeDiff])
      | (refine Exists.intro _ (Exists.intro _ (Exists.intro _ (And.intro (by assumption) ?_))); try simp only [push_cast, reduceIte, Nat.reduceEqDiff, reduceCtorEq, Nat.reduceAdd, Nat.reduceSub, Nat.reduceMul, Int.reduceToNat, Nat.reduceLeDiff])
      | (refine xr rfl (by simp only [List.length_cons, List.length_nil]; omega) ?_; try simp only [push_cast, reduceIte, Nat.reduceEqDiff, reduceCtorEq, Nat.reduceAdd, Nat.reduceSub, Nat.reduceMul, Int.reduceToNat, Nat.reduceLeDiff])
      | (refine xi rfl (by simp only [List.length_cons, List.length_nil]; omega) ?_; try simp only [push_cast, reduceIte, Nat.reduceEqDiff, reduceCtorEq, Nat.reduceAdd, Nat.reduceSub, Nat.reduceMul, Int.reduceToNat, Nat.reduceLeDiff])
      | (refine xs rfl (by simp only [List.length_cons, List.length_nil]; omega) ?_; try simp only [push_cast, reduceIte, Nat.reduceEqDiff, reduceCtorEq, Nat.reduceAdd, Nat.reduceSub, Nat.reduceMul, Int.reduceToNat, Nat.reduceLeDiff])
      | (refine xw ?_; simp only [push_cast, reduceIte, Nat.reduceEqDiff, reduceCtorEq, Nat.reduceAdd, Nat.reduceSub, Nat.reduceMul, Int.reduceToNat, Nat.reduceLeDiff])
      | (refine And.intro (PHeap.le_refl _) (And.intro (fun p hp => hp) ?_))
      | (refine And.intro (PHeap.le_refl _) (And.intro (fun p hp => List.mem_cons_of_mem _ hp) ?_))
      | (refine And.intro (PHeap.le_refl _) (And.intro (fun p hp => List.mem_cons_of_mem _ (List.mem_cons_of_mem _ hp)) ?_))
      | (refine And.intro (PHeap.le_refl _) (And.intro (mem_of_sub ?_) ?_); focus ((repeat' first | exact List.Sublist.refl _ | exact List.nil_sublist _ | exact List.sublist_append_left _ _ | refine List.Sublist.cons_cons _ ?_ | refine List.Sublist.append_left ?_ _ | refine List.sublist_append_of_sublist_right ?_ | refine List.Sublist.cons _ ?_); done); try simp only [push_cast, reduceIte, Nat.reduceEqDiff, reduceCtorEq, Nat.reduceAdd, Nat.reduceSub, Nat.reduceMul, Int.reduceToNat, Nat.reduceLeDiff])
      | (exfalso; simp at hc; done)
      | (exfalso; omega)
      | exact false
      | fail "stuck"
  · simp [checkP, h]
  · rename_i h1
    have : ts.length = 0 := by omega
    simp [checkP, this, h1]
  rename_i h1
  refine EV.to (ρ' := [(17, .slice a ts.length c), (18, vi ts.length), (19, vi (0 : Nat))]) (G' := []) ?_ (by simp (disch := omega) only [List.forall_mem_cons, List.not_mem_nil, false_implies, implies_true, and_true, true_and, get_cons, get_nil, reduceIte, Nat.reduceEqDiff, Option.some.injEq, Value.int.injEq, w64, Int.natCast_add, Int.natCast_one, Int.cast_ofNat_Int, Int.natCast_zero]) (by simp)
  refine EV.loop (fun i : Nat => ([(17, .slice a ts.length c), (18, vi ts.length), (19, vi i)], M, [])) (fun i => i ≤ ts.length ∧ (ts.take i).flatten.all okOp = true) (fun i => ts.length - i) 0 (by simp) ?_
  intro i ⟨hi, hok⟩ ih
  dsimp only at ih ⊢
  repeat' first
      | refine EV.seq ?_
      | refine EV.skip ?_
      | refine EV.block ?_
      | refine EV.inBlock ?_
      | (refine EV.reg ?_; (conv => (arg 2; whnf)); simp only [push_cast, reduceIte, Nat.reduceEqDiff, reduceCtorEq, Nat.reduceAdd, Nat.reduceSub, Nat.reduceMul, Int.reduceToNat, Nat.reduceLeDiff])
      | (refine EV.any _ (List.Sublist.refl _) ?_; (conv => (arg 2; whnf)); simp only [push_cast, reduceIte, Nat.reduceEqDiff, reduceCtorEq, Nat.reduceAdd, Nat.reduceSub, Nat.reduceMul, Int.reduceToNat, Nat.reduceLeDiff])
      | assumption
      | (refine condW.merge ?_ (fun hc K' hK => ?_) ?_; rotate_left)
      | (refine condQ.mk ?_ (fun hc => ?_) ?_; rotate_left; (try simp only [decide_eq_true_eq, decide_eq_false_iff_not, Bool.not_eq_true', Bool.not_eq_false', Bool.and_eq_true, Bool.or_eq_true, Bool.and_eq_false_iff, Bool.or_eq_false_iff] at hc))
      | (with_reducible rfl)
      | ((refine EV.cond rfl (fun h => ?_) (fun h => ?_) <;> try simp only [reduceCtorEq, reduceIte, if_true, if_false, Bool.not_eq_true', Bool.not_eq_false', decide_eq_true_eq, decide_eq_false_iff_not, Bool.and_eq_true, Bool.or_eq_true, Bool.and_eq_false_iff, Bool.or_eq_false_iff] at h) <;> try (exfalso; first | exact h True.intro | (exact h; done) | omega))
      | (refine EV.exit rfl ?_)
      | (refine EV.ret R_litmus_Check_ok ?_; simp only [push_cast, reduceIte, Nat.reduceEqDiff, reduceCtorEq, Nat.reduceAdd, Nat.reduceSub, Nat.reduceMul, Int.reduceToNat, Nat.reduceLeDiff, R_litmus_Check])
      | (with_reducible intro b; try simp only [push_cast, reduceIte, Nat.reduceEqDiff, reduceCtorEq, Nat.reduceAdd, Nat.reduceSub, Nat.reduceMul, Int.reduceToNat, Nat.reduceLeDiff])
      | with_reducible intro b
      | (refine And.intro (by omega) ?_)
      | (refine Exists.intro _ (And.intro (rd_M (by assumption)) ?_); try simp only [push_cast, reduceIte, Nat.reduceEqDiff, reduceCtorEq, Nat.reduceAdd, Nat.reduceSub, Nat.reduceMul, Int.reduceToNat, Nat.reduceLeDiff])
      | (refine Exists.intro _ (Exists.intro _ (Exists.intro _ (And.intro (rd_M (by assumption)) ?_))); try simp only [push_cast, reduceIte, Nat.reduceEqDiff, reduceCtorEq, Nat.reduceAdd, Nat.reduceSub, Nat.reduceMul, Int.reduceToNat, Nat.reduceLeDiff])
      | (refine Exists.intro _ (And.intro (by assumption) ?_); try simp only [push_cast, reduceIte, Nat.reduceEqDiff, reduceCtorEq, Nat.reduceAdd, Nat.reduceSub, Nat.reduceMul, Int.reduceToNat, Nat.reduceLeDiff])
      | (refine Exists.intro _ (Exists.intro _ (Exists.intro _ (And.intro (by assumption) ?_))); try simp only [push_cast, reduceIte, Nat.reduceEqDiff, reduceCtorEq, Nat.reduceAdd, Nat.reduceSub, Nat.reduceMul, Int.reduceToNat, Nat.reduceLeDiff])
      | (refine xr rfl (by simp only [List.length_cons, List.length_nil]; omega) ?_; try simp only [push_cast, reduceIte, Nat.reduceEqDiff, reduceCtorEq, Nat.reduceAdd, Nat.reduceSub, Nat.reduceMul, Int.reduceToNat, Nat.reduceLeDiff])
      | (refine xi rfl (by simp only [List.length_cons, List.length_nil]; omega) ?_; try simp only [push_cast, reduceIte, Nat.reduceEqDiff, reduceCtorEq, Nat.reduceAdd, Nat.reduceSub, Nat.reduceMul, Int.reduceToNat, Nat.reduceLeDiff])
      | (refine xs rfl (by simp only [List.length_cons, List.length_nil]; omega) ?_; try simp only [push_cast, reduceIte, Nat.reduceEqDiff, reduceCtorEq, Nat.reduceAdd, Nat.reduceSub, Nat.reduceMul, Int.reduceToNat, Nat.reduceLeDiff])
      | (refine xw ?_; simp only [push_cast, reduceIte, Nat.reduceEqDiff, reduceCtorEq, Nat.reduceAdd, Nat.reduceSub, Nat.reduceMul, Int.reduceToNat, Nat.reduceLeDiff])
      | (refine And.intro (PHeap.le_refl _) (And.intro (fun p hp => hp) ?_))
      | (refine And.intro (PHeap.le_refl _) (And.intro (fun p hp => List.mem_cons_of_mem _ hp) ?_))
      | (refine And.intro (PHeap.le_refl _) (And.intro (fun p hp => List.mem_cons_of_mem _ (List.mem_cons_of_mem _ hp)) ?_))
      | (refine And.intro (PHeap.le_refl _) (And.intro (mem_of_sub ?_) ?_); focus ((repeat' first | exact List.Sublist.refl _ | exact List.nil_sublist _ | exact List.sublist_append_left _ _ | refine List.Sublist.cons_cons _ ?_ | refine List.Sublist.append_left ?_ _ | refine List.sublist_append_of_sublist_right ?_ | refine List.Sublist.cons _ ?_); done); try simp only [push_cast, reduceIte, Nat.reduceEqDiff, reduceCtorEq, Nat.reduceAdd, Nat.reduceSub, Nat.reduceMul, Int.reduceToNat, Nat.reduceLeDiff])
      | (exfalso; simp at hc; done)
      | (exfalso; omega)
      | exact false
      | fail "stuck"
  · have hi' : i < ts.length := by omega
    obtain ⟨pb, po, rfl, hat⟩ := SlSl.at hrd hl hk (by omega)
    obtain ⟨a', c', hr1, hr2⟩ := hat i hi'
    simp only [Nat.mul_one] at hr1
    have hlen : ts[i].length ≤ ts.flatten.length := by have := flat_take hi'; have h2 := flat_take_le ts (i + 1); rw [this, List.length_append] at h2; omega
    have hmem : ∀ o ∈ ts[i], o ∈ ts.flatten := fun o ho => List.mem_flatten.2 ⟨ts[i], List.getElem_mem hi', ho⟩
    repeat' first
        | refine EV.seq ?_
        | refine EV.skip ?_
        | refine EV.block ?_
        | refine EV.inBlock ?_
        | (refine EV.reg ?_; (conv => (arg 2; whnf)); simp only [push_cast, reduceIte, Nat.reduceEqDiff, reduceCtorEq, Nat.reduceAdd, Nat.reduceSub, Nat.reduceMul, Int.reduceToNat, Nat.reduceLeDiff])
        | (refine EV.any _ (List.Sublist.refl _) ?_; (conv => (arg 2; whnf)); simp only [push_cast, reduceIte, Nat.reduceEqDiff, reduceCtorEq, Nat.reduceAdd, Nat.reduceSub, Nat.reduceMul, Int.reduceToNat, Nat.reduceLeDiff])
        | assumption
        | (refine condW.merge ?_ (fun hc K' hK => ?_) ?_; rotate_left)
        | (refine condQ.mk ?_ (fun hc => ?_) ?_; rotate_left; (try simp only [decide_eq_true_eq, decide_eq_false_iff_not, Bool.not_eq_true', Bool.not_eq_false', Bool.and_eq_true, Bool.or_eq_true, Bool.and_eq_false_iff, Bool.or_eq_false_iff] at hc))
        | (with_reducible rfl)
        | ((refine EV.cond rfl (fun h => ?_) (fun h => ?_) <;> try simp only [reduceCtorEq, reduceIte, if_true, if_false, Bool.not_eq_true', Bool.not_eq_false', decide_eq_true_eq, decide_eq_false_iff_not, Bool.and_eq_true, Bool.or_eq_true, Bool.and_eq_false_iff, Bool.or_eq_false_iff] at h) <;> try (exfalso; first | exact h True.intro | (exact h; done) | omega))
        | (refine EV.exit rfl ?_)
        | (refine EV.ret R_litmus_Check_ok ?_; simp only [push_cast, reduceIte, Nat.reduceEqDiff, reduceCtorEq, Nat.reduceAdd, Nat.reduceSub, Nat.reduceMul, Int.reduceToNat, Nat.reduceLeDiff, R_litmus_Check])
        | (with_reducible intro b; try simp only [push_cast, reduceIte, Nat.reduceEqDiff, reduceCtorEq, Nat.reduceAdd, Nat.reduceSub, Nat.reduceMul, Int.reduceToNat, Nat.reduceLeDiff])
        | with_reducible intro b
        | (refine And.intro (by omega) ?_)
        | (refine Exists.intro _ (And.intro (rd_M (by assumption)) ?_); try simp only [push_cast, reduceIte, Nat.reduceEqDiff, reduceCtorEq, Nat.reduceAdd, Nat.reduceSub, Nat.reduceMul, Int.reduceToNat, Nat.reduceLeDiff])
        | (refine Exists.intro _ (Exists.intro _ (Exists.intro _ (And.intro (rd_M (by assumption)) ?_))); try simp only [push_cast, reduceIte, Nat.reduceEqDiff, reduceCtorEq, Nat.reduceAdd, Nat.reduceSub, Nat.reduceMul, Int.reduceToNat, Nat.reduceLeDiff])
        | (refine Exists.intro _ (And.intro (by assumption) ?_); try simp only [push_cast, reduceIte, Nat.reduceEqDiff, reduceCtorEq, Nat.reduceAdd, Nat.reduceSub, Nat.reduceMul, Int.reduceToNat, Nat.reduceLeDiff])
        | (refine Exists.intro _ (Exists.intro _ (Exists.intro _ (And.intro (by assumption) ?_))); try simp only [push_cast, reduceIte, Nat.reduceEqDiff, reduceCtorEq, Nat.reduceAdd, Nat.reduceSub, Nat.reduceMul, Int.reduceToNat, Nat.reduceLeDiff])
        | (refine xr rfl (by simp only [List.length_cons, List.length_nil]; omega) ?_; try simp only [push_cast, reduceIte, Nat.reduceEqDiff, reduceCtorEq, Nat.reduceAdd, Nat.reduceSub, Nat.reduceMul, Int.reduceToNat, Nat.reduceLeDiff])
        | (refine xi rfl (by simp only [List.length_cons, List.length_nil]; omega) ?_; try simp only [push_cast, reduceIte, Nat.reduceEqDiff, reduceCtorEq, Nat.reduceAdd, Nat.reduceSub, Nat.reduceMul, Int.reduceToNat, Nat.reduceLeDiff])
        | (refine xs rfl (by simp only [List.length_cons, List.length_nil]; omega) ?_; try simp only [push_cast, reduceIte, Nat.reduceEqDiff, reduceCtorEq, Nat.reduceAdd, Nat.reduceSub, Nat.reduceMul, Int.reduceToNat, Nat.reduceLeDiff])
        | (refine xw ?_; simp only [push_cast, reduceIte, Nat.reduceEqDiff, reduceCtorEq, Nat.reduceAdd, Nat.reduceSub, Nat.reduceMul, Int.reduceToNat, Nat.reduceLeDiff])
        | (refine And.intro (PHeap.le_refl _) (And.intro (fun p hp => hp) ?_))
        | (refine And.intro (PHeap.le_refl _) (And.intro (fun p hp => List.mem_cons_of_mem _ hp) ?_))
        | (refine And.intro (PHeap.le_refl _) (And.intro (fun p hp => List.mem_cons_of_mem _ (List.mem_cons_of_mem _ hp)) ?_))
        | (refine And.intro (PHeap.le_refl _) (And.intro (mem_of_sub ?_) ?_); focus ((repeat' first | exact List.Sublist.refl _ | exact List.nil_sublist _ | exact List.sublist_append_left _ _ | refine List.Sublist.cons_cons _ ?_ | refine List.Sublist.append_left ?_ _ | refine List.sublist_append_of_sublist_right ?_ | refine List.Sublist.cons _ ?_); done); try simp only [push_cast, reduceIte, Nat.reduceEqDiff, reduceCtorEq, Nat.reduceAdd, Nat.reduceSub, Nat.reduceMul, Int.reduceToNat, Nat.reduceLeDiff])
        | (exfalso; simp at hc; done)
        | (exfalso; omega)
        | exact false
        | fail "stuck"
    refine EV.to (ρ' := [(17, .slice (some ⟨pb, po, none⟩) ts.length c), (18, vi ts.length), (19, vi i), (23, .slice a' ts[i].length c'), (24, vi ts[i].length), (25, vi (0 : Nat))]) (G' := []) ?_ (by simp (disch := omega) only [List.forall_mem_cons, List.not_mem_nil, false_implies, implies_true, and_true, true_and, get_cons, get_nil, reduceIte, Nat.reduceEqDiff, Option.some.injEq, Value.int.injEq, w64, Int.natCast_add, Int.natCast_one, Int.cast_ofNat_Int, Int.natCast_zero]) (by simp)
    refine EV.loop (fun j : Nat => ([(17, .slice (some ⟨pb, po, none⟩) ts.length c), (18, vi ts.length), (19, vi i), (23, .slice a' ts[i].length c'), (24, vi ts[i].length), (25, vi j)], M, [])) (fun j => j ≤ ts[i].length ∧ (ts[i].take j).all okOp = true) (fun j => ts[i].length - j) 0 (by simp) ?_
    intro j ⟨hj, hok2⟩ ih2
    dsimp only at ih2 ⊢
    repeat' first
        | refine EV.seq ?_
        | refine EV.skip ?_
        | refine EV.block ?_
        | refine EV.inBlock ?_
        | (refine EV.reg ?_; (conv => (arg 2; whnf)); simp only [push_cast, reduceIte, Nat.reduceEqDiff, reduceCtorEq, Nat.reduceAdd, Nat.reduceSub, Nat.reduceMul, Int.reduceToNat, Nat.reduceLeDiff])
        | (refine EV.any _ (List.Sublist.refl _) ?_; (conv => (arg 2; whnf)); simp only [push_cast, reduceIte, Nat.reduceEqDiff, reduceCtorEq, Nat.reduceAdd, Nat.reduceSub, Nat.reduceMul, Int.reduceToNat, Nat.reduceLeDiff])
        | assumption
        | (refine condW.merge ?_ (fun hc K' hK => ?_) ?_; rotate_left)
        | (refine condQ.mk ?_ (fun hc => ?_) ?_; rotate_left; (try simp only [decide_eq_true_eq, decide_eq_false_iff_not, Bool.not_eq_true', Bool.not_eq_false', Bool.and_eq_true, Bool.or_eq_true, Bool.and_eq_false_iff, Bool.or_eq_false_iff] at hc))
        | (with_reducible rfl)
        | ((refine EV.cond rfl (fun h => ?_) (fun h => ?_) <;> try simp only [reduceCtorEq, reduceIte, if_true, if_false, Bool.not_eq_true', Bool.not_eq_false', decide_eq_true_eq, decide_eq_false_iff_not, Bool.and_eq_true, Bool.or_eq_true, Bool.and_eq_false_iff, Bool.or_eq_false_iff] at h) <;> try (exfalso; first | exact h True.intro | (exact h; done) | omega))
        | (refine EV.exit rfl ?_)
        | (refine EV.ret R_litmus_Check_ok ?_; simp only [push_cast, reduceIte, Nat.reduceEqDiff, reduceCtorEq, Nat.reduceAdd, Nat.reduceSub, Nat.reduceMul, Int.reduceToNat, Nat.reduceLeDiff, R_litmus_Check])
        | (with_reducible intro b; try simp only [push_cast, reduceIte, Nat.reduceEqDiff, reduceCtorEq, Nat.reduceAdd, Nat.reduceSub, Nat.reduceMul, Int.reduceToNat, Nat.reduceLeDiff])
        | with_reducible intro b
        | (refine And.intro (by omega) ?_)
        | (refine Exists.intro _ (And.intro (rd_M (by assumption)) ?_); try simp only [push_cast, reduceIte, Nat.reduceEqDiff, reduceCtorEq, Nat.reduceAdd, Nat.reduceSub, Nat.reduceMul, Int.reduceToNat, Nat.reduceLeDiff])
        | (refine Exists.intro _ (Exists.intro _ (Exists.intro _ (And.intro (rd_M (by assumption)) ?_))); try simp only [push_cast, reduceIte, Nat.reduceEqDiff, reduceCtorEq, Nat.reduceAdd, Nat.reduceSub, Nat.reduceMul, Int.reduceToNat, Nat.reduceLeDiff])
        | (refine Exists.intro _ (And.intro (by assumption) ?_); try simp only [push_cast, reduceIte, Nat.reduceEqDiff, reduceCtorEq, Nat.reduceAdd, Nat.reduceSub, Nat.reduceMul, Int.reduceToNat, Nat.reduceLeDiff])
        | (refine Exists.intro _ (Exists.intro _ (Exists.intro _ (And.intro (by assumption) ?_))); try simp only [push_cast, reduceIte, Nat.reduceEqDiff, reduceCtorEq, Nat.reduceAdd, Nat.reduceSub, Nat.reduceMul, Int.reduceToNat, Nat.reduceLeDiff])
        | (refine xr rfl (by simp only [List.length_cons, List.length_nil]; omega) ?_; try simp only [push_cast, reduceIte, Nat.reduceEqDiff, reduceCtorEq, Nat.reduceAdd, Nat.reduceSub, Nat.reduceMul, Int.reduceToNat, Nat.reduceLeDiff])
        | (refine xi rfl (by simp only [List.length_cons, List.length_nil]; omega) ?_; try simp only [push_cast, reduceIte, Nat.reduceEqDiff, reduceCtorEq, Nat.reduceAdd, Nat.reduceSub, Nat.reduceMul, Int.reduceToNat, Nat.reduceLeDiff])
        | (refine xs rfl (by simp only [List.length_cons, List.length_nil]; omega) ?_; try simp only [push_cast, reduceIte, Nat.reduceEqDiff, reduceCtorEq, Nat.reduceAdd, Nat.reduceSub, Nat.reduceMul, Int.reduceToNat, Nat.reduceLeDiff])
        | (refine xw ?_; simp only [push_cast, reduceIte, Nat.reduceEqDiff, reduceCtorEq, Nat.reduceAdd, Nat.reduceSub, Nat.reduceMul, Int.reduceToNat, Nat.reduceLeDiff])
        | (refine And.intro (PHeap.le_refl _) (And.intro (fun p hp => hp) ?_))
        | (refine And.intro (PHeap.le_refl _) (And.intro (fun p hp => List.mem_cons_of_mem _ hp) ?_))
        | (refine And.intro (PHeap.le_refl _) (And.intro (fun p hp => List.mem_cons_of_mem _ (List.mem_cons_of_mem _ hp)) ?_))
        | (refine And.intro (PHeap.le_refl _) (And.intro (mem_of_sub ?_) ?_); focus ((repeat' first | exact List.Sublist.refl _ | exact List.nil_sublist _ | exact List.sublist_append_left _ _ | refine List.Sublist.cons_cons _ ?_ | refine List.Sublist.append_left ?_ _ | refine List.sublist_append_of_sublist_right ?_ | refine List.Sublist.cons _ ?_); done); try simp only [push_cast, reduceIte, Nat.reduceEqDiff, reduceCtorEq, Nat.reduceAdd, Nat.reduceSub, Nat.reduceMul, Int.reduceToNat, Nat.reduceLeDiff])
        | (exfalso; simp at hc; done)
        | (exfalso; omega)
        | exact false
        | fail "stuck"
    · have hj' : j < ts[i].length := by omega
      obtain ⟨qb, qo, rfl, hat2⟩ := Sl.at (enc := encOp) (fun _ => rfl) (by omega) hr2 (by omega)
      have hr3 := hat2 j hj'
      repeat' first
          | refine EV.seq ?_
          | refine EV.skip ?_
          | refine EV.block ?_
          | refine EV.inBlock ?_
          | (refine EV.reg ?_; (conv => (arg 2; whnf)); simp only [push_cast, reduceIte, Nat.reduceEqDiff, reduceCtorEq, Nat.reduceAdd, Nat.reduceSub, Nat.reduceMul, Int.reduceToNat, Nat.reduceLeDiff])
          | (refine EV.any _ (List.Sublist.refl _) ?_; (conv => (arg 2; whnf)); simp only [push_cast, reduceIte, Nat.reduceEqDiff, reduceCtorEq, Nat.reduceAdd, Nat.reduceSub, Nat.reduceMul, Int.reduceToNat, Nat.reduceLeDiff])
          | (refine ConQ.call (litmus_fits_q _) ?_; try simp only [push_cast, reduceIte, Nat.reduceEqDiff, reduceCtorEq, Nat.reduceAdd, Nat.reduceSub, Nat.reduceMul, Int.reduceToNat, Nat.reduceLeDiff])
          | (refine Exists.intro _ (And.intro (litmus_fits_q _) ?_); try simp only [push_cast, reduceIte, Nat.reduceEqDiff, reduceCtorEq, Nat.reduceAdd, Nat.reduceSub, Nat.reduceMul, Int.reduceToNat, Nat.reduceLeDiff])
          | (refine ConQ.call (order_May_q _ _) ?_; try simp only [push_cast, reduceIte, Nat.reduceEqDiff, reduceCtorEq, Nat.reduceAdd, Nat.reduceSub, Nat.reduceMul, Int.reduceToNat, Nat.reduceLeDiff])
          | (refine Exists.intro _ (And.intro (order_May_q _ _) ?_); try simp only [push_cast, reduceIte, Nat.reduceEqDiff, reduceCtorEq, Nat.reduceAdd, Nat.reduceSub, Nat.reduceMul, Int.reduceToNat, Nat.reduceLeDiff])
          | assumption
          | (refine condW.merge ?_ (fun hc K' hK => ?_) ?_; rotate_left)
          | (refine condQ.mk ?_ (fun hc => ?_) ?_; rotate_left; (try simp only [decide_eq_true_eq, decide_eq_false_iff_not, Bool.not_eq_true', Bool.not_eq_false', Bool.and_eq_true, Bool.or_eq_true, Bool.and_eq_false_iff, Bool.or_eq_false_iff] at hc))
          | (with_reducible rfl)
          | ((refine EV.cond rfl (fun h => ?_) (fun h => ?_) <;> try simp only [reduceCtorEq, reduceIte, if_true, if_false, Bool.not_eq_true', Bool.not_eq_false', decide_eq_true_eq, decide_eq_false_iff_not, Bool.and_eq_true, Bool.or_eq_true, Bool.and_eq_false_iff, Bool.or_eq_false_iff] at h) <;> try (exfalso; first | exact h True.intro | (exact h; done) | omega))
          | (refine EV.exit rfl ?_)
          | (refine EV.ret R_litmus_Check_ok ?_; simp only [push_cast, reduceIte, Nat.reduceEqDiff, reduceCtorEq, Nat.reduceAdd, Nat.reduceSub, Nat.reduceMul, Int.reduceToNat, Nat.reduceLeDiff, R_litmus_Check])
          | (with_reducible intro b; try simp only [push_cast, reduceIte, Nat.reduceEqDiff, reduceCtorEq, Nat.reduceAdd, Nat.reduceSub, Nat.reduceMul, Int.reduceToNat, Nat.reduceLeDiff])
          | with_reducible intro b
          | (refine And.intro (by omega) ?_)
          | (refine Exists.intro _ (And.intro (rd_M (by assumption)) ?_); try simp only [push_cast, reduceIte, Nat.reduceEqDiff, reduceCtorEq, Nat.reduceAdd, Nat.reduceSub, Nat.reduceMul, Int.reduceToNat, Nat.reduceLeDiff])
          | (refine Exists.intro _ (Exists.intro _ (Exists.intro _ (And.intro (rd_M (by assumption)) ?_))); try simp only [push_cast, reduceIte, Nat.reduceEqDiff, reduceCtorEq, Nat.reduceAdd, Nat.reduceSub, Nat.reduceMul, Int.reduceToNat, Nat.reduceLeDiff])
          | (refine Exists.intro _ (And.intro (by assumption) ?_); try simp only [push_cast, reduceIte, Nat.reduceEqDiff, reduceCtorEq, Nat.reduceAdd, Nat.reduceSub, Nat.reduceMul, Int.reduceToNat, Nat.reduceLeDiff])
          | (refine Exists.intro _ (Exists.intro _ (Exists.intro _ (And.intro (by assumption) ?_))); try simp only [push_cast, reduceIte, Nat.reduceEqDiff, reduceCtorEq, Nat.reduceAdd, Nat.reduceSub, Nat.reduceMul, Int.reduceToNat, Nat.reduceLeDiff])
          | (refine xr rfl (by simp only [List.length_cons, List.length_nil]; omega) ?_; try simp only [push_cast, reduceIte, Nat.reduceEqDiff, reduceCtorEq, Nat.reduceAdd, Nat.reduceSub, Nat.reduceMul, Int.reduceToNat, Nat.reduceLeDiff])
          | (refine xi rfl (by simp only [List.length_cons, List.length_nil]; omega) ?_; try simp only [push_cast, reduceIte, Nat.reduceEqDiff, reduceCtorEq, Nat.reduceAdd, Nat.reduceSub, Nat.reduceMul, Int.reduceToNat, Nat.reduceLeDiff])
          | (refine xs rfl (by simp only [List.length_cons, List.length_nil]; omega) ?_; try simp only [push_cast, reduceIte, Nat.reduceEqDiff, reduceCtorEq, Nat.reduceAdd, Nat.reduceSub, Nat.reduceMul, Int.reduceToNat, Nat.reduceLeDiff])
          | (refine xw ?_; simp only [push_cast, reduceIte, Nat.reduceEqDiff, reduceCtorEq, Nat.reduceAdd, Nat.reduceSub, Nat.reduceMul, Int.reduceToNat, Nat.reduceLeDiff])
          | (refine And.intro (PHeap.le_refl _) (And.intro (fun p hp => hp) ?_))
          | (refine And.intro (PHeap.le_refl _) (And.intro (fun p hp => List.mem_cons_of_mem _ hp) ?_))
          | (refine And.intro (PHeap.le_refl _) (And.intro (fun p hp => List.mem_cons_of_mem _ (List.mem_cons_of_mem _ hp)) ?_))
          | (refine And.intro (PHeap.le_refl _) (And.intro (mem_of_sub ?_) ?_); focus ((repeat' first | exact List.Sublist.refl _ | exact List.nil_sublist _ | exact List.sublist_append_left _ _ | refine List.Sublist.cons_cons _ ?_ | refine List.Sublist.append_left ?_ _ | refine List.sublist_append_of_sublist_right ?_ | refine List.Sublist.cons _ ?_); done); try simp only [push_cast, reduceIte, Nat.reduceEqDiff, reduceCtorEq, Nat.reduceAdd, Nat.reduceSub, Nat.reduceMul, Int.reduceToNat, Nat.reduceLeDiff])
          | (exfalso; simp at hc; done)
          | (exfalso; omega)
          | exact false
          | fail "stuck"
      · have hno : okOp ts[i][j] = false := by
          cases hq : okOp ts[i][j] with
          | false => rfl
          | true => obtain ⟨q1, q2, q3⟩ := (okOp_iff _).1 hq; simp [q1, q2, q3] at h
        have hne : ts.flatten.all okOp = false := by
          rw [List.all_eq_false]
          exact ⟨ts[i][j], hmem _ (List.getElem_mem hj'), by simp [hno]⟩
        have h0 : ¬ ts.length = 0 := by omega
        simp [checkP, h1, h0, hne]
      · have hyes : okOp ts[i][j] = true := by
          rw [okOp_iff]
          grind
        refine EV.to (ih2 (j + 1) ⟨by omega, ?_⟩ (by omega)) ?_ (by simp)
        · rw [List.take_succ_eq_append_getElem hj', List.all_append, hok2]
          simp [hyes]
        · repeat' first
            | (refine List.forall_mem_cons.2 (And.intro ?_ ?_))
            | (intro _ hnil; cases hnil; done)
            | rfl
            | (refine env_w64 rfl (by first | rfl | (push_cast; first | rfl | omega)) (by omega) (by omega); done)
            | (simp (disch := omega) only [get_cons, get_nil, reduceIte, Nat.reduceEqDiff, Option.some.injEq, Value.int.injEq, w64, Int.natCast_add, Int.natCast_one, Int.cast_ofNat_Int, Int.natCast_zero]; done)
    · have hj' : j = ts[i].length := by omega
      subst hj'
      refine EV.to (ih (i + 1) ⟨by omega, ?_⟩ (by omega)) ?_ (by simp)
      · rw [flat_take hi', List.all_append, hok, Bool.true_and]
        rwa [List.take_length] at hok2
      · repeat' first
          | (refine List.forall_mem_cons.2 (And.intro ?_ ?_))
          | (intro _ hnil; cases hnil; done)
          | rfl
          | (refine env_w64 rfl (by first | rfl | (push_cast; first | rfl | omega)) (by omega) (by omega); done)
          | (simp (disch := omega) only [get_cons, get_nil, reduceIte, Nat.reduceEqDiff, Option.some.injEq, Value.int.injEq, w64, Int.natCast_add, Int.natCast_one, Int.cast_ofNat_Int, Int.natCast_zero]; done)
  · have hi3 : i = ts.length := by omega
    subst hi3
    rw [List.take_length] at hok
    have h0 : ¬ ts.length = 0 := by omega
    simp [checkP, hok, h1, h0]

end
end Go.EV

namespace Go.EV
open Go.Proofs

section
variable {M : PHeap}

abbrev sfence : OpV := ⟨5, 0, 0, 0, 4⟩

theorem litmus_strongFence_q : ConQ Try.prog 64 #[] M (vop sfence) := by
  refine Con.enter R_litmus_strongFence_ok (args := []) (by simp [R_litmus_strongFence]) fun w0 => ?_
  simp only [R_litmus_strongFence, argE]
  repeat' first
      | refine EV.seq ?_
      | refine EV.skip ?_
      | refine EV.block ?_
      | refine EV.inBlock ?_
      | (refine EV.reg ?_; (conv => (arg 2; whnf)); simp only [push_cast, reduceIte, Nat.reduceEqDiff, reduceCtorEq, Nat.reduceAdd, Nat.reduceSub, Nat.reduceMul, Int.reduceToNat, Nat.reduceLeDiff])
      | (refine EV.any _ (List.Sublist.refl _) ?_; (conv => (arg 2; whnf)); simp only [push_cast, reduceIte, Nat.reduceEqDiff, reduceCtorEq, Nat.reduceAdd, Nat.reduceSub, Nat.reduceMul, Int.reduceToNat, Nat.reduceLeDiff])
      | assumption
      | (refine condW.merge ?_ (fun hc K' hK => ?_) ?_; rotate_left)
      | (refine condQ.mk ?_ (fun hc => ?_) ?_; rotate_left; (try simp only [decide_eq_true_eq, decide_eq_false_iff_not, Bool.not_eq_true', Bool.not_eq_false', Bool.and_eq_true, Bool.or_eq_true, Bool.and_eq_false_iff, Bool.or_eq_false_iff] at hc))
      | (with_reducible rfl)
      | ((refine EV.cond rfl (fun h => ?_) (fun h => ?_) <;> try simp only [reduceCtorEq, reduceIte, if_true, if_false, Bool.not_eq_true', Bool.not_eq_false', decide_eq_true_eq, decide_eq_false_iff_not, Bool.and_eq_true, Bool.or_eq_true, Bool.and_eq_false_iff, Bool.or_eq_false_iff] at h) <;> try (exfalso; first | exact h True.intro | (exact h; done) | omega))
      | (refine EV.exit rfl ?_)
      | (refine EV.ret R_litmus_strongFence_ok ?_; simp only [push_cast, reduceIte, Nat.reduceEqDiff, reduceCtorEq, Nat.reduceAdd, Nat.reduceSub, Nat.reduceMul, Int.reduceToNat, Nat.reduceLeDiff, R_litmus_strongFence])
      | (with_reducible intro b; try simp only [push_cast, reduceIte, Nat.reduceEqDiff, reduceCtorEq, Nat.reduceAdd, Nat.reduceSub, Nat.reduceMul, Int.reduceToNat, Nat.reduceLeDiff])
      | with_reducible intro b
      | (refine And.intro (by omega) ?_)
      | (refine Exists.intro _ (And.intro (rd_M (by assumption)) ?_); try simp only [push_cast, reduceIte, Nat.reduceEqDiff, reduceCtorEq, Nat.reduceAdd, Nat.reduceSub, Nat.reduceMul, Int.reduceToNat, Nat.reduceLeDiff])
      | (refine Exists.intro _ (Exists.intro _ (Exists.intro _ (And.intro (rd_M (by assumption)) ?_))); try simp only [push_cast, reduceIte, Nat.reduceEqDiff, reduceCtorEq, Nat.reduceAdd, Nat.reduceSub, Nat.reduceMul, Int.reduceToNat, Nat.reduceLeDiff])
      | (refine Exists.intro _ (And.intro (by assumption) ?_); try simp only [push_cast, reduceIte, Nat.reduceEqDiff, reduceCtorEq, Nat.reduceAdd, Nat.reduceSub, Nat.reduceMul, Int.reduceToNat, Nat.reduceLeDiff])
      | (refine Exists.intro _ (Exists.intro _ (Exists.intro _ (And.intro (by assumption) ?_))); try simp only [push_cast, reduceIte, Nat.reduceEqDiff, reduceCtorEq, Nat.reduceAdd, Nat.reduceSub, Nat.reduceMul, Int.reduceToNat, Nat.reduceLeDiff])
      | (refine xr rfl (by simp only [List.length_cons, List.length_nil]; omega) ?_; try simp only [push_cast, reduceIte, Nat.reduceEqDiff, reduceCtorEq, Nat.reduceAdd, Nat.reduceSub, Nat.reduceMul, Int.reduceToNat, Nat.reduceLeDiff])
      | (refine xi rfl (by simp only [List.length_cons, List.length_nil]; omega) ?_; try simp only [push_cast, reduceIte, Nat.reduceEqDiff, reduceCtorEq, Nat.reduceAdd, Nat.reduceSub, Nat.reduceMul, Int.reduceToNat, Nat.reduceLeDiff])
      | (refine xs rfl (by simp only [List.length_cons, List.length_nil]; omega) ?_; try simp only [push_cast, reduceIte, Nat.reduceEqDiff, reduceCtorEq, Nat.reduceAdd, Nat.reduceSub, Nat.reduceMul, Int.reduceToNat, Nat.reduceLeDiff])
      | (refine xw ?_; simp only [push_cast, reduceIte, Nat.reduceEqDiff, reduceCtorEq, Nat.reduceAdd, Nat.reduceSub, Nat.reduceMul, Int.reduceToNat, Nat.reduceLeDiff])
      | (refine And.intro (PHeap.le_refl _) (And.intro (fun p hp => hp) ?_))
      | (refine And.intro (PHeap.le_refl _) (And.intro (fun p hp => List.mem_cons_of_mem _ hp) ?_))
      | (refine And.intro (PHeap.le_refl _) (And.intro (fun p hp => List.mem_cons_of_mem _ (List.mem_cons_of_mem _ hp)) ?_))
      | (refine And.intro (PHeap.le_refl _) (And.intro (mem_of_sub ?_) ?_); focus ((repeat' first | exact List.Sublist.refl _ | exact List.nil_sublist _ | exact List.sublist_append_left _ _ | refine List.Sublist.cons_cons _ ?_ | refine List.Sublist.append_left ?_ _ | refine List.sublist_append_of_sublist_right ?_ | refine List.Sublist.cons _ ?_); done); try simp only [push_cast, reduceIte, Nat.reduceEqDiff, reduceCtorEq, Nat.reduceAdd, Nat.reduceSub, Nat.reduceMul, Int.reduceToNat, Nat.reduceLeDiff])
      | (exfalso; simp at hc; done)
      | (exfalso; omega)
      | exact false
      | fail "stuck"
  all_goals rfl

def expOp (o : OpV) : List OpV := if accessP o = false ∨ o.ord ≠ 4 then [o] else [sfence, { o with ord := plainP o.kind o.ord }, sfence]

theorem litmus_Expand_S1_c (o : OpV) (f : Bool) (ho : okOp o = true) : Con Try.prog 61 #[vop o, vb f] M [] fun v _ G' => ∃ b, v = .slice (some ⟨b, 0, none⟩) (expOp o).length (expOp o).length ∧ G' = [(b, Cl 55 ((expOp o).flatMap encOp))] := by
  obtain ⟨q1, q2, q3⟩ := (okOp_iff o).1 ho
  refine Con.enter R_litmus_Expand_S1_ok (args := [vop o, vb f]) (by simp [R_litmus_Expand_S1]) fun w0 => ?_
  simp only [R_litmus_Expand_S1, argE]
  repeat' first
      | refine EV.seq ?_
      | refine EV.skip ?_
      | refine EV.block ?_
      | refine EV.inBlock ?_
      | (refine EV.reg ?_; (conv => (arg 2; whnf)); simp only [push_cast, reduceIte, Nat.reduceEqDiff, reduceCtorEq, Nat.reduceAdd, Nat.reduceSub, Nat.reduceMul, Int.reduceToNat, Nat.reduceLeDiff])
      | (refine EV.any _ (List.Sublist.refl _) ?_; (conv => (arg 2; whnf)); simp only [push_cast, reduceIte, Nat.reduceEqDiff, reduceCtorEq, Nat.reduceAdd, Nat.reduceSub, Nat.reduceMul, Int.reduceToNat, Nat.reduceLeDiff])
      | (refine ConQ.call (litmus_access_q _) ?_; try simp only [push_cast, reduceIte, Nat.reduceEqDiff, reduceCtorEq, Nat.reduceAdd, Nat.reduceSub, Nat.reduceMul, Int.reduceToNat, Nat.reduceLeDiff])
      | (refine Exists.intro _ (And.intro (litmus_access_q _) ?_); try simp only [push_cast, reduceIte, Nat.reduceEqDiff, reduceCtorEq, Nat.reduceAdd, Nat.reduceSub, Nat.reduceMul, Int.reduceToNat, Nat.reduceLeDiff])
      | assumption
      | (refine condW.merge ?_ (fun hc K' hK => ?_) ?_; rotate_left)
      | (refine condQ.mk ?_ (fun hc => ?_) ?_; rotate_left; (try simp only [decide_eq_true_eq, decide_eq_false_iff_not, Bool.not_eq_true', Bool.not_eq_false', Bool.and_eq_true, Bool.or_eq_true, Bool.and_eq_false_iff, Bool.or_eq_false_iff] at hc))
      | (with_reducible rfl)
      | ((refine EV.cond rfl (fun h => ?_) (fun h => ?_) <;> try simp only [reduceCtorEq, reduceIte, if_true, if_false, Bool.not_eq_true', Bool.not_eq_false', decide_eq_true_eq, decide_eq_false_iff_not, Bool.and_eq_true, Bool.or_eq_true, Bool.and_eq_false_iff, Bool.or_eq_false_iff] at h) <;> try (exfalso; first | exact h True.intro | (exact h; done) | omega))
      | (refine EV.exit rfl ?_)
      | (with_reducible intro b; try simp only [push_cast, reduceIte, Nat.reduceEqDiff, reduceCtorEq, Nat.reduceAdd, Nat.reduceSub, Nat.reduceMul, Int.reduceToNat, Nat.reduceLeDiff])
      | with_reducible intro b
      | (refine And.intro (by omega) ?_)
      | (refine Exists.intro _ (And.intro (rd_M (by assumption)) ?_); try simp only [push_cast, reduceIte, Nat.reduceEqDiff, reduceCtorEq, Nat.reduceAdd, Nat.reduceSub, Nat.reduceMul, Int.reduceToNat, Nat.reduceLeDiff])
      | (refine Exists.intro _ (Exists.intro _ (Exists.intro _ (And.intro (rd_M (by assumption)) ?_))); try simp only [push_cast, reduceIte, Nat.reduceEqDiff, reduceCtorEq, Nat.reduceAdd, Nat.reduceSub, Nat.reduceMul, Int.reduceToNat, Nat.reduceLeDiff])
      | (refine Exists.intro _ (And.intro (by assumption) ?_); try simp only [push_cast, reduceIte, Nat.reduceEqDiff, reduceCtorEq, Nat.reduceAdd, Nat.reduceSub, Nat.reduceMul, Int.reduceToNat, Nat.reduceLeDiff])
      | (refine Exists.intro _ (Exists.intro _ (Exists.intro _ (And.intro (by assumption) ?_))); try simp only [push_cast, reduceIte, Nat.reduceEqDiff, reduceCtorEq, Nat.reduceAdd, Nat.reduceSub, Nat.reduceMul, Int.reduceToNat, Nat.reduceLeDiff])
      | (refine xr rfl (by simp only [List.length_cons, List.length_nil]; omega) ?_; try simp only [push_cast, reduceIte, Nat.reduceEqDiff, reduceCtorEq, Nat.reduceAdd, Nat.reduceSub, Nat.reduceMul, Int.reduceToNat, Nat.reduceLeDiff])
      | (refine xi rfl (by simp only [List.length_cons, List.length_nil]; omega) ?_; try simp only [push_cast, reduceIte, Nat.reduceEqDiff, reduceCtorEq, Nat.reduceAdd, Nat.reduceSub, Nat.reduceMul, Int.reduceToNat, Nat.reduceLeDiff])
      | (refine xs rfl (by simp only [List.length_cons, List.length_nil]; omega) ?_; try simp only [push_cast, reduceIte, Nat.reduceEqDiff, reduceCtorEq, Nat.reduceAdd, Nat.reduceSub, Nat.reduceMul, Int.reduceToNat, Nat.reduceLeDiff])
      | (refine xw ?_; simp only [push_cast, reduceIte, Nat.reduceEqDiff, reduceCtorEq, Nat.reduceAdd, Nat.reduceSub, Nat.reduceMul, Int.reduceToNat, Nat.reduceLeDiff])
      | (refine And.intro (PHeap.le_refl _) (And.intro (fun p hp => hp) ?_))
      | (refine And.intro (PHeap.le_refl _) (And.intro (fun p hp => List.mem_cons_of_mem _ hp) ?_))
      | (refine And.intro (PHeap.le_refl _) (And.intro (fun p hp => List.mem_cons_of_mem _ (List.mem_cons_of_mem _ hp)) ?_))
      | (refine And.intro (PHeap.le_refl _) (And.intro (mem_of_sub ?_) ?_); focus ((repeat' first | exact List.Sublist.refl _ | exact List.nil_sublist _ | exact List.sublist_append_left _ _ | refine List.Sublist.cons_cons _ ?_ | refine List.Sublist.append_left ?_ _ | refine List.sublist_append_of_sublist_right ?_ | refine List.Sublist.cons _ ?_); done); try simp only [push_cast, reduceIte, Nat.reduceEqDiff, reduceCtorEq, Nat.reduceAdd, Nat.reduceSub, Nat.reduceMul, Int.reduceToNat, Nat.reduceLeDiff])
      | (exfalso; simp at hc; done)
      | (exfalso; omega)
      | exact false
      | fail "stuck"
  · refine EV.to (ρ' := [(4, .slice (some ⟨b, 0, none⟩) 1 1)]) (G' := [(b, Cl 55 (encOp o))]) ?_ (by simp (disch := omega) only [List.forall_mem_cons, List.not_mem_nil, false_implies, implies_true, and_true, true_and, get_cons, get_nil, reduceIte, Nat.reduceEqDiff, Option.some.injEq, Value.int.injEq, w64, Int.natCast_add, Int.natCast_one, Int.cast_ofNat_Int, Int.natCast_zero]) (by simp)
    refine EV.ret R_litmus_Expand_S1_ok ?_
    simp only [push_cast, reduceIte, Nat.reduceEqDiff, reduceCtorEq, Nat.reduceAdd, Nat.reduceSub, Nat.reduceMul, Int.reduceToNat, Nat.reduceLeDiff, R_litmus_Expand_S1]
    have he : expOp o = [o] := by simp [expOp, h]
    exact ⟨b, by rw [he]; rfl, by rw [he]; rfl⟩
  · have h5 : o.kind ≠ 5 := by
      intro h5
      have := h.1
      simp [accessP, h5] at this
    refine ConQ.call (order_Plain_q _ _ q1 q2 h5) ?_
    simp only [push_cast, reduceIte, Nat.reduceEqDiff, reduceCtorEq, Nat.reduceAdd, Nat.reduceSub, Nat.reduceMul, Int.reduceToNat, Nat.reduceLeDiff]
    repeat' first
        | refine EV.seq ?_
        | refine EV.skip ?_
        | refine EV.block ?_
        | refine EV.inBlock ?_
        | (refine EV.reg ?_; (conv => (arg 2; whnf)); simp only [push_cast, reduceIte, Nat.reduceEqDiff, reduceCtorEq, Nat.reduceAdd, Nat.reduceSub, Nat.reduceMul, Int.reduceToNat, Nat.reduceLeDiff])
        | (refine EV.any _ (List.Sublist.refl _) ?_; (conv => (arg 2; whnf)); simp only [push_cast, reduceIte, Nat.reduceEqDiff, reduceCtorEq, Nat.reduceAdd, Nat.reduceSub, Nat.reduceMul, Int.reduceToNat, Nat.reduceLeDiff])
        | (refine ConQ.call (litmus_strongFence_q) ?_; try simp only [push_cast, reduceIte, Nat.reduceEqDiff, reduceCtorEq, Nat.reduceAdd, Nat.reduceSub, Nat.reduceMul, Int.reduceToNat, Nat.reduceLeDiff])
        | (refine Exists.intro _ (And.intro (litmus_strongFence_q) ?_); try simp only [push_cast, reduceIte, Nat.reduceEqDiff, reduceCtorEq, Nat.reduceAdd, Nat.reduceSub, Nat.reduceMul, Int.reduceToNat, Nat.reduceLeDiff])
        | assumption
        | (refine condW.merge ?_ (fun hc K' hK => ?_) ?_; rotate_left)
        | (refine condQ.mk ?_ (fun hc => ?_) ?_; rotate_left; (try simp only [decide_eq_true_eq, decide_eq_false_iff_not, Bool.not_eq_true', Bool.not_eq_false', Bool.and_eq_true, Bool.or_eq_true, Bool.and_eq_false_iff, Bool.or_eq_false_iff] at hc))
        | (with_reducible rfl)
        | ((refine EV.cond rfl (fun h => ?_) (fun h => ?_) <;> try simp only [reduceCtorEq, reduceIte, if_true, if_false, Bool.not_eq_true', Bool.not_eq_false', decide_eq_true_eq, decide_eq_false_iff_not, Bool.and_eq_true, Bool.or_eq_true, Bool.and_eq_false_iff, Bool.or_eq_false_iff] at h) <;> try (exfalso; first | exact h True.intro | (exact h; done) | omega))
        | (refine EV.exit rfl ?_)
        | (with_reducible intro b; try simp only [push_cast, reduceIte, Nat.reduceEqDiff, reduceCtorEq, Nat.reduceAdd, Nat.reduceSub, Nat.reduceMul, Int.reduceToNat, Nat.reduceLeDiff])
        | with_reducible intro b
        | (refine And.intro (by omega) ?_)
        | (refine Exists.intro _ (And.intro (rd_M (by assumption)) ?_); try simp only [push_cast, reduceIte, Nat.reduceEqDiff, reduceCtorEq, Nat.reduceAdd, Nat.reduceSub, Nat.reduceMul, Int.reduceToNat, Nat.reduceLeDiff])
        | (refine Exists.intro _ (Exists.intro _ (Exists.intro _ (And.intro (rd_M (by assumption)) ?_))); try simp only [push_cast, reduceIte, Nat.reduceEqDiff, reduceCtorEq, Nat.reduceAdd, Nat.reduceSub, Nat.reduceMul, Int.reduceToNat, Nat.reduceLeDiff])
        | (refine Exists.intro _ (And.intro (by assumption) ?_); try simp only [push_cast, reduceIte, Nat.reduceEqDiff, reduceCtorEq, Nat.reduceAdd, Nat.reduceSub, Nat.reduceMul, Int.reduceToNat, Nat.reduceLeDiff])
        | (refine Exists.intro _ (Exists.intro _ (Exists.intro _ (And.intro (by assumption) ?_))); try simp only [push_cast, reduceIte, Nat.reduceEqDiff, reduceCtorEq, Nat.reduceAdd, Nat.reduceSub, Nat.reduceMul, Int.reduceToNat, Nat.reduceLeDiff])
        | (refine xr rfl (by simp only [List.length_cons, List.length_nil]; omega) ?_; try simp only [push_cast, reduceIte, Nat.reduceEqDiff, reduceCtorEq, Nat.reduceAdd, Nat.reduceSub, Nat.reduceMul, Int.reduceToNat, Nat.reduceLeDiff])
        | (refine xi rfl (by simp only [List.length_cons, List.length_nil]; omega) ?_; try simp only [push_cast, reduceIte, Nat.reduceEqDiff, reduceCtorEq, Nat.reduceAdd, Nat.reduceSub, Nat.reduceMul, Int.reduceToNat, Nat.reduceLeDiff])
        | (refine xs rfl (by simp only [List.length_cons, List.length_nil]; omega) ?_; try simp only [push_cast, reduceIte, Nat.reduceEqDiff, reduceCtorEq, Nat.reduceAdd, Nat.reduceSub, Nat.reduceMul, Int.reduceToNat, Nat.reduceLeDiff])
        | (refine xw ?_; simp only [push_cast, reduceIte, Nat.reduceEqDiff, reduceCtorEq, Nat.reduceAdd, Nat.reduceSub, Nat.reduceMul, Int.reduceToNat, Nat.reduceLeDiff])
        | (refine And.intro (PHeap.le_refl _) (And.intro (fun p hp => hp) ?_))
        | (refine And.intro (PHeap.le_refl _) (And.intro (fun p hp => List.mem_cons_of_mem _ hp) ?_))
        | (refine And.intro (PHeap.le_refl _) (And.intro (fun p hp => List.mem_cons_of_mem _ (List.mem_cons_of_mem _ hp)) ?_))
        | (refine And.intro (PHeap.le_refl _) (And.intro (mem_of_sub ?_) ?_); focus ((repeat' first | exact List.Sublist.refl _ | exact List.nil_sublist _ | exact List.sublist_append_left _ _ | refine List.Sublist.cons_cons _ ?_ | refine List.Sublist.append_left ?_ _ | refine List.sublist_append_of_sublist_right ?_ | refine List.Sublist.cons _ ?_); done); try simp only [push_cast, reduceIte, Nat.reduceEqDiff, reduceCtorEq, Nat.reduceAdd, Nat.reduceSub, Nat.reduceMul, Int.reduceToNat, Nat.reduceLeDiff])
        | (exfalso; simp at hc; done)
        | (exfalso; omega)
        | exact false
        | fail "stuck"
    have he : expOp o = [sfence, { o with ord := plainP o.kind o.ord }, sfence] := by simp [expOp, h]
    rename_i b1
    refine EV.to (ρ' := [(4, .slice (some ⟨b, 0, none⟩) 3 3)]) (G' := [(b, Cl 55 (encOp sfence ++ encOp { o with ord := plainP o.kind o.ord } ++ encOp sfence))]) ?_ (by simp (disch := omega) only [List.forall_mem_cons, List.not_mem_nil, false_implies, implies_true, and_true, true_and, get_cons, get_nil, reduceIte, Nat.reduceEqDiff, Option.some.injEq, Value.int.injEq, w64, Int.natCast_add, Int.natCast_one, Int.cast_ofNat_Int, Int.natCast_zero]) (by simp)
    refine EV.ret R_litmus_Expand_S1_ok ?_
    simp only [push_cast, reduceIte, Nat.reduceEqDiff, reduceCtorEq, Nat.reduceAdd, Nat.reduceSub, Nat.reduceMul, Int.reduceToNat, Nat.reduceLeDiff, R_litmus_Expand_S1]
    exact ⟨b, by rw [he]; rfl, by rw [he]; rfl⟩

end
end Go.EV

namespace Go.EV
open Go.Proofs

theorem flat1 (vs : List Value) : vs.flatMap (fun v => [v]) = vs := flatMap_single vs

end Go.EV

namespace Go.EV
open Go.Proofs

def rebGo (f : OpV → Bool → List OpV) : Bool → List OpV → List OpV
  | _, [] => []
  | b, o :: l => f o b ++ rebGo f (b && !accessP o) l

def noAcc (l : List OpV) : Bool := l.all fun o => !accessP o

theorem rebGo_append (f : OpV → Bool → List OpV) : ∀ (l1 : List OpV) (b : Bool) (l2 : List OpV), rebGo f b (l1 ++ l2) = rebGo f b l1 ++ rebGo f (b && noAcc l1) l2
  | [], b, l2 => by simp [rebGo, noAcc]
  | o :: l1, b, l2 => by simp [rebGo, rebGo_append f l1, noAcc, Bool.and_assoc]

theorem rebGo_take (f : OpV → Bool → List OpV) {l : List OpV} {j : Nat} (hj : j < l.length) : rebGo f true (l.take (j + 1)) = rebGo f true (l.take j) ++ f l[j] (noAcc (l.take j)) := by
  rw [List.take_succ_eq_append_getElem hj, rebGo_append]; simp [rebGo]

theorem rebGo_len {f : OpV → Bool → List OpV} {l : List OpV} (hf : ∀ o ∈ l, ∀ b, (f o b).length ≤ 3) : ∀ b, (rebGo f b l).length ≤ 3 * l.length := by
  induction l with
  | nil => intro b; simp [rebGo]
  | cons o l ih =>
    intro b
    have h1 := hf o (by simp) b
    have h2 := ih (fun o' ho' => hf o' (by simp [ho'])) (b && !accessP o)
    simp [rebGo]; omega

theorem noAcc_take {l : List OpV} {j : Nat} (hj : j < l.length) : noAcc (l.take (j + 1)) = (noAcc (l.take j) && !accessP l[j]) := by
  unfold noAcc
  rw [List.take_succ_eq_append_getElem hj, List.all_append]; simp

section
variable {M : PHeap}

/-- What a function that takes the place of an operation promises. -/
def ByC (P : Program) (T g : Nat) (f : OpV → Bool → List OpV) (l : List OpV) : Prop :=
  ∀ (M : PHeap) (o : OpV) (b : Bool), o ∈ l → (f o b).length ≤ 3 ∧ Con P g #[vop o, vb b] M [] fun v _ G' => ∃ ov, v = osv ov (f o b).length ∧ osok 5 ov (f o b).length ((f o b).flatMap encOp) ∧ G' = osg T ov ((f o b).flatMap encOp)

theorem ok1_ops (l : List OpV) : ok1 (l.flatMap encOp) := by
  intro v hv
  simp only [List.mem_flatMap] at hv
  obtain ⟨o, _, hv⟩ := hv
  simp at hv
  rcases hv with rfl | rfl | rfl | rfl | rfl <;> rfl

set_option maxHeartbeats 4000000 in
theorem litmus_rebuilt_c (f : OpV → Bool → List OpV) (g : Nat) (ts : List (List OpV)) (s : Value) (hs : SlSl M 5 encOp s ts) (hb : ts.flatten.length < 1000000) (hb' : ts.length < 1000000)
    (hg : ByC Try.prog 55 g f ts.flatten) :
    Con Try.prog 60 #[.agg #[s], .func (.func g) #[] #[]] M [] fun v M' _ => ∃ s', v = .agg #[s'] ∧ SlSl M' 5 encOp s' (ts.map (rebGo f true)) := by
  obtain ⟨a, c, vs, rfl, hl, hrd, hk⟩ := hs
  refine Con.enter R_litmus_rebuilt_ok (args := [.agg #[.slice a ts.length c], .func (.func g) #[] #[]]) (by simp [R_litmus_rebuilt]) fun w0 => ?_
  simp only [R_litmus_rebuilt, argE]
  repeat' first
      | refine EV.seq ?_
      | refine EV.skip ?_
      | refine EV.block ?_
      | refine EV.inBlock ?_
      | (refine EV.reg ?_; (conv => (arg 2; whnf)); simp only [push_cast, reduceIte, Nat.reduceEqDiff, reduceCtorEq, Nat.reduceAdd, Nat.reduceSub, Nat.reduceMul, Int.reduceToNat, Nat.reduceLeDiff])
      | (refine EV.any _ (List.Sublist.refl _) ?_; (conv => (arg 2; whnf)); simp only [push_cast, reduceIte, Nat.reduceEqDiff, reduceCtorEq, Nat.reduceAdd, Nat.reduceSub, Nat.reduceMul, Int.reduceToNat, Nat.reduceLeDiff])
      | assumption
      | (refine condW.merge ?_ (fun hc K' hK => ?_) ?_; rotate_left)
      | (refine condQ.mk ?_ (fun hc => ?_) ?_; rotate_left; (try simp only [decide_eq_true_eq, decide_eq_false_iff_not, Bool.not_eq_true', Bool.not_eq_false', Bool.and_eq_true, Bool.or_eq_true, Bool.and_eq_false_iff, Bool.or_eq_false_iff] at hc))
      | (with_reducible rfl)
      | ((refine EV.cond rfl (fun h => ?_) (fun h => ?_) <;> try simp only [reduceCtorEq, reduceIte, if_true, if_false, Bool.not_eq_true', Bool.not_eq_false', decide_eq_true_eq, decide_eq_false_iff_not, Bool.and_eq_true, Bool.or_eq_true, Bool.and_eq_false_iff, Bool.or_eq_false_iff] at h) <;> try (exfalso; first | exact h True.intro | (exact h; done) | omega))
      | (refine EV.exit rfl ?_)
      | (with_reducible intro b; try simp only [push_cast, reduceIte, Nat.reduceEqDiff, reduceCtorEq, Nat.reduceAdd, Nat.reduceSub, Nat.reduceMul, Int.reduceToNat, Nat.reduceLeDiff])
      | with_reducible intro b
      | (refine And.intro (by omega) ?_)
      | (refine Exists.intro _ (And.intro (rd_M (by assumption)) ?_); try simp only [push_cast, reduceIte, Nat.reduceEqDiff, reduceCtorEq, Nat.reduceAdd, Nat.reduceSub, Nat.reduceMul, Int.reduceToNat, Nat.reduceLeDiff])
      | (refine Exists.intro _ (Exists.intro _ (Exists.intro _ (And.intro (rd_M (by assumption)) ?_))); try simp only [push_cast, reduceIte, Nat.reduceEqDiff, reduceCtorEq, Nat.reduceAdd, Nat.reduceSub, Nat.reduceMul, Int.reduceToNat, Nat.reduceLeDiff])
      | (refine Exists.intro _ (And.intro (by assumption) ?_); try simp only [push_cast, reduceIte, Nat.reduceEqDiff, reduceCtorEq, Nat.reduceAdd, Nat.reduceSub, Nat.reduceMul, Int.reduceToNat, Nat.reduceLeDiff])
      | (refine Exists.intro _ (Exists.intro _ (Exists.intro _ (And.intro (by assumption) ?_))); try simp only [push_cast, reduceIte, Nat.reduceEqDiff, reduceCtorEq, Nat.reduceAdd, Nat.reduceSub, Nat.reduceMul, Int.reduceToNat, Nat.reduceLeDiff])
      | (refine xr rfl (by simp only [List.length_cons, List.length_nil]; omega) ?_; try simp only [push_cast, reduceIte, Nat.reduceEqDiff, reduceCtorEq, Nat.reduceAdd, Nat.reduceSub, Nat.reduceMul, Int.reduceToNat, Nat.reduceLeDiff])
      | (refine xi rfl (by simp only [List.length_cons, List.length_nil]; omega) ?_; try simp only [push_cast, reduceIte, Nat.reduceEqDiff, reduceCtorEq, Nat.reduceAdd, Nat.reduceSub, Nat.reduceMul, Int.reduceToNat, Nat.reduceLeDiff])
      | (refine xs rfl (by simp only [List.length_cons, List.length_nil]; omega) ?_; try simp only [push_cast, reduceIte, Nat.reduceEqDiff, reduceCtorEq, Nat.reduceAdd, Nat.reduceSub, Nat.reduceMul, Int.reduceToNat, Nat.reduceLeDiff])
      | (refine xw ?_; simp only [push_cast, reduceIte, Nat.reduceEqDiff, reduceCtorEq, Nat.reduceAdd, Nat.reduceSub, Nat.reduceMul, Int.reduceToNat, Nat.reduceLeDiff])
      | (refine And.intro (PHeap.le_refl _) (And.intro (fun p hp => hp) ?_))
      | (refine And.intro (PHeap.le_refl _) (And.intro (fun p hp => List.mem_cons_of_mem _ hp) ?_))
      | (refine And.intro (PHeap.le_refl _) (And.intro (fun p hp => List.mem_cons_of_mem _ (List.mem_cons_of_mem _ hp)) ?_))
      | (refine And.intro (PHeap.le_refl _) (And.intro (mem_of_sub ?_) ?_); focus ((repeat' first | exact List.Sublist.refl _ | exact List.nil_sublist _ | exact List.sublist_append_left _ _ | refine List.Sublist.cons_cons _ ?_ | refine List.Sublist.append_left ?_ _ | refine List.sublist_append_of_sublist_right ?_ | refine List.Sublist.cons _ ?_); done); try simp only [push_cast, reduceIte, Nat.reduceEqDiff, reduceCtorEq, Nat.reduceAdd, Nat.reduceSub, Nat.reduceMul, Int.reduceToNat, Nat.reduceLeDiff])
      | (exfalso; simp at hc; done)
      | (exfalso; omega)
      | exact false
      | fail "stuck"
  rename_i b2 b4
  refine EV.to (ρ' := [(1, .func (.func g) #[] #[]), (4, pv b4 0), (5, pv b 0), (13, .slice a ts.length c), (14, vi ts.length), (15, vi (0 : Nat))])
    (G' := [(b, Cl 24 [osv none 0]), (b4, Cl 24 [.slice none 0 0])] ++ osg 53 none []) ?_ ?env0 (by (repeat' first | exact List.Sublist.refl _ | exact List.nil_sublist _ | exact List.sublist_append_left _ _ | refine List.Sublist.cons_cons _ ?_ | refine List.Sublist.append_left ?_ _ | refine List.sublist_append_of_sublist_right ?_ | refine List.Sublist.cons _ ?_))
  case env0 =>
    repeat' first
      | (refine List.forall_mem_cons.2 (And.intro ?_ ?_))
      | (intro _ hnil; cases hnil; done)
      | rfl
      | (refine env_w64 rfl (by first | rfl | (push_cast; first | rfl | omega)) (by omega) (by omega); done)
      | (simp (disch := omega) only [get_cons, get_nil, reduceIte, Nat.reduceEqDiff, Option.some.injEq, Value.int.injEq, w64, Int.natCast_add, Int.natCast_one, Int.cast_ofNat_Int, Int.natCast_zero]; done)
  refine EV.loop (fun x : Nat × PHeap × Vec × List Value => ([(1, .func (.func g) #[] #[]), (4, pv b4 0), (5, pv b 0), (13, .slice a ts.length c), (14, vi ts.length), (15, vi x.1)], x.2.1,
      [(b, Cl 24 [osv x.2.2.1 x.1]), (b4, Cl 24 [.slice none 0 0])] ++ osg 53 x.2.2.1 x.2.2.2))
    (fun x => x.1 ≤ ts.length ∧ M.le x.2.1 ∧ osok 1 x.2.2.1 x.1 x.2.2.2 ∧ x.2.2.2.length = x.1 ∧ ∀ k (h : k < x.2.2.2.length) (h' : k < ts.length), Sl x.2.1 5 encOp x.2.2.2[k] (rebGo f true ts[k]))
    (fun x => ts.length - x.1) (0, M, none, []) ⟨Nat.zero_le _, PHeap.le_refl _, ⟨rfl, rfl⟩, rfl, fun k h => absurd h (by simp)⟩ ?_
  rintro ⟨i, Mi, oq, vs'⟩ ⟨hi, hMi, hoq, hlen', hSl⟩ ih
  dsimp only at hi hMi hoq hlen' hSl ih ⊢
  repeat' first
      | refine EV.seq ?_
      | refine EV.skip ?_
      | refine EV.block ?_
      | refine EV.inBlock ?_
      | (refine EV.reg ?_; (conv => (arg 2; whnf)); simp only [push_cast, reduceIte, Nat.reduceEqDiff, reduceCtorEq, Nat.reduceAdd, Nat.reduceSub, Nat.reduceMul, Int.reduceToNat, Nat.reduceLeDiff])
      | (refine EV.any _ (List.Sublist.refl _) ?_; (conv => (arg 2; whnf)); simp only [push_cast, reduceIte, Nat.reduceEqDiff, reduceCtorEq, Nat.reduceAdd, Nat.reduceSub, Nat.reduceMul, Int.reduceToNat, Nat.reduceLeDiff])
      | assumption
      | (refine condW.merge ?_ (fun hc K' hK => ?_) ?_; rotate_left)
      | (refine condQ.mk ?_ (fun hc => ?_) ?_; rotate_left; (try simp only [decide_eq_true_eq, decide_eq_false_iff_not, Bool.not_eq_true', Bool.not_eq_false', Bool.and_eq_true, Bool.or_eq_true, Bool.and_eq_false_iff, Bool.or_eq_false_iff] at hc))
      | (with_reducible rfl)
      | ((refine EV.cond rfl (fun h => ?_) (fun h => ?_) <;> try simp only [reduceCtorEq, reduceIte, if_true, if_false, Bool.not_eq_true', Bool.not_eq_false', decide_eq_true_eq, decide_eq_false_iff_not, Bool.and_eq_true, Bool.or_eq_true, Bool.and_eq_false_iff, Bool.or_eq_false_iff] at h) <;> try (exfalso; first | exact h True.intro | (exact h; done) | omega))
      | (refine EV.exit rfl ?_)
      | (with_reducible intro b; try simp only [push_cast, reduceIte, Nat.reduceEqDiff, reduceCtorEq, Nat.reduceAdd, Nat.reduceSub, Nat.reduceMul, Int.reduceToNat, Nat.reduceLeDiff])
      | with_reducible intro b
      | (refine And.intro (by omega) ?_)
      | (refine Exists.intro _ (And.intro (rd_M (by assumption)) ?_); try simp only [push_cast, reduceIte, Nat.reduceEqDiff, reduceCtorEq, Nat.reduceAdd, Nat.reduceSub, Nat.reduceMul, Int.reduceToNat, Nat.reduceLeDiff])
      | (refine Exists.intro _ (Exists.intro _ (Exists.intro _ (And.intro (rd_M (by assumption)) ?_))); try simp only [push_cast, reduceIte, Nat.reduceEqDiff, reduceCtorEq, Nat.reduceAdd, Nat.reduceSub, Nat.reduceMul, Int.reduceToNat, Nat.reduceLeDiff])
      | (refine Exists.intro _ (And.intro (by assumption) ?_); try simp only [push_cast, reduceIte, Nat.reduceEqDiff, reduceCtorEq, Nat.reduceAdd, Nat.reduceSub, Nat.reduceMul, Int.reduceToNat, Nat.reduceLeDiff])
      | (refine Exists.intro _ (Exists.intro _ (Exists.intro _ (And.intro (by assumption) ?_))); try simp only [push_cast, reduceIte, Nat.reduceEqDiff, reduceCtorEq, Nat.reduceAdd, Nat.reduceSub, Nat.reduceMul, Int.reduceToNat, Nat.reduceLeDiff])
      | (refine xr rfl (by simp only [List.length_cons, List.length_nil]; omega) ?_; try simp only [push_cast, reduceIte, Nat.reduceEqDiff, reduceCtorEq, Nat.reduceAdd, Nat.reduceSub, Nat.reduceMul, Int.reduceToNat, Nat.reduceLeDiff])
      | (refine xi rfl (by simp only [List.length_cons, List.length_nil]; omega) ?_; try simp only [push_cast, reduceIte, Nat.reduceEqDiff, reduceCtorEq, Nat.reduceAdd, Nat.reduceSub, Nat.reduceMul, Int.reduceToNat, Nat.reduceLeDiff])
      | (refine xs rfl (by simp only [List.length_cons, List.length_nil]; omega) ?_; try simp only [push_cast, reduceIte, Nat.reduceEqDiff, reduceCtorEq, Nat.reduceAdd, Nat.reduceSub, Nat.reduceMul, Int.reduceToNat, Nat.reduceLeDiff])
      | (refine xw ?_; simp only [push_cast, reduceIte, Nat.reduceEqDiff, reduceCtorEq, Nat.reduceAdd, Nat.reduceSub, Nat.reduceMul, Int.reduceToNat, Nat.reduceLeDiff])
      | (refine And.intro (PHeap.le_refl _) (And.intro (fun p hp => hp) ?_))
      | (refine And.intro (PHeap.le_refl _) (And.intro (fun p hp => List.mem_cons_of_mem _ hp) ?_))
      | (refine And.intro (PHeap.le_refl _) (And.intro (fun p hp => List.mem_cons_of_mem _ (List.mem_cons_of_mem _ hp)) ?_))
      | (refine And.intro (PHeap.le_refl _) (And.intro (mem_of_sub ?_) ?_); focus ((repeat' first | exact List.Sublist.refl _ | exact List.nil_sublist _ | exact List.sublist_append_left _ _ | refine List.Sublist.cons_cons _ ?_ | refine List.Sublist.append_left ?_ _ | refine List.sublist_append_of_sublist_right ?_ | refine List.Sublist.cons _ ?_); done); try simp only [push_cast, reduceIte, Nat.reduceEqDiff, reduceCtorEq, Nat.reduceAdd, Nat.reduceSub, Nat.reduceMul, Int.reduceToNat, Nat.reduceLeDiff])
      | (exfalso; simp at hc; done)
      | (exfalso; omega)
      | exact false
      | fail "stuck"
  · have hi' : i < ts.length := by omega
    obtain ⟨pb, po, rfl, hat⟩ := SlSl.at (hrd.mono hMi) hl (fun k h h' => (hk k h h').mono hMi) (by omega)
    obtain ⟨a', c', hr1, hr2⟩ := hat i hi'
    simp only [Nat.mul_one] at hr1
    have hlen : ts[i].length ≤ ts.flatten.length := by have := flat_take hi'; have h2 := flat_take_le ts (i + 1); rw [this, List.length_append] at h2; omega
    have hmem : ∀ o ∈ ts[i], o ∈ ts.flatten := fun o ho => List.mem_flatten.2 ⟨ts[i], List.getElem_mem hi', ho⟩
    repeat' first
        | refine EV.seq ?_
        | refine EV.skip ?_
        | refine EV.block ?_
        | refine EV.inBlock ?_
        | (refine EV.reg ?_; (conv => (arg 2; whnf)); simp only [push_cast, reduceIte, Nat.reduceEqDiff, reduceCtorEq, Nat.reduceAdd, Nat.reduceSub, Nat.reduceMul, Int.reduceToNat, Nat.reduceLeDiff])
        | (refine EV.any _ (List.Sublist.refl _) ?_; (conv => (arg 2; whnf)); simp only [push_cast, reduceIte, Nat.reduceEqDiff, reduceCtorEq, Nat.reduceAdd, Nat.reduceSub, Nat.reduceMul, Int.reduceToNat, Nat.reduceLeDiff])
        | assumption
        | (refine condW.merge ?_ (fun hc K' hK => ?_) ?_; rotate_left)
        | (refine condQ.mk ?_ (fun hc => ?_) ?_; rotate_left; (try simp only [decide_eq_true_eq, decide_eq_false_iff_not, Bool.not_eq_true', Bool.not_eq_false', Bool.and_eq_true, Bool.or_eq_true, Bool.and_eq_false_iff, Bool.or_eq_false_iff] at hc))
        | (with_reducible rfl)
        | ((refine EV.cond rfl (fun h => ?_) (fun h => ?_) <;> try simp only [reduceCtorEq, reduceIte, if_true, if_false, Bool.not_eq_true', Bool.not_eq_false', decide_eq_true_eq, decide_eq_false_iff_not, Bool.and_eq_true, Bool.or_eq_true, Bool.and_eq_false_iff, Bool.or_eq_false_iff] at h) <;> try (exfalso; first | exact h True.intro | (exact h; done) | omega))
        | (refine EV.exit rfl ?_)
        | (with_reducible intro b; try simp only [push_cast, reduceIte, Nat.reduceEqDiff, reduceCtorEq, Nat.reduceAdd, Nat.reduceSub, Nat.reduceMul, Int.reduceToNat, Nat.reduceLeDiff])
        | with_reducible intro b
        | (refine And.intro (by omega) ?_)
        | (refine Exists.intro _ (And.intro (rd_M (by assumption)) ?_); try simp only [push_cast, reduceIte, Nat.reduceEqDiff, reduceCtorEq, Nat.reduceAdd, Nat.reduceSub, Nat.reduceMul, Int.reduceToNat, Nat.reduceLeDiff])
        | (refine Exists.intro _ (Exists.intro _ (Exists.intro _ (And.intro (rd_M (by assumption)) ?_))); try simp only [push_cast, reduceIte, Nat.reduceEqDiff, reduceCtorEq, Nat.reduceAdd, Nat.reduceSub, Nat.reduceMul, Int.reduceToNat, Nat.reduceLeDiff])
        | (refine Exists.intro _ (And.intro (by assumption) ?_); try simp only [push_cast, reduceIte, Nat.reduceEqDiff, reduceCtorEq, Nat.reduceAdd, Nat.reduceSub, Nat.reduceMul, Int.reduceToNat, Nat.reduceLeDiff])
        | (refine Exists.intro _ (Exists.intro _ (Exists.intro _ (And.intro (by assumption) ?_))); try simp only [push_cast, reduceIte, Nat.reduceEqDiff, reduceCtorEq, Nat.reduceAdd, Nat.reduceSub, Nat.reduceMul, Int.reduceToNat, Nat.reduceLeDiff])
        | (refine xr rfl (by simp only [List.length_cons, List.length_nil]; omega) ?_; try simp only [push_cast, reduceIte, Nat.reduceEqDiff, reduceCtorEq, Nat.reduceAdd, Nat.reduceSub, Nat.reduceMul, Int.reduceToNat, Nat.reduceLeDiff])
        | (refine xi rfl (by simp only [List.length_cons, List.length_nil]; omega) ?_; try simp only [push_cast, reduceIte, Nat.reduceEqDiff, reduceCtorEq, Nat.reduceAdd, Nat.reduceSub, Nat.reduceMul, Int.reduceToNat, Nat.reduceLeDiff])
        | (refine xs rfl (by simp only [List.length_cons, List.length_nil]; omega) ?_; try simp only [push_cast, reduceIte, Nat.reduceEqDiff, reduceCtorEq, Nat.reduceAdd, Nat.reduceSub, Nat.reduceMul, Int.reduceToNat, Nat.reduceLeDiff])
        | (refine xw ?_; simp only [push_cast, reduceIte, Nat.reduceEqDiff, reduceCtorEq, Nat.reduceAdd, Nat.reduceSub, Nat.reduceMul, Int.reduceToNat, Nat.reduceLeDiff])
        | (refine And.intro (PHeap.le_refl _) (And.intro (fun p hp => hp) ?_))
        | (refine And.intro (PHeap.le_refl _) (And.intro (fun p hp => List.mem_cons_of_mem _ hp) ?_))
        | (refine And.intro (PHeap.le_refl _) (And.intro (fun p hp => List.mem_cons_of_mem _ (List.mem_cons_of_mem _ hp)) ?_))
        | (refine And.intro (PHeap.le_refl _) (And.intro (mem_of_sub ?_) ?_); focus ((repeat' first | exact List.Sublist.refl _ | exact List.nil_sublist _ | exact List.sublist_append_left _ _ | refine List.Sublist.cons_cons _ ?_ | refine List.Sublist.append_left ?_ _ | refine List.sublist_append_of_sublist_right ?_ | refine List.Sublist.cons _ ?_); done); try simp only [push_cast, reduceIte, Nat.reduceEqDiff, reduceCtorEq, Nat.reduceAdd, Nat.reduceSub, Nat.reduceMul, Int.reduceToNat, Nat.reduceLeDiff])
        | (exfalso; simp at hc; done)
        | (exfalso; omega)
        | exact false
        | fail "stuck"
    refine EV.to (ρ' := [(1, .func (.func g) #[] #[]), (4, pv b4 0), (5, pv b 0), (8, osv none (rebGo f true (ts[i].take 0)).length), (9, vb (noAcc (ts[i].take 0))), (13, .slice (some ⟨pb, po, none⟩) ts.length c), (14, vi ts.length), (15, vi i), (19, .slice a' ts[i].length c'), (20, vi ts[i].length), (21, vi (0 : Nat))])
      (G' := [(b, Cl 24 [osv oq i]), (b4, Cl 24 [.slice none 0 0])] ++ (osg 53 oq vs' ++ osg 55 none ((rebGo f true (ts[i].take 0)).flatMap encOp))) ?_ ?env1 (by simp only [osg, List.append_nil]; exact List.Sublist.refl _)
    case env1 =>
      repeat' first
        | (refine List.forall_mem_cons.2 (And.intro ?_ ?_))
        | (intro _ hnil; cases hnil; done)
        | rfl
        | (refine env_w64 rfl (by first | rfl | (push_cast; first | rfl | omega)) (by omega) (by omega); done)
        | (simp (disch := omega) only [get_cons, get_nil, reduceIte, Nat.reduceEqDiff, Option.some.injEq, Value.int.injEq, w64, Int.natCast_add, Int.natCast_one, Int.cast_ofNat_Int, Int.natCast_zero]; done)
    refine EV.loop (fun x : Nat × Vec => ([(1, .func (.func g) #[] #[]), (4, pv b4 0), (5, pv b 0), (8, osv x.2 (rebGo f true (ts[i].take x.1)).length), (9, vb (noAcc (ts[i].take x.1))), (13, .slice (some ⟨pb, po, none⟩) ts.length c), (14, vi ts.length), (15, vi i), (19, .slice a' ts[i].length c'), (20, vi ts[i].length), (21, vi x.1)], Mi,
        [(b, Cl 24 [osv oq i]), (b4, Cl 24 [.slice none 0 0])] ++ (osg 53 oq vs' ++ osg 55 x.2 ((rebGo f true (ts[i].take x.1)).flatMap encOp))))
      (fun x => x.1 ≤ ts[i].length ∧ osok 5 x.2 (rebGo f true (ts[i].take x.1)).length ((rebGo f true (ts[i].take x.1)).flatMap encOp))
      (fun x => ts[i].length - x.1) (0, none) ⟨Nat.zero_le _, rfl, rfl⟩ ?_
    rintro ⟨j, ov⟩ ⟨hj, hov⟩ ih2
    dsimp only at hj hov ih2 ⊢
    repeat' first
        | refine EV.seq ?_
        | refine EV.skip ?_
        | refine EV.block ?_
        | refine EV.inBlock ?_
        | (refine EV.reg ?_; (conv => (arg 2; whnf)); simp only [push_cast, reduceIte, Nat.reduceEqDiff, reduceCtorEq, Nat.reduceAdd, Nat.reduceSub, Nat.reduceMul, Int.reduceToNat, Nat.reduceLeDiff])
        | (refine EV.any _ (List.Sublist.refl _) ?_; (conv => (arg 2; whnf)); simp only [push_cast, reduceIte, Nat.reduceEqDiff, reduceCtorEq, Nat.reduceAdd, Nat.reduceSub, Nat.reduceMul, Int.reduceToNat, Nat.reduceLeDiff])
        | assumption
        | (refine condW.merge ?_ (fun hc K' hK => ?_) ?_; rotate_left)
        | (refine condQ.mk ?_ (fun hc => ?_) ?_; rotate_left; (try simp only [decide_eq_true_eq, decide_eq_false_iff_not, Bool.not_eq_true', Bool.not_eq_false', Bool.and_eq_true, Bool.or_eq_true, Bool.and_eq_false_iff, Bool.or_eq_false_iff] at hc))
        | (with_reducible rfl)
        | ((refine EV.cond rfl (fun h => ?_) (fun h => ?_) <;> try simp only [reduceCtorEq, reduceIte, if_true, if_false, Bool.not_eq_true', Bool.not_eq_false', decide_eq_true_eq, decide_eq_false_iff_not, Bool.and_eq_true, Bool.or_eq_true, Bool.and_eq_false_iff, Bool.or_eq_false_iff] at h) <;> try (exfalso; first | exact h True.intro | (exact h; done) | omega))
        | (refine EV.exit rfl ?_)
        | (with_reducible intro b; try simp only [push_cast, reduceIte, Nat.reduceEqDiff, reduceCtorEq, Nat.reduceAdd, Nat.reduceSub, Nat.reduceMul, Int.reduceToNat, Nat.reduceLeDiff])
        | with_reducible intro b
        | (refine And.intro (by omega) ?_)
        | (refine Exists.intro _ (And.intro (rd_M (by assumption)) ?_); try simp only [push_cast, reduceIte, Nat.reduceEqDiff, reduceCtorEq, Nat.reduceAdd, Nat.reduceSub, Nat.reduceMul, Int.reduceToNat, Nat.reduceLeDiff])
        | (refine Exists.intro _ (Exists.intro _ (Exists.intro _ (And.intro (rd_M (by assumption)) ?_))); try simp only [push_cast, reduceIte, Nat.reduceEqDiff, reduceCtorEq, Nat.reduceAdd, Nat.reduceSub, Nat.reduceMul, Int.reduceToNat, Nat.reduceLeDiff])
        | (refine Exists.intro _ (And.intro (by assumption) ?_); try simp only [push_cast, reduceIte, Nat.reduceEqDiff, reduceCtorEq, Nat.reduceAdd, Nat.reduceSub, Nat.reduceMul, Int.reduceToNat, Nat.reduceLeDiff])
        | (refine Exists.intro _ (Exists.intro _ (Exists.intro _ (And.intro (by assumption) ?_))); try simp only [push_cast, reduceIte, Nat.reduceEqDiff, reduceCtorEq, Nat.reduceAdd, Nat.reduceSub, Nat.reduceMul, Int.reduceToNat, Nat.reduceLeDiff])
        | (refine xr rfl (by simp only [List.length_cons, List.length_nil]; omega) ?_; try simp only [push_cast, reduceIte, Nat.reduceEqDiff, reduceCtorEq, Nat.reduceAdd, Nat.reduceSub, Nat.reduceMul, Int.reduceToNat, Nat.reduceLeDiff])
        | (refine xi rfl (by simp only [List.length_cons, List.length_nil]; omega) ?_; try simp only [push_cast, reduceIte, Nat.reduceEqDiff, reduceCtorEq, Nat.reduceAdd, Nat.reduceSub, Nat.reduceMul, Int.reduceToNat, Nat.reduceLeDiff])
        | (refine xs rfl (by simp only [List.length_cons, List.length_nil]; omega) ?_; try simp only [push_cast, reduceIte, Nat.reduceEqDiff, reduceCtorEq, Nat.reduceAdd, Nat.reduceSub, Nat.reduceMul, Int.reduceToNat, Nat.reduceLeDiff])
        | (refine xw ?_; simp only [push_cast, reduceIte, Nat.reduceEqDiff, reduceCtorEq, Nat.reduceAdd, Nat.reduceSub, Nat.reduceMul, Int.reduceToNat, Nat.reduceLeDiff])
        | (refine And.intro (PHeap.le_refl _) (And.intro (fun p hp => hp) ?_))
        | (refine And.intro (PHeap.le_refl _) (And.intro (fun p hp => List.mem_cons_of_mem _ hp) ?_))
        | (refine And.intro (PHeap.le_refl _) (And.intro (fun p hp => List.mem_cons_of_mem _ (List.mem_cons_of_mem _ hp)) ?_))
        | (refine And.intro (PHeap.le_refl _) (And.intro (mem_of_sub ?_) ?_); focus ((repeat' first | exact List.Sublist.refl _ | exact List.nil_sublist _ | exact List.sublist_append_left _ _ | refine List.Sublist.cons_cons _ ?_ | refine List.Sublist.append_left ?_ _ | refine List.sublist_append_of_sublist_right ?_ | refine List.Sublist.cons _ ?_); done); try simp only [push_cast, reduceIte, Nat.reduceEqDiff, reduceCtorEq, Nat.reduceAdd, Nat.reduceSub, Nat.reduceMul, Int.reduceToNat, Nat.reduceLeDiff])
        | (exfalso; simp at hc; done)
        | (exfalso; omega)
        | exact false
        | fail "stuck"
    · have hj' : j < ts[i].length := by omega
      obtain ⟨qb, qo, rfl, hat2⟩ := Sl.at (enc := encOp) (fun _ => rfl) (by omega) hr2 (by omega)
      have hr3 := hat2 j hj'
      repeat' first
          | refine EV.seq ?_
          | refine EV.skip ?_
          | refine EV.block ?_
          | refine EV.inBlock ?_
          | (refine EV.reg ?_; (conv => (arg 2; whnf)); simp only [push_cast, reduceIte, Nat.reduceEqDiff, reduceCtorEq, Nat.reduceAdd, Nat.reduceSub, Nat.reduceMul, Int.reduceToNat, Nat.reduceLeDiff])
          | (refine EV.any _ (List.Sublist.refl _) ?_; (conv => (arg 2; whnf)); simp only [push_cast, reduceIte, Nat.reduceEqDiff, reduceCtorEq, Nat.reduceAdd, Nat.reduceSub, Nat.reduceMul, Int.reduceToNat, Nat.reduceLeDiff])
          | assumption
          | (refine condW.merge ?_ (fun hc K' hK => ?_) ?_; rotate_left)
          | (refine condQ.mk ?_ (fun hc => ?_) ?_; rotate_left; (try simp only [decide_eq_true_eq, decide_eq_false_iff_not, Bool.not_eq_true', Bool.not_eq_false', Bool.and_eq_true, Bool.or_eq_true, Bool.and_eq_false_iff, Bool.or_eq_false_iff] at hc))
          | (with_reducible rfl)
          | ((refine EV.cond rfl (fun h => ?_) (fun h => ?_) <;> try simp only [reduceCtorEq, reduceIte, if_true, if_false, Bool.not_eq_true', Bool.not_eq_false', decide_eq_true_eq, decide_eq_false_iff_not, Bool.and_eq_true, Bool.or_eq_true, Bool.and_eq_false_iff, Bool.or_eq_false_iff] at h) <;> try (exfalso; first | exact h True.intro | (exact h; done) | omega))
          | (refine EV.exit rfl ?_)
          | (with_reducible intro b; try simp only [push_cast, reduceIte, Nat.reduceEqDiff, reduceCtorEq, Nat.reduceAdd, Nat.reduceSub, Nat.reduceMul, Int.reduceToNat, Nat.reduceLeDiff])
          | with_reducible intro b
          | (refine And.intro (by omega) ?_)
          | (refine Exists.intro _ (And.intro (rd_M (by assumption)) ?_); try simp only [push_cast, reduceIte, Nat.reduceEqDiff, reduceCtorEq, Nat.reduceAdd, Nat.reduceSub, Nat.reduceMul, Int.reduceToNat, Nat.reduceLeDiff])
          | (refine Exists.intro _ (Exists.intro _ (Exists.intro _ (And.intro (rd_M (by assumption)) ?_))); try simp only [push_cast, reduceIte, Nat.reduceEqDiff, reduceCtorEq, Nat.reduceAdd, Nat.reduceSub, Nat.reduceMul, Int.reduceToNat, Nat.reduceLeDiff])
          | (refine Exists.intro _ (And.intro (by assumption) ?_); try simp only [push_cast, reduceIte, Nat.reduceEqDiff, reduceCtorEq, Nat.reduceAdd, Nat.reduceSub, Nat.reduceMul, Int.reduceToNat, Nat.reduceLeDiff])
          | (refine Exists.intro _ (Exists.intro _ (Exists.intro _ (And.intro (by assumption) ?_))); try simp only [push_cast, reduceIte, Nat.reduceEqDiff, reduceCtorEq, Nat.reduceAdd, Nat.reduceSub, Nat.reduceMul, Int.reduceToNat, Nat.reduceLeDiff])
          | (refine xr rfl (by simp only [List.length_cons, List.length_nil]; omega) ?_; try simp only [push_cast, reduceIte, Nat.reduceEqDiff, reduceCtorEq, Nat.reduceAdd, Nat.reduceSub, Nat.reduceMul, Int.reduceToNat, Nat.reduceLeDiff])
          | (refine xi rfl (by simp only [List.length_cons, List.length_nil]; omega) ?_; try simp only [push_cast, reduceIte, Nat.reduceEqDiff, reduceCtorEq, Nat.reduceAdd, Nat.reduceSub, Nat.reduceMul, Int.reduceToNat, Nat.reduceLeDiff])
          | (refine xs rfl (by simp only [List.length_cons, List.length_nil]; omega) ?_; try simp only [push_cast, reduceIte, Nat.reduceEqDiff, reduceCtorEq, Nat.reduceAdd, Nat.reduceSub, Nat.reduceMul, Int.reduceToNat, Nat.reduceLeDiff])
          | (refine xw ?_; simp only [push_cast, reduceIte, Nat.reduceEqDiff, reduceCtorEq, Nat.reduceAdd, Nat.reduceSub, Nat.reduceMul, Int.reduceToNat, Nat.reduceLeDiff])
          | (refine And.intro (PHeap.le_refl _) (And.intro (fun p hp => hp) ?_))
          | (refine And.intro (PHeap.le_refl _) (And.intro (fun p hp => List.mem_cons_of_mem _ hp) ?_))
          | (refine And.intro (PHeap.le_refl _) (And.intro (fun p hp => List.mem_cons_of_mem _ (List.mem_cons_of_mem _ hp)) ?_))
          | (refine And.intro (PHeap.le_refl _) (And.intro (mem_of_sub ?_) ?_); focus ((repeat' first | exact List.Sublist.refl _ | exact List.nil_sublist _ | exact List.sublist_append_left _ _ | refine List.Sublist.cons_cons _ ?_ | refine List.Sublist.append_left ?_ _ | refine List.sublist_append_of_sublist_right ?_ | refine List.Sublist.cons _ ?_); done); try simp only [push_cast, reduceIte, Nat.reduceEqDiff, reduceCtorEq, Nat.reduceAdd, Nat.reduceSub, Nat.reduceMul, Int.reduceToNat, Nat.reduceLeDiff])
          | (exfalso; simp at hc; done)
          | (exfalso; omega)
          | exact false
          | fail "stuck"
      have hgj := fun M => hg M ts[i][j] (noAcc (ts[i].take j)) (hmem _ (List.getElem_mem hj'))
      have hlen3 := (hgj M).1
      refine Con.callB (G1 := []) (hgj _).2 (PHeap.le_refl _) (List.Perm.refl _) ?_
      rintro v M' G' ⟨ov', rfl, hov', rfl⟩
      simp only [push_cast, reduceIte, Nat.reduceEqDiff, reduceCtorEq, Nat.reduceAdd, Nat.reduceSub, Nat.reduceMul, Int.reduceToNat, Nat.reduceLeDiff]
      have hrl : (rebGo f true (ts[i].take j)).length ≤ 3 * (ts[i].take j).length := rebGo_len (fun o ho b => (hg M o b (hmem _ (List.mem_of_mem_take ho))).1) true
      have htl : (ts[i].take j).length ≤ j := by simp; omega
      refine ⟨_, rd_osg (T := 55) hov' (fun p hp => by simp [hp]), ok1_ops _, Or.inl ⟨ov, _, rfl, _, hov, _, cat_pull [[_, _, _], osg 53 oq vs', osg 55 ov _, osg 55 ov' _] 2 (by simp), ?_, ?_, ?_⟩⟩
      · simp only [maxLen]; omega
      · omega
      intro o' ho' _
      simp only [List.eraseIdx_cons_succ, List.eraseIdx_cons_zero, List.getElem_cons_succ, List.getElem_cons_zero, List.insertIdx_zero, List.insertIdx_succ_cons, cat_two, cat_one, cat_nil, List.nil_append, List.cons_append, List.append_assoc, List.append_nil]
      repeat' first
          | refine EV.seq ?_
          | refine EV.skip ?_
          | refine EV.block ?_
          | refine EV.inBlock ?_
          | (refine EV.reg ?_; (conv => (arg 2; whnf)); simp only [push_cast, reduceIte, Nat.reduceEqDiff, reduceCtorEq, Nat.reduceAdd, Nat.reduceSub, Nat.reduceMul, Int.reduceToNat, Nat.reduceLeDiff])
          | (refine EV.any _ (List.Sublist.refl _) ?_; (conv => (arg 2; whnf)); simp only [push_cast, reduceIte, Nat.reduceEqDiff, reduceCtorEq, Nat.reduceAdd, Nat.reduceSub, Nat.reduceMul, Int.reduceToNat, Nat.reduceLeDiff])
          | (refine ConQ.call (litmus_access_q _) ?_; try simp only [push_cast, reduceIte, Nat.reduceEqDiff, reduceCtorEq, Nat.reduceAdd, Nat.reduceSub, Nat.reduceMul, Int.reduceToNat, Nat.reduceLeDiff])
          | (refine Exists.intro _ (And.intro (litmus_access_q _) ?_); try simp only [push_cast, reduceIte, Nat.reduceEqDiff, reduceCtorEq, Nat.reduceAdd, Nat.reduceSub, Nat.reduceMul, Int.reduceToNat, Nat.reduceLeDiff])
          | assumption
          | (refine condW.merge ?_ (fun hc K' hK => ?_) ?_; rotate_left)
          | (refine condQ.mk ?_ (fun hc => ?_) ?_; rotate_left; (try simp only [decide_eq_true_eq, decide_eq_false_iff_not, Bool.not_eq_true', Bool.not_eq_false', Bool.and_eq_true, Bool.or_eq_true, Bool.and_eq_false_iff, Bool.or_eq_false_iff] at hc))
          | (with_reducible rfl)
          | ((refine EV.cond rfl (fun h => ?_) (fun h => ?_) <;> try simp only [reduceCtorEq, reduceIte, if_true, if_false, Bool.not_eq_true', Bool.not_eq_false', decide_eq_true_eq, decide_eq_false_iff_not, Bool.and_eq_true, Bool.or_eq_true, Bool.and_eq_false_iff, Bool.or_eq_false_iff] at h) <;> try (exfalso; first | exact h True.intro | (exact h; done) | omega))
          | (refine EV.exit rfl ?_)
          | (with_reducible intro b; try simp only [push_cast, reduceIte, Nat.reduceEqDiff, reduceCtorEq, Nat.reduceAdd, Nat.reduceSub, Nat.reduceMul, Int.reduceToNat, Nat.reduceLeDiff])
          | with_reducible intro b
          | (refine And.intro (by omega) ?_)
          | (refine Exists.intro _ (And.intro (rd_M (by assumption)) ?_); try simp only [push_cast, reduceIte, Nat.reduceEqDiff, reduceCtorEq, Nat.reduceAdd, Nat.reduceSub, Nat.reduceMul, Int.reduceToNat, Nat.reduceLeDiff])
          | (refine Exists.intro _ (Exists.intro _ (Exists.intro _ (And.intro (rd_M (by assumption)) ?_))); try simp only [push_cast, reduceIte, Nat.reduceEqDiff, reduceCtorEq, Nat.reduceAdd, Nat.reduceSub, Nat.reduceMul, Int.reduceToNat, Nat.reduceLeDiff])
          | (refine Exists.intro _ (And.intro (by assumption) ?_); try simp only [push_cast, reduceIte, Nat.reduceEqDiff, reduceCtorEq, Nat.reduceAdd, Nat.reduceSub, Nat.reduceMul, Int.reduceToNat, Nat.reduceLeDiff])
          | (refine Exists.intro _ (Exists.intro _ (Exists.intro _ (And.intro (by assumption) ?_))); try simp only [push_cast, reduceIte, Nat.reduceEqDiff, reduceCtorEq, Nat.reduceAdd, Nat.reduceSub, Nat.reduceMul, Int.reduceToNat, Nat.reduceLeDiff])
          | (refine xr rfl (by simp only [List.length_cons, List.length_nil]; omega) ?_; try simp only [push_cast, reduceIte, Nat.reduceEqDiff, reduceCtorEq, Nat.reduceAdd, Nat.reduceSub, Nat.reduceMul, Int.reduceToNat, Nat.reduceLeDiff])
          | (refine xi rfl (by simp only [List.length_cons, List.length_nil]; omega) ?_; try simp only [push_cast, reduceIte, Nat.reduceEqDiff, reduceCtorEq, Nat.reduceAdd, Nat.reduceSub, Nat.reduceMul, Int.reduceToNat, Nat.reduceLeDiff])
          | (refine xs rfl (by simp only [List.length_cons, List.length_nil]; omega) ?_; try simp only [push_cast, reduceIte, Nat.reduceEqDiff, reduceCtorEq, Nat.reduceAdd, Nat.reduceSub, Nat.reduceMul, Int.reduceToNat, Nat.reduceLeDiff])
          | (refine xw ?_; simp only [push_cast, reduceIte, Nat.reduceEqDiff, reduceCtorEq, Nat.reduceAdd, Nat.reduceSub, Nat.reduceMul, Int.reduceToNat, Nat.reduceLeDiff])
          | (refine And.intro (PHeap.le_refl _) (And.intro (fun p hp => hp) ?_))
          | (refine And.intro (PHeap.le_refl _) (And.intro (fun p hp => List.mem_cons_of_mem _ hp) ?_))
          | (refine And.intro (PHeap.le_refl _) (And.intro (fun p hp => List.mem_cons_of_mem _ (List.mem_cons_of_mem _ hp)) ?_))
          | (refine And.intro (PHeap.le_refl _) (And.intro (mem_of_sub ?_) ?_); focus ((repeat' first | exact List.Sublist.refl _ | exact List.nil_sublist _ | exact List.sublist_append_left _ _ | refine List.Sublist.cons_cons _ ?_ | refine List.Sublist.append_left ?_ _ | refine List.sublist_append_of_sublist_right ?_ | refine List.Sublist.cons _ ?_); done); try simp only [push_cast, reduceIte, Nat.reduceEqDiff, reduceCtorEq, Nat.reduceAdd, Nat.reduceSub, Nat.reduceMul, Int.reduceToNat, Nat.reduceLeDiff])
          | (exfalso; simp at hc; done)
          | (exfalso; omega)
          | exact false
          | fail "stuck"
      have e := rebGo_take (f := f) hj'
      have ih3 := ih2 (j + 1, o') ⟨by dsimp only; omega, by rw [e, List.length_append, List.flatMap_append]; exact ho'⟩ (by dsimp only; omega)
      dsimp only at ih3
      rw [noAcc_take hj', e, List.length_append, List.flatMap_append] at ih3
      refine EV.to ih3 ?_ (by (repeat' first | exact List.Sublist.refl _ | exact List.nil_sublist _ | exact List.sublist_append_left _ _ | refine List.Sublist.cons_cons _ ?_ | refine List.Sublist.append_left ?_ _ | refine List.sublist_append_of_sublist_right ?_ | refine List.Sublist.cons _ ?_))
      repeat' first
        | (refine List.forall_mem_cons.2 (And.intro ?_ ?_))
        | (intro _ hnil; cases hnil; done)
        | rfl
        | (refine env_w64 rfl (by first | rfl | (push_cast; first | rfl | omega)) (by omega) (by omega); done)
        | (simp (disch := omega) only [get_cons, get_nil, reduceIte, Nat.reduceEqDiff, Option.some.injEq, Value.int.injEq, w64, Int.natCast_add, Int.natCast_one, Int.cast_ofNat_Int, Int.natCast_zero]; done)
    · have hj' : j = ts[i].length := by omega
      subst hj'
      rw [List.take_length] at hov ⊢
      refine ⟨[osv ov (rebGo f true ts[i]).length], Or.inr ⟨b, 0, rfl, rd_own' 0 rfl rfl (by simp)⟩, by simp [ok1_cons, ok1_nil, Value.oneCell'], Or.inl ⟨oq, i, rfl, vs', hoq, _, cat_pull [[_, _, _], osg 53 oq vs', osg 55 ov _] 1 (by simp), ?_, ?_, ?_⟩⟩
      · simp only [maxLen]; omega
      · omega
      intro o' ho' _
      simp only [List.eraseIdx_cons_succ, List.eraseIdx_cons_zero, List.getElem_cons_succ, List.getElem_cons_zero, List.insertIdx_zero, List.insertIdx_succ_cons, cat_two, cat_one, cat_nil, List.nil_append, List.cons_append, List.append_assoc, List.append_nil]
      repeat' first
          | refine EV.seq ?_
          | refine EV.skip ?_
          | refine EV.block ?_
          | refine EV.inBlock ?_
          | (refine EV.reg ?_; (conv => (arg 2; whnf)); simp only [push_cast, reduceIte, Nat.reduceEqDiff, reduceCtorEq, Nat.reduceAdd, Nat.reduceSub, Nat.reduceMul, Int.reduceToNat, Nat.reduceLeDiff])
          | (refine EV.any _ (List.Sublist.refl _) ?_; (conv => (arg 2; whnf)); simp only [push_cast, reduceIte, Nat.reduceEqDiff, reduceCtorEq, Nat.reduceAdd, Nat.reduceSub, Nat.reduceMul, Int.reduceToNat, Nat.reduceLeDiff])
          | assumption
          | (refine condW.merge ?_ (fun hc K' hK => ?_) ?_; rotate_left)
          | (refine condQ.mk ?_ (fun hc => ?_) ?_; rotate_left; (try simp only [decide_eq_true_eq, decide_eq_false_iff_not, Bool.not_eq_true', Bool.not_eq_false', Bool.and_eq_true, Bool.or_eq_true, Bool.and_eq_false_iff, Bool.or_eq_false_iff] at hc))
          | (with_reducible rfl)
          | ((refine EV.cond rfl (fun h => ?_) (fun h => ?_) <;> try simp only [reduceCtorEq, reduceIte, if_true, if_false, Bool.not_eq_true', Bool.not_eq_false', decide_eq_true_eq, decide_eq_false_iff_not, Bool.and_eq_true, Bool.or_eq_true, Bool.and_eq_false_iff, Bool.or_eq_false_iff] at h) <;> try (exfalso; first | exact h True.intro | (exact h; done) | omega))
          | (refine EV.exit rfl ?_)
          | (with_reducible intro b; try simp only [push_cast, reduceIte, Nat.reduceEqDiff, reduceCtorEq, Nat.reduceAdd, Nat.reduceSub, Nat.reduceMul, Int.reduceToNat, Nat.reduceLeDiff])
          | with_reducible intro b
          | (refine And.intro (by omega) ?_)
          | (refine Exists.intro _ (And.intro (rd_M (by assumption)) ?_); try simp only [push_cast, reduceIte, Nat.reduceEqDiff, reduceCtorEq, Nat.reduceAdd, Nat.reduceSub, Nat.reduceMul, Int.reduceToNat, Nat.reduceLeDiff])
          | (refine Exists.intro _ (Exists.intro _ (Exists.intro _ (And.intro (rd_M (by assumption)) ?_))); try simp only [push_cast, reduceIte, Nat.reduceEqDiff, reduceCtorEq, Nat.reduceAdd, Nat.reduceSub, Nat.reduceMul, Int.reduceToNat, Nat.reduceLeDiff])
          | (refine Exists.intro _ (And.intro (by assumption) ?_); try simp only [push_cast, reduceIte, Nat.reduceEqDiff, reduceCtorEq, Nat.reduceAdd, Nat.reduceSub, Nat.reduceMul, Int.reduceToNat, Nat.reduceLeDiff])
          | (refine Exists.intro _ (Exists.intro _ (Exists.intro _ (And.intro (by assumption) ?_))); try simp only [push_cast, reduceIte, Nat.reduceEqDiff, reduceCtorEq, Nat.reduceAdd, Nat.reduceSub, Nat.reduceMul, Int.reduceToNat, Nat.reduceLeDiff])
          | (refine xr rfl (by simp only [List.length_cons, List.length_nil]; omega) ?_; try simp only [push_cast, reduceIte, Nat.reduceEqDiff, reduceCtorEq, Nat.reduceAdd, Nat.reduceSub, Nat.reduceMul, Int.reduceToNat, Nat.reduceLeDiff])
          | (refine xi rfl (by simp only [List.length_cons, List.length_nil]; omega) ?_; try simp only [push_cast, reduceIte, Nat.reduceEqDiff, reduceCtorEq, Nat.reduceAdd, Nat.reduceSub, Nat.reduceMul, Int.reduceToNat, Nat.reduceLeDiff])
          | (refine xs rfl (by simp only [List.length_cons, List.length_nil]; omega) ?_; try simp only [push_cast, reduceIte, Nat.reduceEqDiff, reduceCtorEq, Nat.reduceAdd, Nat.reduceSub, Nat.reduceMul, Int.reduceToNat, Nat.reduceLeDiff])
          | (refine xw ?_; simp only [push_cast, reduceIte, Nat.reduceEqDiff, reduceCtorEq, Nat.reduceAdd, Nat.reduceSub, Nat.reduceMul, Int.reduceToNat, Nat.reduceLeDiff])
          | (refine And.intro (PHeap.le_refl _) (And.intro (fun p hp => hp) ?_))
          | (refine And.intro (PHeap.le_refl _) (And.intro (fun p hp => List.mem_cons_of_mem _ hp) ?_))
          | (refine And.intro (PHeap.le_refl _) (And.intro (fun p hp => List.mem_cons_of_mem _ (List.mem_cons_of_mem _ hp)) ?_))
          | (refine And.intro (PHeap.le_refl _) (And.intro (mem_of_sub ?_) ?_); focus ((repeat' first | exact List.Sublist.refl _ | exact List.nil_sublist _ | exact List.sublist_append_left _ _ | refine List.Sublist.cons_cons _ ?_ | refine List.Sublist.append_left ?_ _ | refine List.sublist_append_of_sublist_right ?_ | refine List.Sublist.cons _ ?_); done); try simp only [push_cast, reduceIte, Nat.reduceEqDiff, reduceCtorEq, Nat.reduceAdd, Nat.reduceSub, Nat.reduceMul, Int.reduceToNat, Nat.reduceLeDiff])
          | (exfalso; simp at hc; done)
          | (exfalso; omega)
          | exact false
          | fail "stuck"
      refine EV.permG ?_ (cat_pull [[_, _, _], osg 55 ov _, osg 53 o' _] 1 (by simp))
      simp only [List.eraseIdx_cons_succ, List.eraseIdx_cons_zero, List.getElem_cons_succ, List.getElem_cons_zero, List.insertIdx_zero, List.insertIdx_succ_cons, cat_two, cat_one, cat_nil, List.nil_append, List.cons_append, List.append_assoc, List.append_nil]
      refine EV.freeze ?_
      have ih3 := ih (i + 1, Mi.add (osg 55 ov ((rebGo f true ts[i]).flatMap encOp)), o', vs' ++ [osv ov (rebGo f true ts[i]).length]) ⟨by dsimp only; omega, PHeap.le_trans hMi (PHeap.le_add _ _), ho', by simp [hlen'], ?_⟩ (by dsimp only; omega)
      dsimp only at ih3
      refine EV.to ih3 ?_ (by (repeat' first | exact List.Sublist.refl _ | exact List.nil_sublist _ | exact List.sublist_append_left _ _ | refine List.Sublist.cons_cons _ ?_ | refine List.Sublist.append_left ?_ _ | refine List.sublist_append_of_sublist_right ?_ | refine List.Sublist.cons _ ?_))
      · repeat' first
          | (refine List.forall_mem_cons.2 (And.intro ?_ ?_))
          | (intro _ hnil; cases hnil; done)
          | rfl
          | (refine env_w64 rfl (by first | rfl | (push_cast; first | rfl | omega)) (by omega) (by omega); done)
          | (simp (disch := omega) only [get_cons, get_nil, reduceIte, Nat.reduceEqDiff, Option.some.injEq, Value.int.injEq, w64, Int.natCast_add, Int.natCast_one, Int.cast_ofNat_Int, Int.natCast_zero]; done)
      · intro k hk1 hk2
        dsimp only at hk1 hk2 ⊢
        by_cases hkl : k < vs'.length
        · rw [List.getElem_append_left hkl]
          exact (hSl k hkl hk2).mono (PHeap.le_add _ _)
        · have : k = i := by simp at hk1; omega
          subst this
          rw [List.getElem_append_right (by omega)]
          simp only [hlen', Nat.sub_self, List.getElem_cons_zero]
          exact ⟨_, _, rfl, rd_osg hov (fun p hp => hp)⟩
  · have hi2 : i = ts.length := by omega
    subst hi2
    refine EV.permG ?_ (cat_pull [[_, _], osg 53 oq vs'] 1 (by simp))
    simp only [List.eraseIdx_cons_succ, List.eraseIdx_cons_zero, List.getElem_cons_succ, List.getElem_cons_zero, List.insertIdx_zero, List.insertIdx_succ_cons, cat_two, cat_one, cat_nil, List.nil_append, List.cons_append, List.append_assoc, List.append_nil]
    refine EV.freeze ?_
    refine EV.ret R_litmus_rebuilt_ok ?_
    simp only [push_cast, reduceIte, Nat.reduceEqDiff, reduceCtorEq, Nat.reduceAdd, Nat.reduceSub, Nat.reduceMul, Int.reduceToNat, Nat.reduceLeDiff, R_litmus_rebuilt]
    refine ⟨_, rd_own' 1 rfl rfl (by simp), _, rfl, oad oq, ocap oq, vs', by simp, by simpa using hlen', ?_, ?_⟩
    · simpa using rd_osg hoq (fun p hp => hp)
    · intro k h1 h2
      simp only [List.getElem_map]
      exact (hSl k h1 (by simpa using h2)).mono (PHeap.le_add _ _)

end
end Go.EV

namespace Go.EV
open Go.Proofs

def expT (l : List OpV) : List OpV := l.flatMap expOp

theorem rebGo_exp : ∀ (b : Bool) (l : List OpV), rebGo (fun o _ => expOp o) b l = expT l
  | _, [] => rfl
  | b, o :: l => by rw [rebGo, rebGo_exp]; simp [expT]

theorem checkP_zero {ts : List (List OpV)} (h : checkP ts = 0) : limitsP ts = true ∧ ts.length ≠ 0 ∧ ts.flatten.all okOp = true := by
  unfold checkP at h
  split at h
  · omega
  · split at h
    · omega
    · split at h
      · rename_i h1 h2 h3; exact ⟨by simpa using h1, h2, h3⟩
      · omega

theorem expOp_len (o : OpV) : (expOp o).length ≤ 3 := by
  unfold expOp; split <;> simp

section
variable {M : PHeap}

theorem exp_byC {l : List OpV} (hl : ∀ o ∈ l, okOp o = true) : ByC Try.prog 55 61 (fun o _ => expOp o) l := by
  intro M o b ho
  refine ⟨expOp_len o, (litmus_Expand_S1_c o b (hl o ho)).mono ?_⟩
  rintro v M' G' ⟨bb, rfl, rfl⟩
  refine ⟨some (bb, (expOp o).length, []), rfl, ⟨?_, ?_, Nat.le_refl _, ?_⟩, by simp [osg]⟩
  · rw [flatMap_length (sz := 5) (fun _ => rfl)]
  · rw [List.append_nil, flatMap_length (sz := 5) (fun _ => rfl)]
  · have := expOp_len o; simp only [maxLen]; omega

theorem litmus_Expand_c (ts : List (List OpV)) (s : Value) (hs : SlSl M 5 encOp s ts) (hb : ts.flatten.length < 1000000) (hb' : ts.length < 1000000) :
    Con Try.prog 27 #[.agg #[s]] M [] fun v M' _ => (checkP ts ≠ 0 ∧ v = .tuple #[.agg #[.slice none 0 0], vi (checkP ts)]) ∨ (checkP ts = 0 ∧ ∃ s', v = .tuple #[.agg #[s'], vi 0] ∧ SlSl M' 5 encOp s' (ts.map expT)) := by
  have hs0 := hs
  obtain ⟨a, c, vs, rfl, hl, hrd, hk⟩ := hs
  refine Con.enter R_litmus_Expand_ok (args := [.agg #[.slice a ts.length c]]) (by simp [R_litmus_Expand]) fun w0 => ?_
  simp only [R_litmus_Expand, argE]
  repeat' first
      | refine EV.seq ?_
      | refine EV.skip ?_
      | refine EV.block ?_
      | refine EV.inBlock ?_
      | (refine EV.reg ?_; (conv => (arg 2; whnf)); simp only [push_cast, reduceIte, Nat.reduceEqDiff, reduceCtorEq, Nat.reduceAdd, Nat.reduceSub, Nat.reduceMul, Int.reduceToNat, Nat.reduceLeDiff])
      | (refine EV.any _ (List.Sublist.refl _) ?_; (conv => (arg 2; whnf)); simp only [push_cast, reduceIte, Nat.reduceEqDiff, reduceCtorEq, Nat.reduceAdd, Nat.reduceSub, Nat.reduceMul, Int.reduceToNat, Nat.reduceLeDiff])
      | (refine ConQ.call (litmus_Check_q _ _ (hs0.mono (PHeap.le_add _ _)) hb hb') ?_; try simp only [push_cast, reduceIte, Nat.reduceEqDiff, reduceCtorEq, Nat.reduceAdd, Nat.reduceSub, Nat.reduceMul, Int.reduceToNat, Nat.reduceLeDiff])
      | (refine Exists.intro _ (And.intro (litmus_Check_q _ _ (hs0.mono (PHeap.le_add _ _)) hb hb') ?_); try simp only [push_cast, reduceIte, Nat.reduceEqDiff, reduceCtorEq, Nat.reduceAdd, Nat.reduceSub, Nat.reduceMul, Int.reduceToNat, Nat.reduceLeDiff])
      | assumption
      | (refine condW.merge ?_ (fun hc K' hK => ?_) ?_; rotate_left)
      | (refine condQ.mk ?_ (fun hc => ?_) ?_; rotate_left; (try simp only [decide_eq_true_eq, decide_eq_false_iff_not, Bool.not_eq_true', Bool.not_eq_false', Bool.and_eq_true, Bool.or_eq_true, Bool.and_eq_false_iff, Bool.or_eq_false_iff] at hc))
      | (with_reducible rfl)
      | ((refine EV.cond rfl (fun h => ?_) (fun h => ?_) <;> try simp only [reduceCtorEq, reduceIte, if_true, if_false, Bool.not_eq_true', Bool.not_eq_false', decide_eq_true_eq, decide_eq_false_iff_not, Bool.and_eq_true, Bool.or_eq_true, Bool.and_eq_false_iff, Bool.or_eq_false_iff] at h) <;> try (exfalso; first | exact h True.intro | (exact h; done) | omega))
      | (refine EV.exit rfl ?_)
      | (refine EV.ret R_litmus_Expand_ok ?_; simp only [push_cast, reduceIte, Nat.reduceEqDiff, reduceCtorEq, Nat.reduceAdd, Nat.reduceSub, Nat.reduceMul, Int.reduceToNat, Nat.reduceLeDiff, R_litmus_Expand])
      | (with_reducible intro b; try simp only [push_cast, reduceIte, Nat.reduceEqDiff, reduceCtorEq, Nat.reduceAdd, Nat.reduceSub, Nat.reduceMul, Int.reduceToNat, Nat.reduceLeDiff])
      | with_reducible intro b
      | (refine And.intro (by omega) ?_)
      | (refine Exists.intro _ (And.intro (rd_M (by assumption)) ?_); try simp only [push_cast, reduceIte, Nat.reduceEqDiff, reduceCtorEq, Nat.reduceAdd, Nat.reduceSub, Nat.reduceMul, Int.reduceToNat, Nat.reduceLeDiff])
      | (refine Exists.intro _ (Exists.intro _ (Exists.intro _ (And.intro (rd_M (by assumption)) ?_))); try simp only [push_cast, reduceIte, Nat.reduceEqDiff, reduceCtorEq, Nat.reduceAdd, Nat.reduceSub, Nat.reduceMul, Int.reduceToNat, Nat.reduceLeDiff])
      | (refine Exists.intro _ (And.intro (by assumption) ?_); try simp only [push_cast, reduceIte, Nat.reduceEqDiff, reduceCtorEq, Nat.reduceAdd, Nat.reduceSub, Nat.reduceMul, Int.reduceToNat, Nat.reduceLeDiff])
      | (refine Exists.intro _ (Exists.intro _ (Exists.intro _ (And.intro (by assumption) ?_))); try simp only [push_cast, reduceIte, Nat.reduceEqDiff, reduceCtorEq, Nat.reduceAdd, Nat.reduceSub, Nat.reduceMul, Int.reduceToNat, Nat.reduceLeDiff])
      | (refine xr rfl (by simp only [List.length_cons, List.length_nil]; omega) ?_; try simp only [push_cast, reduceIte, Nat.reduceEqDiff, reduceCtorEq, Nat.reduceAdd, Nat.reduceSub, Nat.reduceMul, Int.reduceToNat, Nat.reduceLeDiff])
      | (refine xi rfl (by simp only [List.length_cons, List.length_nil]; omega) ?_; try simp only [push_cast, reduceIte, Nat.reduceEqDiff, reduceCtorEq, Nat.reduceAdd, Nat.reduceSub, Nat.reduceMul, Int.reduceToNat, Nat.reduceLeDiff])
      | (refine xs rfl (by simp only [List.length_cons, List.length_nil]; omega) ?_; try simp only [push_cast, reduceIte, Nat.reduceEqDiff, reduceCtorEq, Nat.reduceAdd, Nat.reduceSub, Nat.reduceMul, Int.reduceToNat, Nat.reduceLeDiff])
      | (refine xw ?_; simp only [push_cast, reduceIte, Nat.reduceEqDiff, reduceCtorEq, Nat.reduceAdd, Nat.reduceSub, Nat.reduceMul, Int.reduceToNat, Nat.reduceLeDiff])
      | (refine And.intro (PHeap.le_refl _) (And.intro (fun p hp => hp) ?_))
      | (refine And.intro (PHeap.le_refl _) (And.intro (fun p hp => List.mem_cons_of_mem _ hp) ?_))
      | (refine And.intro (PHeap.le_refl _) (And.intro (fun p hp => List.mem_cons_of_mem _ (List.mem_cons_of_mem _ hp)) ?_))
      | (refine And.intro (PHeap.le_refl _) (And.intro (mem_of_sub ?_) ?_); focus ((repeat' first | exact List.Sublist.refl _ | exact List.nil_sublist _ | exact List.sublist_append_left _ _ | refine List.Sublist.cons_cons _ ?_ | refine List.Sublist.append_left ?_ _ | refine List.sublist_append_of_sublist_right ?_ | refine List.Sublist.cons _ ?_); done); try simp only [push_cast, reduceIte, Nat.reduceEqDiff, reduceCtorEq, Nat.reduceAdd, Nat.reduceSub, Nat.reduceMul, Int.reduceToNat, Nat.reduceLeDiff])
      | (exfalso; simp at hc; done)
      | (exfalso; omega)
      | exact false
      | fail "stuck"
  · exact .inl h
  · obtain ⟨_, _, hall⟩ := checkP_zero h
    refine Con.callA (G1 := []) (litmus_rebuilt_c _ _ ts _ hs0 hb hb' (exp_byC (List.all_eq_true.1 hall))) (List.Perm.refl _) ?_
    rintro v M' G' hM' ⟨s', rfl, hs'⟩
    obtain ⟨a', c', vs', rfl, hr'⟩ := hs'
    simp only [push_cast, reduceIte, Nat.reduceEqDiff, reduceCtorEq, Nat.reduceAdd, Nat.reduceSub, Nat.reduceMul, Int.reduceToNat, Nat.reduceLeDiff]
    repeat' first
        | refine EV.seq ?_
        | refine EV.skip ?_
        | refine EV.block ?_
        | refine EV.inBlock ?_
        | (refine EV.reg ?_; (conv => (arg 2; whnf)); simp only [push_cast, reduceIte, Nat.reduceEqDiff, reduceCtorEq, Nat.reduceAdd, Nat.reduceSub, Nat.reduceMul, Int.reduceToNat, Nat.reduceLeDiff])
        | (refine EV.any _ (List.Sublist.refl _) ?_; (conv => (arg 2; whnf)); simp only [push_cast, reduceIte, Nat.reduceEqDiff, reduceCtorEq, Nat.reduceAdd, Nat.reduceSub, Nat.reduceMul, Int.reduceToNat, Nat.reduceLeDiff])
        | assumption
        | (refine condW.merge ?_ (fun hc K' hK => ?_) ?_; rotate_left)
        | (refine condQ.mk ?_ (fun hc => ?_) ?_; rotate_left; (try simp only [decide_eq_true_eq, decide_eq_false_iff_not, Bool.not_eq_true', Bool.not_eq_false', Bool.and_eq_true, Bool.or_eq_true, Bool.and_eq_false_iff, Bool.or_eq_false_iff] at hc))
        | (with_reducible rfl)
        | ((refine EV.cond rfl (fun h => ?_) (fun h => ?_) <;> try simp only [reduceCtorEq, reduceIte, if_true, if_false, Bool.not_eq_true', Bool.not_eq_false', decide_eq_true_eq, decide_eq_false_iff_not, Bool.and_eq_true, Bool.or_eq_true, Bool.and_eq_false_iff, Bool.or_eq_false_iff] at h) <;> try (exfalso; first | exact h True.intro | (exact h; done) | omega))
        | (refine EV.exit rfl ?_)
        | (refine EV.ret R_litmus_Expand_ok ?_; simp only [push_cast, reduceIte, Nat.reduceEqDiff, reduceCtorEq, Nat.reduceAdd, Nat.reduceSub, Nat.reduceMul, Int.reduceToNat, Nat.reduceLeDiff, R_litmus_Expand])
        | (with_reducible intro b; try simp only [push_cast, reduceIte, Nat.reduceEqDiff, reduceCtorEq, Nat.reduceAdd, Nat.reduceSub, Nat.reduceMul, Int.reduceToNat, Nat.reduceLeDiff])
        | with_reducible intro b
        | (refine And.intro (by omega) ?_)
        | (refine Exists.intro _ (And.intro (rd_M (by assumption)) ?_); try simp only [push_cast, reduceIte, Nat.reduceEqDiff, reduceCtorEq, Nat.reduceAdd, Nat.reduceSub, Nat.reduceMul, Int.reduceToNat, Nat.reduceLeDiff])
        | (refine Exists.intro _ (Exists.intro _ (Exists.intro _ (And.intro (rd_M (by assumption)) ?_))); try simp only [push_cast, reduceIte, Nat.reduceEqDiff, reduceCtorEq, Nat.reduceAdd, Nat.reduceSub, Nat.reduceMul, Int.reduceToNat, Nat.reduceLeDiff])
        | (refine Exists.intro _ (And.intro (by assumption) ?_); try simp only [push_cast, reduceIte, Nat.reduceEqDiff, reduceCtorEq, Nat.reduceAdd, Nat.reduceSub, Nat.reduceMul, Int.reduceToNat, Nat.reduceLeDiff])
        | (refine Exists.intro _ (Exists.intro _ (Exists.intro _ (And.intro (by assumption) ?_))); try simp only [push_cast, reduceIte, Nat.reduceEqDiff, reduceCtorEq, Nat.reduceAdd, Nat.reduceSub, Nat.reduceMul, Int.reduceToNat, Nat.reduceLeDiff])
        | (refine xr rfl (by simp only [List.length_cons, List.length_nil]; omega) ?_; try simp only [push_cast, reduceIte, Nat.reduceEqDiff, reduceCtorEq, Nat.reduceAdd, Nat.reduceSub, Nat.reduceMul, Int.reduceToNat, Nat.reduceLeDiff])
        | (refine xi rfl (by simp only [List.length_cons, List.length_nil]; omega) ?_; try simp only [push_cast, reduceIte, Nat.reduceEqDiff, reduceCtorEq, Nat.reduceAdd, Nat.reduceSub, Nat.reduceMul, Int.reduceToNat, Nat.reduceLeDiff])
        | (refine xs rfl (by simp only [List.length_cons, List.length_nil]; omega) ?_; try simp only [push_cast, reduceIte, Nat.reduceEqDiff, reduceCtorEq, Nat.reduceAdd, Nat.reduceSub, Nat.reduceMul, Int.reduceToNat, Nat.reduceLeDiff])
        | (refine xw ?_; simp only [push_cast, reduceIte, Nat.reduceEqDiff, reduceCtorEq, Nat.reduceAdd, Nat.reduceSub, Nat.reduceMul, Int.reduceToNat, Nat.reduceLeDiff])
        | (refine And.intro (PHeap.le_refl _) (And.intro (fun p hp => hp) ?_))
        | (refine And.intro (PHeap.le_refl _) (And.intro (fun p hp => List.mem_cons_of_mem _ hp) ?_))
        | (refine And.intro (PHeap.le_refl _) (And.intro (fun p hp => List.mem_cons_of_mem _ (List.mem_cons_of_mem _ hp)) ?_))
        | (refine And.intro (PHeap.le_refl _) (And.intro (mem_of_sub ?_) ?_); focus ((repeat' first | exact List.Sublist.refl _ | exact List.nil_sublist _ | exact List.sublist_append_left _ _ | refine List.Sublist.cons_cons _ ?_ | refine List.Sublist.append_left ?_ _ | refine List.sublist_append_of_sublist_right ?_ | refine List.Sublist.cons _ ?_); done); try simp only [push_cast, reduceIte, Nat.reduceEqDiff, reduceCtorEq, Nat.reduceAdd, Nat.reduceSub, Nat.reduceMul, Int.reduceToNat, Nat.reduceLeDiff])
        | (exfalso; simp at hc; done)
        | (exfalso; omega)
        | exact false
        | fail "stuck"
    refine .inr ⟨h, _, rfl, ?_⟩
    have e : rebGo (fun o _ => expOp o) true = expT := funext fun l => rebGo_exp true l
    rw [← e]
    exact ⟨a', c', vs', rfl, hr'⟩
end
end Go.EV

namespace Go.EV

abbrev Vw := Nat → Int
structure Msg where
  word : Int
  view : Vw
  tied : Bool
structure Thr where
  now : Vw
  gained : Vw
  given : Vw
  read : List Int
  next : Nat
structure VM where
  prog : List (List OpV)
  msgs : List Msg
  line : Nat → List Int
  thr : List Thr
  all : Vw

def upd {α : Type} (f : Nat → α) (i : Nat) (x : α) : Nat → α := fun j => if j = i then x else f j
def noV : Vw := fun _ => -1
def place (line : Nat → List Int) (loc : Nat) (n : Int) : Nat := if n ∈ line loc then (line loc).idxOf n else 0
def joinV (line : Nat → List Int) (a b : Vw) : Vw := fun j => if 0 ≤ b j ∧ (a j < 0 ∨ place line j (a j) < place line j (b j)) then b j else a j

instance : Inhabited Msg := ⟨⟨0, noV, false⟩⟩
instance : Inhabited Thr := ⟨⟨noV, noV, noV, [], 0⟩⟩
instance : Inhabited OpV := ⟨⟨0, 0, 0, 0, 0⟩⟩

/-- The message at a place. -/
def VM.msgAt (m : VM) (loc at_ : Nat) : Msg := m.msgs[((m.line loc)[at_]!).toNat]!
def VM.bound (m : VM) (loc at_ : Nat) : Bool := decide (at_ + 1 < (m.line loc).length) && (m.msgAt loc (at_ + 1)).tied
def OpV.writes (o : OpV) (word : Int) : Bool := decide (o.kind = 1) || decide (o.kind = 2) || (decide (o.kind ≠ 0) && decide (word = o.v))
def VM.choicesAt (m : VM) (o : OpV) (at_ : Nat) : List (Nat × Bool) :=
  (if o.writes (m.msgAt o.loc.toNat at_).word && !m.bound o.loc.toNat at_ then [(at_, true)] else []) ++
  (if !o.writes (m.msgAt o.loc.toNat at_).word || decide (o.kind = 4) then [(at_, false)] else [])
def VM.choicesFrom (m : VM) (o : OpV) (lo n : Nat) : List (Nat × Bool) := (List.range n).flatMap fun k => m.choicesAt o (lo + k)
def VM.low (m : VM) (who : Nat) (o : OpV) : Nat := place m.line o.loc.toNat (m.thr[who]!.now o.loc.toNat)
def VM.choices (m : VM) (who : Nat) (o : OpV) : List (Nat × Bool) :=
  if o.kind = 5 then [(0, false)] else m.choicesFrom o (m.low who o) ((m.line o.loc.toNat).length - m.low who o)

def VM.turn (m : VM) (who : Int) : OpV × Int :=
  if who < 0 ∨ (m.thr.length : Int) ≤ who then (⟨0, 0, 0, 0, 0⟩, 1)
  else if m.thr[who.toNat]!.next = m.prog[who.toNat]!.length then (⟨0, 0, 0, 0, 0⟩, 7)
  else (m.prog[who.toNat]![m.thr[who.toNat]!.next]!, 0)

def VM.setThr (m : VM) (who : Nat) (t : Thr) : VM := { m with thr := m.thr.set who t }

def VM.reads (m : VM) (who : Nat) (number : Int) (o : OpV) : VM :=
  let t := m.thr[who]!
  let s := m.msgs[number.toNat]!
  let now1 := upd t.now o.loc.toNat number
  let now2 := if acqP o.ord then joinV m.line now1 s.view else now1
  m.setThr who { t with read := t.read ++ [s.word], now := now2, gained := joinV m.line (joinV m.line t.gained s.view) now2 }

def VM.writes (m : VM) (who at_ : Nat) (word : Int) (o : OpV) (tied : Bool) : VM :=
  let t := m.thr[who]!
  let l := o.loc.toNat
  let number : Int := m.msgs.length
  let front := (m.line l)[at_]!
  let line := upd m.line l ((m.line l).take (at_ + 1) ++ number :: (m.line l).drop (at_ + 1))
  let now := upd t.now l number
  let gained := joinV line t.gained now
  let v1 := if relP o.ord then now else t.given
  let v2 := if tied then joinV line v1 (m.msgs[front.toNat]!).view else v1
  { m with line := line, msgs := m.msgs ++ [⟨word, upd v2 l number, tied⟩], thr := m.thr.set who { t with now := now, gained := gained } }

def VM.fenced (m : VM) (who : Nat) (o : OpV) : VM :=
  let t := m.thr[who]!
  let now1 := if acqP o.ord then joinV m.line t.now t.gained else t.now
  let now2 := if o.ord = 4 then joinV m.line now1 m.all else now1
  { m with all := (if o.ord = 4 then now2 else m.all), thr := m.thr.set who { t with now := now2, gained := (if o.ord = 4 then joinV m.line t.gained now2 else t.gained), given := (if relP o.ord then now2 else t.given) } }

def VM.nexts (m : VM) (who : Nat) : VM := m.setThr who { m.thr[who]! with next := m.thr[who]!.next + 1 }

def VM.does (m : VM) (who : Nat) (o : OpV) (c : Nat × Bool) : VM :=
  let m := m.nexts who
  if o.kind = 5 then m.fenced who o
  else if o.kind = 1 then (if c.2 then m.writes who c.1 o.v o false else m)
  else
    let number := (m.line o.loc.toNat)[c.1]!
    let m1 := m.reads who number o
    let word := if o.kind = 2 then IntKind.i64.wrap ((m.msgs[number.toNat]!).word + o.v) else o.w
    if c.2 then m1.writes who c.1 word o true else m1

def VM.step (m : VM) (who number : Int) : VM × Int :=
  if (m.turn who).2 ≠ 0 then (m, (m.turn who).2)
  else if number < 0 ∨ ((m.choices who.toNat (m.turn who).1).length : Int) ≤ number then (m, 3)
  else (m.does who.toNat (m.turn who).1 ((m.choices who.toNat (m.turn who).1)[number.toNat]!), 0)

def VM.new (ts : List (List OpV)) : VM :=
  ⟨ts, [⟨0, upd noV 0 0, false⟩, ⟨0, upd noV 1 1, false⟩, ⟨0, upd noV 2 2, false⟩], fun l => if l < 3 then [(l : Int)] else [], ts.map fun _ => ⟨noV, noV, noV, [], 0⟩, noV⟩

end Go.EV

namespace Go.EV
open Go.Proofs

/-- Where a machine's parts lie. -/
structure Ad where
  pg : Option Addr
  pc : Nat
  mb : Nat
  mc : Nat
  lb : Nat → Nat
  lc : Nat → Nat
  tb : Nat
  tc : Nat
  ra : List (Option Addr × Nat)

def encV (v : Vw) : List Value := [vi (v 0), vi (v 1), vi (v 2)]
def encMsg (x : Msg) : List Value := [vi x.word, vi (x.view 0), vi (x.view 1), vi (x.view 2), vb x.tied]
def encThr (p : Thr × (Option Addr × Nat)) : List Value :=
  [vi (p.1.now 0), vi (p.1.now 1), vi (p.1.now 2), vi (p.1.gained 0), vi (p.1.gained 1), vi (p.1.gained 2), vi (p.1.given 0), vi (p.1.given 1), vi (p.1.given 2), .slice p.2.1 p.1.read.length p.2.2, vi p.1.next]
abbrev rowV (b n c : Nat) : Value := .slice (some ⟨b, 0, none⟩) n c
def hdr (ad : Ad) (m : VM) : List Value :=
  [.slice ad.pg m.prog.length ad.pc, rowV ad.mb m.msgs.length ad.mc, rowV (ad.lb 0) (m.line 0).length (ad.lc 0), rowV (ad.lb 1) (m.line 1).length (ad.lc 1), rowV (ad.lb 2) (m.line 2).length (ad.lc 2),
   rowV ad.tb m.thr.length ad.tc, vi (m.all 0), vi (m.all 1), vi (m.all 2)]

structure RdM (M : PHeap) (b : Nat) (ad : Ad) (m : VM) : Prop where
  hd : rd M b 0 9 (hdr ad m)
  pg : SlSl M 5 encOp (.slice ad.pg m.prog.length ad.pc) m.prog
  ms : rd M ad.mb 0 (m.msgs.length * 5) (m.msgs.flatMap encMsg)
  ln : ∀ l, l < 3 → rd M (ad.lb l) 0 (m.line l).length ((m.line l).map vi)
  th : rd M ad.tb 0 (m.thr.length * 11) ((m.thr.zip ad.ra).flatMap encThr)
  rl : ad.ra.length = m.thr.length
  rr : ∀ i (h : i < m.thr.length) (h' : i < ad.ra.length), rdS M 1 ad.ra[i].1 m.thr[i].read.length (m.thr[i].read.map vi)

theorem RdM.mono {M M' : PHeap} (h : M.le M') {b : Nat} {ad : Ad} {m : VM} (r : RdM M b ad m) : RdM M' b ad m :=
  ⟨r.hd.mono h, r.pg.mono h, r.ms.mono h, fun l hl => (r.ln l hl).mono h, r.th.mono h, r.rl, fun i hi hi' => (r.rr i hi hi').mono h⟩

theorem rd.part' {H : PHeap} {b off n : Nat} {cs out : List Value} (h : rd H b off n cs) (i k : Nat) (hm : i + k ≤ n) (e : (cs.drop i).take k = out) : rd H b (off + i) k out := e ▸ h.part hm
theorem rd.part0 {H : PHeap} {b n : Nat} {cs out : List Value} (h : rd H b 0 n cs) (i k : Nat) (hm : i + k ≤ n) (e : (cs.drop i).take k = out) : rd H b i k out := by
  have := h.part' i k hm e
  rwa [Nat.zero_add] at this

def okOpE (o : OpV) : Prop := 0 ≤ o.kind ∧ o.kind < 6 ∧ 0 ≤ o.loc ∧ o.loc < 3 ∧ isOrderP o.ord = true

/-- What holds of a machine at all times. -/
structure VM.Wf (m : VM) (B : Nat) : Prop where
  b0 : B < 1000000
  pl : m.prog.length = m.thr.length
  tp : 0 < m.thr.length
  t3 : m.thr.length ≤ 3
  nx : ∀ i, i < m.thr.length → m.thr[i]!.next ≤ m.prog[i]!.length
  po : ∀ l ∈ m.prog, ∀ o ∈ l, okOpE o
  pb : ∀ l ∈ m.prog, l.length < 1000000
  lp : ∀ l, l < 3 → 0 < (m.line l).length
  ll : ∀ l, l < 3 → (m.line l).length ≤ B
  ml : m.msgs.length ≤ B
  le : ∀ l, l < 3 → ∀ n ∈ m.line l, 0 ≤ n ∧ n < m.msgs.length
  rb : ∀ t ∈ m.thr, t.read.length ≤ B

section
variable {M : PHeap} {b : Nat} {ad : Ad} {m : VM} {B : Nat}

theorem RdM.f0 (r : RdM M b ad m) : rd M b 0 1 [.slice ad.pg m.prog.length ad.pc] := r.hd.part0 0 1 (by omega) rfl
theorem RdM.f1 (r : RdM M b ad m) : rd M b 1 1 [rowV ad.mb m.msgs.length ad.mc] := r.hd.part0 1 1 (by omega) rfl
theorem RdM.f5 (r : RdM M b ad m) : rd M b 5 1 [rowV ad.tb m.thr.length ad.tc] := r.hd.part0 5 1 (by omega) rfl
theorem RdM.f6 (r : RdM M b ad m) : rd M b 6 3 (encV m.all) := r.hd.part0 6 3 (by omega) rfl
theorem RdM.fl (r : RdM M b ad m) {l : Nat} (hl : l < 3) : rd M b (2 + l) 1 [rowV (ad.lb l) (m.line l).length (ad.lc l)] := by
  match l, hl with
  | 0, _ => exact r.hd.part0 2 1 (by omega) rfl
  | 1, _ => exact r.hd.part0 3 1 (by omega) rfl
  | 2, _ => exact r.hd.part0 4 1 (by omega) rfl

theorem getB {α : Type} [Inhabited α] {l : List α} {i : Nat} (h : i < l.length) : l[i]! = l[i] := getElem!_pos l i h

theorem RdM.msg (r : RdM M b ad m) {n : Nat} (hn : n < m.msgs.length) : rd M ad.mb (n * 5) 5 (encMsg m.msgs[n]!) := by
  have := r.ms.part0 (n * 5) 5 (by omega) (flatMap_part (enc := encMsg) (fun _ => rfl) hn)
  rwa [getB hn]

theorem RdM.word (r : RdM M b ad m) {n : Nat} (hn : n < m.msgs.length) : rd M ad.mb (n * 5) 1 [vi m.msgs[n]!.word] := (r.msg hn).part' 0 1 (by omega) rfl
theorem RdM.view (r : RdM M b ad m) {n : Nat} (hn : n < m.msgs.length) : rd M ad.mb (n * 5 + 1) 3 (encV m.msgs[n]!.view) := (r.msg hn).part' 1 3 (by omega) rfl
theorem RdM.tied (r : RdM M b ad m) {n : Nat} (hn : n < m.msgs.length) : rd M ad.mb (n * 5 + 4) 1 [vb m.msgs[n]!.tied] := (r.msg hn).part' 4 1 (by omega) rfl

theorem map_part {α : Type} [Inhabited α] (f : α → Value) : ∀ (l : List α) {i : Nat} (h : i < l.length), ((l.map f).drop i).take 1 = [f l[i]!]
  | x :: l, 0, _ => by simp
  | x :: l, i + 1, h => by
    have := map_part f l (i := i) (by simpa using h)
    simpa using this

theorem RdM.line (r : RdM M b ad m) {l i : Nat} (hl : l < 3) (hi : i < (m.line l).length) : rd M (ad.lb l) i 1 [vi (m.line l)[i]!] :=
  (r.ln l hl).part0 i 1 (by omega) (map_part vi _ hi)

theorem RdM.thr (r : RdM M b ad m) {i : Nat} (hi : i < m.thr.length) : rd M ad.tb (i * 11) 11 (encThr (m.thr[i]!, ad.ra[i]!)) := by
  have hz : (m.thr.zip ad.ra).length = m.thr.length := by simp [r.rl]
  have := r.th.part0 (i * 11) 11 (by omega) (flatMap_part (enc := encThr) (fun _ => rfl) (xs := m.thr.zip ad.ra) (i := i) (by omega))
  rw [getB hi, getB (by rw [r.rl]; exact hi)]
  simpa using this

theorem RdM.now (r : RdM M b ad m) {i : Nat} (hi : i < m.thr.length) : rd M ad.tb (i * 11) 3 (encV m.thr[i]!.now) := (r.thr hi).part' 0 3 (by omega) rfl
theorem RdM.nowAt (r : RdM M b ad m) {i l : Nat} (hi : i < m.thr.length) (hl : l < 3) : rd M ad.tb (i * 11 + l) 1 [vi (m.thr[i]!.now l)] := by
  match l, hl with
  | 0, _ => exact (r.thr hi).part' 0 1 (by omega) rfl
  | 1, _ => exact (r.thr hi).part' 1 1 (by omega) rfl
  | 2, _ => exact (r.thr hi).part' 2 1 (by omega) rfl
theorem RdM.gained (r : RdM M b ad m) {i : Nat} (hi : i < m.thr.length) : rd M ad.tb (i * 11 + 3) 3 (encV m.thr[i]!.gained) := (r.thr hi).part' 3 3 (by omega) rfl
theorem RdM.given (r : RdM M b ad m) {i : Nat} (hi : i < m.thr.length) : rd M ad.tb (i * 11 + 6) 3 (encV m.thr[i]!.given) := (r.thr hi).part' 6 3 (by omega) rfl
theorem RdM.read (r : RdM M b ad m) {i : Nat} (hi : i < m.thr.length) : rd M ad.tb (i * 11 + 9) 1 [.slice ad.ra[i]!.1 m.thr[i]!.read.length ad.ra[i]!.2] := (r.thr hi).part' 9 1 (by omega) rfl
theorem RdM.next (r : RdM M b ad m) {i : Nat} (hi : i < m.thr.length) : rd M ad.tb (i * 11 + 10) 1 [vi m.thr[i]!.next] := (r.thr hi).part' 10 1 (by omega) rfl

end
end Go.EV

namespace Go.EV
open Go.Proofs

def idxI (l : List Int) (x : Int) : Int := if x ∈ l then (l.idxOf x : Int) else -1

theorem idxI_at {l : List Int} {x : Int} {i : Nat} (hi : i < l.length) (h : x ∉ l.take i) (e : x = l[i]!) : idxI l x = i := by
  rw [getB hi] at e
  have hm : x ∈ l := e ▸ List.getElem_mem hi
  rw [idxI, if_pos hm]
  have h2 : l = l.take i ++ x :: l.drop (i + 1) := by
    rw [e, ← List.drop_eq_getElem_cons hi, List.take_append_drop]
  have h3 : l.idxOf x = i := by
    rw [h2, List.idxOf_append, if_neg h, List.idxOf_cons_self]
    simp; omega
  rw [h3]

theorem place_idx (line : Nat → List Int) (l : Nat) (n : Int) : (if 0 < idxI (line l) n then idxI (line l) n else 0) = (place line l n : Int) := by
  unfold place idxI
  split
  · split <;> omega
  · simp

section
variable {M : PHeap}

theorem slices_Index_q (l : List Int) (lb c : Nat) (x : Int) (hrow : rd M lb 0 l.length (l.map vi)) (hb : l.length < 1000000) : ConQ Try.prog 69 #[rowV lb l.length c, vi x] M (vi (idxI l x)) := by
  refine Con.enter R_slices_Index_Lint_int_ok (args := [rowV lb l.length c, vi x]) (by simp [R_slices_Index_Lint_int]) fun w0 => ?_
  simp only [R_slices_Index_Lint_int, argE]
  repeat' first
      | refine EV.seq ?_
      | refine EV.skip ?_
      | refine EV.block ?_
      | refine EV.inBlock ?_
      | (refine EV.reg ?_; (conv => (arg 2; whnf)); simp only [push_cast, reduceIte, Nat.reduceEqDiff, reduceCtorEq, Nat.reduceAdd, Nat.reduceSub, Nat.reduceMul, Int.reduceToNat, Nat.reduceLeDiff])
      | (refine EV.any _ (List.Sublist.refl _) ?_; (conv => (arg 2; whnf)); simp only [push_cast, reduceIte, Nat.reduceEqDiff, reduceCtorEq, Nat.reduceAdd, Nat.reduceSub, Nat.reduceMul, Int.reduceToNat, Nat.reduceLeDiff])
      | assumption
      | (refine condW.merge ?_ (fun hc K' hK => ?_) ?_; rotate_left)
      | (refine condQ.mk ?_ (fun hc => ?_) ?_; rotate_left; (try simp only [decide_eq_true_eq, decide_eq_false_iff_not, Bool.not_eq_true', Bool.not_eq_false', Bool.and_eq_true, Bool.or_eq_true, Bool.and_eq_false_iff, Bool.or_eq_false_iff] at hc))
      | (with_reducible rfl)
      | ((refine EV.cond rfl (fun h => ?_) (fun h => ?_) <;> try simp only [reduceCtorEq, reduceIte, if_true, if_false, Bool.not_eq_true', Bool.not_eq_false', decide_eq_true_eq, decide_eq_false_iff_not, Bool.and_eq_true, Bool.or_eq_true, Bool.and_eq_false_iff, Bool.or_eq_false_iff] at h) <;> try (exfalso; first | exact h True.intro | (exact h; done) | omega))
      | (refine EV.exit rfl ?_)
      | (refine EV.ret R_slices_Index_Lint_int_ok ?_; simp only [push_cast, reduceIte, Nat.reduceEqDiff, reduceCtorEq, Nat.reduceAdd, Nat.reduceSub, Nat.reduceMul, Int.reduceToNat, Nat.reduceLeDiff, R_slices_Index_Lint_int])
      | (with_reducible intro b; try simp only [push_cast, reduceIte, Nat.reduceEqDiff, reduceCtorEq, Nat.reduceAdd, Nat.reduceSub, Nat.reduceMul, Int.reduceToNat, Nat.reduceLeDiff])
      | with_reducible intro b
      | (refine And.intro (by omega) ?_)
      | (refine Exists.intro _ (And.intro (rd_M (by assumption)) ?_); try simp only [push_cast, reduceIte, Nat.reduceEqDiff, reduceCtorEq, Nat.reduceAdd, Nat.reduceSub, Nat.reduceMul, Int.reduceToNat, Nat.reduceLeDiff])
      | (refine Exists.intro _ (Exists.intro _ (Exists.intro _ (And.intro (rd_M (by assumption)) ?_))); try simp only [push_cast, reduceIte, Nat.reduceEqDiff, reduceCtorEq, Nat.reduceAdd, Nat.reduceSub, Nat.reduceMul, Int.reduceToNat, Nat.reduceLeDiff])
      | (refine Exists.intro _ (And.intro (by assumption) ?_); try simp only [push_cast, reduceIte, Nat.reduceEqDiff, reduceCtorEq, Nat.reduceAdd, Nat.reduceSub, Nat.reduceMul, Int.reduceToNat, Nat.reduceLeDiff])
      | (refine Exists.intro _ (Exists.intro _ (Exists.intro _ (And.intro (by assumption) ?_))); try simp only [push_cast, reduceIte, Nat.reduceEqDiff, reduceCtorEq, Nat.reduceAdd, Nat.reduceSub, Nat.reduceMul, Int.reduceToNat, Nat.reduceLeDiff])
      | (refine xr rfl (by simp only [List.length_cons, List.length_nil]; omega) ?_; try simp only [push_cast, reduceIte, Nat.reduceEqDiff, reduceCtorEq, Nat.reduceAdd, Nat.reduceSub, Nat.reduceMul, Int.reduceToNat, Nat.reduceLeDiff])
      | (refine xi rfl (by simp only [List.length_cons, List.length_nil]; omega) ?_; try simp only [push_cast, reduceIte, Nat.reduceEqDiff, reduceCtorEq, Nat.reduceAdd, Nat.reduceSub, Nat.reduceMul, Int.reduceToNat, Nat.reduceLeDiff])
      | (refine xs rfl (by simp only [List.length_cons, List.length_nil]; omega) ?_; try simp only [push_cast, reduceIte, Nat.reduceEqDiff, reduceCtorEq, Nat.reduceAdd, Nat.reduceSub, Nat.reduceMul, Int.reduceToNat, Nat.reduceLeDiff])
      | (refine xw ?_; simp only [push_cast, reduceIte, Nat.reduceEqDiff, reduceCtorEq, Nat.reduceAdd, Nat.reduceSub, Nat.reduceMul, Int.reduceToNat, Nat.reduceLeDiff])
      | (refine And.intro (PHeap.le_refl _) (And.intro (fun p hp => hp) ?_))
      | (refine And.intro (PHeap.le_refl _) (And.intro (fun p hp => List.mem_cons_of_mem _ hp) ?_))
      | (refine And.intro (PHeap.le_refl _) (And.intro (fun p hp => List.mem_cons_of_mem _ (List.mem_cons_of_mem _ hp)) ?_))
      | (refine And.intro (PHeap.le_refl _) (And.intro (mem_of_sub ?_) ?_); focus ((repeat' first | exact List.Sublist.refl _ | exact List.nil_sublist _ | exact List.sublist_append_left _ _ | refine List.Sublist.cons_cons _ ?_ | refine List.Sublist.append_left ?_ _ | refine List.sublist_append_of_sublist_right ?_ | refine List.Sublist.cons _ ?_); done); try simp only [push_cast, reduceIte, Nat.reduceEqDiff, reduceCtorEq, Nat.reduceAdd, Nat.reduceSub, Nat.reduceMul, Int.reduceToNat, Nat.reduceLeDiff])
      | (exfalso; simp at hc; done)
      | (exfalso; omega)
      | exact false
      | fail "stuck"
  refine EV.to (ρ' := [(0, rowV lb l.length c), (1, vi x), (7, vi l.length), (8, vi (0 : Nat))]) (G' := []) ?_ ?env0 (by simp)
  case env0 =>
    repeat' first
      | (refine List.forall_mem_cons.2 (And.intro ?_ ?_))
      | (intro _ hnil; cases hnil; done)
      | rfl
      | (refine env_w64 rfl (by first | rfl | (push_cast; first | rfl | omega)) (by omega) (by omega); done)
      | (simp (disch := omega) only [get_cons, get_nil, reduceIte, Nat.reduceEqDiff, Option.some.injEq, Value.int.injEq, w64, Int.natCast_add, Int.natCast_one, Int.cast_ofNat_Int, Int.natCast_zero]; done)
  refine EV.loop (fun i : Nat => ([(0, rowV lb l.length c), (1, vi x), (7, vi l.length), (8, vi i)], M, [])) (fun i => i ≤ l.length ∧ x ∉ l.take i) (fun i => l.length - i) 0 (by simp) ?_
  intro i ⟨hi, hok⟩ ih
  dsimp only at ih ⊢
  repeat' first
      | refine EV.seq ?_
      | refine EV.skip ?_
      | refine EV.block ?_
      | refine EV.inBlock ?_
      | (refine EV.reg ?_; (conv => (arg 2; whnf)); simp only [push_cast, reduceIte, Nat.reduceEqDiff, reduceCtorEq, Nat.reduceAdd, Nat.reduceSub, Nat.reduceMul, Int.reduceToNat, Nat.reduceLeDiff])
      | (refine EV.any _ (List.Sublist.refl _) ?_; (conv => (arg 2; whnf)); simp only [push_cast, reduceIte, Nat.reduceEqDiff, reduceCtorEq, Nat.reduceAdd, Nat.reduceSub, Nat.reduceMul, Int.reduceToNat, Nat.reduceLeDiff])
      | assumption
      | (refine condW.merge ?_ (fun hc K' hK => ?_) ?_; rotate_left)
      | (refine condQ.mk ?_ (fun hc => ?_) ?_; rotate_left; (try simp only [decide_eq_true_eq, decide_eq_false_iff_not, Bool.not_eq_true', Bool.not_eq_false', Bool.and_eq_true, Bool.or_eq_true, Bool.and_eq_false_iff, Bool.or_eq_false_iff] at hc))
      | (with_reducible rfl)
      | ((refine EV.cond rfl (fun h => ?_) (fun h => ?_) <;> try simp only [reduceCtorEq, reduceIte, if_true, if_false, Bool.not_eq_true', Bool.not_eq_false', decide_eq_true_eq, decide_eq_false_iff_not, Bool.and_eq_true, Bool.or_eq_true, Bool.and_eq_false_iff, Bool.or_eq_false_iff] at h) <;> try (exfalso; first | exact h True.intro | (exact h; done) | omega))
      | (refine EV.exit rfl ?_)
      | (with_reducible intro b; try simp only [push_cast, reduceIte, Nat.reduceEqDiff, reduceCtorEq, Nat.reduceAdd, Nat.reduceSub, Nat.reduceMul, Int.reduceToNat, Nat.reduceLeDiff])
      | with_reducible intro b
      | (refine And.intro (by omega) ?_)
      | (refine Exists.intro _ (And.intro (rd_M (by assumption)) ?_); try simp only [push_cast, reduceIte, Nat.reduceEqDiff, reduceCtorEq, Nat.reduceAdd, Nat.reduceSub, Nat.reduceMul, Int.reduceToNat, Nat.reduceLeDiff])
      | (refine Exists.intro _ (Exists.intro _ (Exists.intro _ (And.intro (rd_M (by assumption)) ?_))); try simp only [push_cast, reduceIte, Nat.reduceEqDiff, reduceCtorEq, Nat.reduceAdd, Nat.reduceSub, Nat.reduceMul, Int.reduceToNat, Nat.reduceLeDiff])
      | (refine Exists.intro _ (And.intro (by assumption) ?_); try simp only [push_cast, reduceIte, Nat.reduceEqDiff, reduceCtorEq, Nat.reduceAdd, Nat.reduceSub, Nat.reduceMul, Int.reduceToNat, Nat.reduceLeDiff])
      | (refine Exists.intro _ (Exists.intro _ (Exists.intro _ (And.intro (by assumption) ?_))); try simp only [push_cast, reduceIte, Nat.reduceEqDiff, reduceCtorEq, Nat.reduceAdd, Nat.reduceSub, Nat.reduceMul, Int.reduceToNat, Nat.reduceLeDiff])
      | (refine xr rfl (by simp only [List.length_cons, List.length_nil]; omega) ?_; try simp only [push_cast, reduceIte, Nat.reduceEqDiff, reduceCtorEq, Nat.reduceAdd, Nat.reduceSub, Nat.reduceMul, Int.reduceToNat, Nat.reduceLeDiff])
      | (refine xi rfl (by simp only [List.length_cons, List.length_nil]; omega) ?_; try simp only [push_cast, reduceIte, Nat.reduceEqDiff, reduceCtorEq, Nat.reduceAdd, Nat.reduceSub, Nat.reduceMul, Int.reduceToNat, Nat.reduceLeDiff])
      | (refine xs rfl (by simp only [List.length_cons, List.length_nil]; omega) ?_; try simp only [push_cast, reduceIte, Nat.reduceEqDiff, reduceCtorEq, Nat.reduceAdd, Nat.reduceSub, Nat.reduceMul, Int.reduceToNat, Nat.reduceLeDiff])
      | (refine xw ?_; simp only [push_cast, reduceIte, Nat.reduceEqDiff, reduceCtorEq, Nat.reduceAdd, Nat.reduceSub, Nat.reduceMul, Int.reduceToNat, Nat.reduceLeDiff])
      | (refine And.intro (PHeap.le_refl _) (And.intro (fun p hp => hp) ?_))
      | (refine And.intro (PHeap.le_refl _) (And.intro (fun p hp => List.mem_cons_of_mem _ hp) ?_))
      | (refine And.intro (PHeap.le_refl _) (And.intro (fun p hp => List.mem_cons_of_mem _ (List.mem_cons_of_mem _ hp)) ?_))
      | (refine And.intro (PHeap.le_refl _) (And.intro (mem_of_sub ?_) ?_); focus ((repeat' first | exact List.Sublist.refl _ | exact List.nil_sublist _ | exact List.sublist_append_left _ _ | refine List.Sublist.cons_cons _ ?_ | refine List.Sublist.append_left ?_ _ | refine List.sublist_append_of_sublist_right ?_ | refine List.Sublist.cons _ ?_); done); try simp only [push_cast, reduceIte, Nat.reduceEqDiff, reduceCtorEq, Nat.reduceAdd, Nat.reduceSub, Nat.reduceMul, Int.reduceToNat, Nat.reduceLeDiff])
      | (exfalso; simp at hc; done)
      | (exfalso; omega)
      | exact false
      | fail "stuck"
  · have hi' : i < l.length := by omega
    have hr := hrow.part0 i 1 (by omega) (map_part vi l hi')
    repeat' first
        | refine EV.seq ?_
        | refine EV.skip ?_
        | refine EV.block ?_
        | refine EV.inBlock ?_
        | (refine EV.reg ?_; (conv => (arg 2; whnf)); simp only [push_cast, reduceIte, Nat.reduceEqDiff, reduceCtorEq, Nat.reduceAdd, Nat.reduceSub, Nat.reduceMul, Int.reduceToNat, Nat.reduceLeDiff])
        | (refine EV.any _ (List.Sublist.refl _) ?_; (conv => (arg 2; whnf)); simp only [push_cast, reduceIte, Nat.reduceEqDiff, reduceCtorEq, Nat.reduceAdd, Nat.reduceSub, Nat.reduceMul, Int.reduceToNat, Nat.reduceLeDiff])
        | assumption
        | (refine condW.merge ?_ (fun hc K' hK => ?_) ?_; rotate_left)
        | (refine condQ.mk ?_ (fun hc => ?_) ?_; rotate_left; (try simp only [decide_eq_true_eq, decide_eq_false_iff_not, Bool.not_eq_true', Bool.not_eq_false', Bool.and_eq_true, Bool.or_eq_true, Bool.and_eq_false_iff, Bool.or_eq_false_iff] at hc))
        | (with_reducible rfl)
        | ((refine EV.cond rfl (fun h => ?_) (fun h => ?_) <;> try simp only [reduceCtorEq, reduceIte, if_true, if_false, Bool.not_eq_true', Bool.not_eq_false', decide_eq_true_eq, decide_eq_false_iff_not, Bool.and_eq_true, Bool.or_eq_true, Bool.and_eq_false_iff, Bool.or_eq_false_iff] at h) <;> try (exfalso; first | exact h True.intro | (exact h; done) | omega))
        | (refine EV.exit rfl ?_)
        | (refine EV.ret R_slices_Index_Lint_int_ok ?_; simp only [push_cast, reduceIte, Nat.reduceEqDiff, reduceCtorEq, Nat.reduceAdd, Nat.reduceSub, Nat.reduceMul, Int.reduceToNat, Nat.reduceLeDiff, R_slices_Index_Lint_int])
        | (with_reducible intro b; try simp only [push_cast, reduceIte, Nat.reduceEqDiff, reduceCtorEq, Nat.reduceAdd, Nat.reduceSub, Nat.reduceMul, Int.reduceToNat, Nat.reduceLeDiff])
        | with_reducible intro b
        | (refine And.intro (by omega) ?_)
        | (refine Exists.intro _ (And.intro (rd_M (by assumption)) ?_); try simp only [push_cast, reduceIte, Nat.reduceEqDiff, reduceCtorEq, Nat.reduceAdd, Nat.reduceSub, Nat.reduceMul, Int.reduceToNat, Nat.reduceLeDiff])
        | (refine Exists.intro _ (Exists.intro _ (Exists.intro _ (And.intro (rd_M (by assumption)) ?_))); try simp only [push_cast, reduceIte, Nat.reduceEqDiff, reduceCtorEq, Nat.reduceAdd, Nat.reduceSub, Nat.reduceMul, Int.reduceToNat, Nat.reduceLeDiff])
        | (refine Exists.intro _ (And.intro (by assumption) ?_); try simp only [push_cast, reduceIte, Nat.reduceEqDiff, reduceCtorEq, Nat.reduceAdd, Nat.reduceSub, Nat.reduceMul, Int.reduceToNat, Nat.reduceLeDiff])
        | (refine Exists.intro _ (Exists.intro _ (Exists.intro _ (And.intro (by assumption) ?_))); try simp only [push_cast, reduceIte, Nat.reduceEqDiff, reduceCtorEq, Nat.reduceAdd, Nat.reduceSub, Nat.reduceMul, Int.reduceToNat, Nat.reduceLeDiff])
        | (refine xr rfl (by simp only [List.length_cons, List.length_nil]; omega) ?_; try simp only [push_cast, reduceIte, Nat.reduceEqDiff, reduceCtorEq, Nat.reduceAdd, Nat.reduceSub, Nat.reduceMul, Int.reduceToNat, Nat.reduceLeDiff])
        | (refine xi rfl (by simp only [List.length_cons, List.length_nil]; omega) ?_; try simp only [push_cast, reduceIte, Nat.reduceEqDiff, reduceCtorEq, Nat.reduceAdd, Nat.reduceSub, Nat.reduceMul, Int.reduceToNat, Nat.reduceLeDiff])
        | (refine xs rfl (by simp only [List.length_cons, List.length_nil]; omega) ?_; try simp only [push_cast, reduceIte, Nat.reduceEqDiff, reduceCtorEq, Nat.reduceAdd, Nat.reduceSub, Nat.reduceMul, Int.reduceToNat, Nat.reduceLeDiff])
        | (refine xw ?_; simp only [push_cast, reduceIte, Nat.reduceEqDiff, reduceCtorEq, Nat.reduceAdd, Nat.reduceSub, Nat.reduceMul, Int.reduceToNat, Nat.reduceLeDiff])
        | (refine And.intro (PHeap.le_refl _) (And.intro (fun p hp => hp) ?_))
        | (refine And.intro (PHeap.le_refl _) (And.intro (fun p hp => List.mem_cons_of_mem _ hp) ?_))
        | (refine And.intro (PHeap.le_refl _) (And.intro (fun p hp => List.mem_cons_of_mem _ (List.mem_cons_of_mem _ hp)) ?_))
        | (refine And.intro (PHeap.le_refl _) (And.intro (mem_of_sub ?_) ?_); focus ((repeat' first | exact List.Sublist.refl _ | exact List.nil_sublist _ | exact List.sublist_append_left _ _ | refine List.Sublist.cons_cons _ ?_ | refine List.Sublist.append_left ?_ _ | refine List.sublist_append_of_sublist_right ?_ | refine List.Sublist.cons _ ?_); done); try simp only [push_cast, reduceIte, Nat.reduceEqDiff, reduceCtorEq, Nat.reduceAdd, Nat.reduceSub, Nat.reduceMul, Int.reduceToNat, Nat.reduceLeDiff])
        | (exfalso; simp at hc; done)
        | (exfalso; omega)
        | exact false
        | fail "stuck"
    · rw [idxI_at hi' hok h]
    · refine EV.to (ih (i + 1) ⟨by omega, ?_⟩ (by omega)) ?_ (by simp)
      · rw [List.take_succ_eq_append_getElem hi', ← getB hi']
        simp only [List.mem_append, List.mem_singleton, not_or]
        exact ⟨hok, h⟩
      · repeat' first
          | (refine List.forall_mem_cons.2 (And.intro ?_ ?_))
          | (intro _ hnil; cases hnil; done)
          | rfl
          | (refine env_w64 rfl (by first | rfl | (push_cast; first | rfl | omega)) (by omega) (by omega); done)
          | (simp (disch := omega) only [get_cons, get_nil, reduceIte, Nat.reduceEqDiff, Option.some.injEq, Value.int.injEq, w64, Int.natCast_add, Int.natCast_one, Int.cast_ofNat_Int, Int.natCast_zero]; done)
  · repeat' first
      | refine EV.seq ?_
      | refine EV.skip ?_
      | refine EV.block ?_
      | refine EV.inBlock ?_
      | (refine EV.reg ?_; (conv => (arg 2; whnf)); simp only [push_cast, reduceIte, Nat.reduceEqDiff, reduceCtorEq, Nat.reduceAdd, Nat.reduceSub, Nat.reduceMul, Int.reduceToNat, Nat.reduceLeDiff])
      | (refine EV.any _ (List.Sublist.refl _) ?_; (conv => (arg 2; whnf)); simp only [push_cast, reduceIte, Nat.reduceEqDiff, reduceCtorEq, Nat.reduceAdd, Nat.reduceSub, Nat.reduceMul, Int.reduceToNat, Nat.reduceLeDiff])
      | assumption
      | (refine condW.merge ?_ (fun hc K' hK => ?_) ?_; rotate_left)
      | (refine condQ.mk ?_ (fun hc => ?_) ?_; rotate_left; (try simp only [decide_eq_true_eq, decide_eq_false_iff_not, Bool.not_eq_true', Bool.not_eq_false', Bool.and_eq_true, Bool.or_eq_true, Bool.and_eq_false_iff, Bool.or_eq_false_iff] at hc))
      | (with_reducible rfl)
      | ((refine EV.cond rfl (fun h => ?_) (fun h => ?_) <;> try simp only [reduceCtorEq, reduceIte, if_true, if_false, Bool.not_eq_true', Bool.not_eq_false', decide_eq_true_eq, decide_eq_false_iff_not, Bool.and_eq_true, Bool.or_eq_true, Bool.and_eq_false_iff, Bool.or_eq_false_iff] at h) <;> try (exfalso; first | exact h True.intro | (exact h; done) | omega))
      | (refine EV.exit rfl ?_)
      | (refine EV.ret R_slices_Index_Lint_int_ok ?_; simp only [push_cast, reduceIte, Nat.reduceEqDiff, reduceCtorEq, Nat.reduceAdd, Nat.reduceSub, Nat.reduceMul, Int.reduceToNat, Nat.reduceLeDiff, R_slices_Index_Lint_int])
      | (with_reducible intro b; try simp only [push_cast, reduceIte, Nat.reduceEqDiff, reduceCtorEq, Nat.reduceAdd, Nat.reduceSub, Nat.reduceMul, Int.reduceToNat, Nat.reduceLeDiff])
      | with_reducible intro b
      | (refine And.intro (by omega) ?_)
      | (refine Exists.intro _ (And.intro (rd_M (by assumption)) ?_); try simp only [push_cast, reduceIte, Nat.reduceEqDiff, reduceCtorEq, Nat.reduceAdd, Nat.reduceSub, Nat.reduceMul, Int.reduceToNat, Nat.reduceLeDiff])
      | (refine Exists.intro _ (Exists.intro _ (Exists.intro _ (And.intro (rd_M (by assumption)) ?_))); try simp only [push_cast, reduceIte, Nat.reduceEqDiff, reduceCtorEq, Nat.reduceAdd, Nat.reduceSub, Nat.reduceMul, Int.reduceToNat, Nat.reduceLeDiff])
      | (refine Exists.intro _ (And.intro (by assumption) ?_); try simp only [push_cast, reduceIte, Nat.reduceEqDiff, reduceCtorEq, Nat.reduceAdd, Nat.reduceSub, Nat.reduceMul, Int.reduceToNat, Nat.reduceLeDiff])
      | (refine Exists.intro _ (Exists.intro _ (Exists.intro _ (And.intro (by assumption) ?_))); try simp only [push_cast, reduceIte, Nat.reduceEqDiff, reduceCtorEq, Nat.reduceAdd, Nat.reduceSub, Nat.reduceMul, Int.reduceToNat, Nat.reduceLeDiff])
      | (refine xr rfl (by simp only [List.length_cons, List.length_nil]; omega) ?_; try simp only [push_cast, reduceIte, Nat.reduceEqDiff, reduceCtorEq, Nat.reduceAdd, Nat.reduceSub, Nat.reduceMul, Int.reduceToNat, Nat.reduceLeDiff])
      | (refine xi rfl (by simp only [List.length_cons, List.length_nil]; omega) ?_; try simp only [push_cast, reduceIte, Nat.reduceEqDiff, reduceCtorEq, Nat.reduceAdd, Nat.reduceSub, Nat.reduceMul, Int.reduceToNat, Nat.reduceLeDiff])
      | (refine xs rfl (by simp only [List.length_cons, List.length_nil]; omega) ?_; try simp only [push_cast, reduceIte, Nat.reduceEqDiff, reduceCtorEq, Nat.reduceAdd, Nat.reduceSub, Nat.reduceMul, Int.reduceToNat, Nat.reduceLeDiff])
      | (refine xw ?_; simp only [push_cast, reduceIte, Nat.reduceEqDiff, reduceCtorEq, Nat.reduceAdd, Nat.reduceSub, Nat.reduceMul, Int.reduceToNat, Nat.reduceLeDiff])
      | (refine And.intro (PHeap.le_refl _) (And.intro (fun p hp => hp) ?_))
      | (refine And.intro (PHeap.le_refl _) (And.intro (fun p hp => List.mem_cons_of_mem _ hp) ?_))
      | (refine And.intro (PHeap.le_refl _) (And.intro (fun p hp => List.mem_cons_of_mem _ (List.mem_cons_of_mem _ hp)) ?_))
      | (refine And.intro (PHeap.le_refl _) (And.intro (mem_of_sub ?_) ?_); focus ((repeat' first | exact List.Sublist.refl _ | exact List.nil_sublist _ | exact List.sublist_append_left _ _ | refine List.Sublist.cons_cons _ ?_ | refine List.Sublist.append_left ?_ _ | refine List.sublist_append_of_sublist_right ?_ | refine List.Sublist.cons _ ?_); done); try simp only [push_cast, reduceIte, Nat.reduceEqDiff, reduceCtorEq, Nat.reduceAdd, Nat.reduceSub, Nat.reduceMul, Int.reduceToNat, Nat.reduceLeDiff])
      | (exfalso; simp at hc; done)
      | (exfalso; omega)
      | exact false
      | fail "stuck"
    have hi3 : i = l.length := by omega
    subst hi3
    rw [List.take_length] at hok
    rw [idxI, if_neg hok]

variable {mp : Nat} {ad : Ad} {m : VM} {B : Nat}

theorem view_there_q (r : RdM M mp ad m) (wf : m.Wf B) : ConQ Try.prog 32 #[pv mp 0] M (vb true) := by
  have h5 := r.f5
  have ht := wf.tp
  refine Con.enter R_view_Machine_there_ok (args := [pv mp 0]) (by simp [R_view_Machine_there]) fun w0 => ?_
  simp only [R_view_Machine_there, argE]
  repeat' first
      | refine EV.seq ?_
      | refine EV.skip ?_
      | refine EV.block ?_
      | refine EV.inBlock ?_
      | (refine EV.reg ?_; (conv => (arg 2; whnf)); simp only [push_cast, reduceIte, Nat.reduceEqDiff, reduceCtorEq, Nat.reduceAdd, Nat.reduceSub, Nat.reduceMul, Int.reduceToNat, Nat.reduceLeDiff])
      | (refine EV.any _ (List.Sublist.refl _) ?_; (conv => (arg 2; whnf)); simp only [push_cast, reduceIte, Nat.reduceEqDiff, reduceCtorEq, Nat.reduceAdd, Nat.reduceSub, Nat.reduceMul, Int.reduceToNat, Nat.reduceLeDiff])
      | assumption
      | (refine condW.merge ?_ (fun hc K' hK => ?_) ?_; rotate_left)
      | (refine condQ.mk ?_ (fun hc => ?_) ?_; rotate_left; (try simp only [decide_eq_true_eq, decide_eq_false_iff_not, Bool.not_eq_true', Bool.not_eq_false', Bool.and_eq_true, Bool.or_eq_true, Bool.and_eq_false_iff, Bool.or_eq_false_iff] at hc))
      | (with_reducible rfl)
      | ((refine EV.cond rfl (fun h => ?_) (fun h => ?_) <;> try simp only [reduceCtorEq, reduceIte, if_true, if_false, Bool.not_eq_true', Bool.not_eq_false', decide_eq_true_eq, decide_eq_false_iff_not, Bool.and_eq_true, Bool.or_eq_true, Bool.and_eq_false_iff, Bool.or_eq_false_iff] at h) <;> try (exfalso; first | exact h True.intro | (exact h; done) | omega))
      | (refine EV.exit rfl ?_)
      | (refine EV.ret R_view_Machine_there_ok ?_; simp only [push_cast, reduceIte, Nat.reduceEqDiff, reduceCtorEq, Nat.reduceAdd, Nat.reduceSub, Nat.reduceMul, Int.reduceToNat, Nat.reduceLeDiff, R_view_Machine_there])
      | (with_reducible intro b; try simp only [push_cast, reduceIte, Nat.reduceEqDiff, reduceCtorEq, Nat.reduceAdd, Nat.reduceSub, Nat.reduceMul, Int.reduceToNat, Nat.reduceLeDiff])
      | with_reducible intro b
      | (refine And.intro (by omega) ?_)
      | (refine Exists.intro _ (And.intro (rd_M (by assumption)) ?_); try simp only [push_cast, reduceIte, Nat.reduceEqDiff, reduceCtorEq, Nat.reduceAdd, Nat.reduceSub, Nat.reduceMul, Int.reduceToNat, Nat.reduceLeDiff])
      | (refine Exists.intro _ (Exists.intro _ (Exists.intro _ (And.intro (rd_M (by assumption)) ?_))); try simp only [push_cast, reduceIte, Nat.reduceEqDiff, reduceCtorEq, Nat.reduceAdd, Nat.reduceSub, Nat.reduceMul, Int.reduceToNat, Nat.reduceLeDiff])
      | (refine Exists.intro _ (And.intro (by assumption) ?_); try simp only [push_cast, reduceIte, Nat.reduceEqDiff, reduceCtorEq, Nat.reduceAdd, Nat.reduceSub, Nat.reduceMul, Int.reduceToNat, Nat.reduceLeDiff])
      | (refine Exists.intro _ (Exists.intro _ (Exists.intro _ (And.intro (by assumption) ?_))); try simp only [push_cast, reduceIte, Nat.reduceEqDiff, reduceCtorEq, Nat.reduceAdd, Nat.reduceSub, Nat.reduceMul, Int.reduceToNat, Nat.reduceLeDiff])
      | (refine xr rfl (by simp only [List.length_cons, List.length_nil]; omega) ?_; try simp only [push_cast, reduceIte, Nat.reduceEqDiff, reduceCtorEq, Nat.reduceAdd, Nat.reduceSub, Nat.reduceMul, Int.reduceToNat, Nat.reduceLeDiff])
      | (refine xi rfl (by simp only [List.length_cons, List.length_nil]; omega) ?_; try simp only [push_cast, reduceIte, Nat.reduceEqDiff, reduceCtorEq, Nat.reduceAdd, Nat.reduceSub, Nat.reduceMul, Int.reduceToNat, Nat.reduceLeDiff])
      | (refine xs rfl (by simp only [List.length_cons, List.length_nil]; omega) ?_; try simp only [push_cast, reduceIte, Nat.reduceEqDiff, reduceCtorEq, Nat.reduceAdd, Nat.reduceSub, Nat.reduceMul, Int.reduceToNat, Nat.reduceLeDiff])
      | (refine xw ?_; simp only [push_cast, reduceIte, Nat.reduceEqDiff, reduceCtorEq, Nat.reduceAdd, Nat.reduceSub, Nat.reduceMul, Int.reduceToNat, Nat.reduceLeDiff])
      | (refine And.intro (PHeap.le_refl _) (And.intro (fun p hp => hp) ?_))
      | (refine And.intro (PHeap.le_refl _) (And.intro (fun p hp => List.mem_cons_of_mem _ hp) ?_))
      | (refine And.intro (PHeap.le_refl _) (And.intro (fun p hp => List.mem_cons_of_mem _ (List.mem_cons_of_mem _ hp)) ?_))
      | (refine And.intro (PHeap.le_refl _) (And.intro (mem_of_sub ?_) ?_); focus ((repeat' first | exact List.Sublist.refl _ | exact List.nil_sublist _ | exact List.sublist_append_left _ _ | refine List.Sublist.cons_cons _ ?_ | refine List.Sublist.append_left ?_ _ | refine List.sublist_append_of_sublist_right ?_ | refine List.Sublist.cons _ ?_); done); try simp only [push_cast, reduceIte, Nat.reduceEqDiff, reduceCtorEq, Nat.reduceAdd, Nat.reduceSub, Nat.reduceMul, Int.reduceToNat, Nat.reduceLeDiff])
      | (exfalso; simp at hc; done)
      | (exfalso; omega)
      | exact false
      | fail "stuck"
  all_goals (first | (simp; omega) | fail)

theorem view_there_nil_q : ConQ Try.prog 32 #[.pointer none] M (vb false) := by
  refine Con.enter R_view_Machine_there_ok (args := [.pointer none]) (by simp [R_view_Machine_there]) fun w0 => ?_
  simp only [R_view_Machine_there, argE]
  repeat' first
      | refine EV.seq ?_
      | refine EV.skip ?_
      | refine EV.block ?_
      | refine EV.inBlock ?_
      | (refine EV.reg ?_; (conv => (arg 2; whnf)); simp only [push_cast, reduceIte, Nat.reduceEqDiff, reduceCtorEq, Nat.reduceAdd, Nat.reduceSub, Nat.reduceMul, Int.reduceToNat, Nat.reduceLeDiff])
      | (refine EV.any _ (List.Sublist.refl _) ?_; (conv => (arg 2; whnf)); simp only [push_cast, reduceIte, Nat.reduceEqDiff, reduceCtorEq, Nat.reduceAdd, Nat.reduceSub, Nat.reduceMul, Int.reduceToNat, Nat.reduceLeDiff])
      | assumption
      | (refine condW.merge ?_ (fun hc K' hK => ?_) ?_; rotate_left)
      | (refine condQ.mk ?_ (fun hc => ?_) ?_; rotate_left; (try simp only [decide_eq_true_eq, decide_eq_false_iff_not, Bool.not_eq_true', Bool.not_eq_false', Bool.and_eq_true, Bool.or_eq_true, Bool.and_eq_false_iff, Bool.or_eq_false_iff] at hc))
      | (with_reducible rfl)
      | ((refine EV.cond rfl (fun h => ?_) (fun h => ?_) <;> try simp only [reduceCtorEq, reduceIte, if_true, if_false, Bool.not_eq_true', Bool.not_eq_false', decide_eq_true_eq, decide_eq_false_iff_not, Bool.and_eq_true, Bool.or_eq_true, Bool.and_eq_false_iff, Bool.or_eq_false_iff] at h) <;> try (exfalso; first | exact h True.intro | (exact h; done) | omega))
      | (refine EV.exit rfl ?_)
      | (refine EV.ret R_view_Machine_there_ok ?_; simp only [push_cast, reduceIte, Nat.reduceEqDiff, reduceCtorEq, Nat.reduceAdd, Nat.reduceSub, Nat.reduceMul, Int.reduceToNat, Nat.reduceLeDiff, R_view_Machine_there])
      | (with_reducible intro b; try simp only [push_cast, reduceIte, Nat.reduceEqDiff, reduceCtorEq, Nat.reduceAdd, Nat.reduceSub, Nat.reduceMul, Int.reduceToNat, Nat.reduceLeDiff])
      | with_reducible intro b
      | (refine And.intro (by omega) ?_)
      | (refine Exists.intro _ (And.intro (rd_M (by assumption)) ?_); try simp only [push_cast, reduceIte, Nat.reduceEqDiff, reduceCtorEq, Nat.reduceAdd, Nat.reduceSub, Nat.reduceMul, Int.reduceToNat, Nat.reduceLeDiff])
      | (refine Exists.intro _ (Exists.intro _ (Exists.intro _ (And.intro (rd_M (by assumption)) ?_))); try simp only [push_cast, reduceIte, Nat.reduceEqDiff, reduceCtorEq, Nat.reduceAdd, Nat.reduceSub, Nat.reduceMul, Int.reduceToNat, Nat.reduceLeDiff])
      | (refine Exists.intro _ (And.intro (by assumption) ?_); try simp only [push_cast, reduceIte, Nat.reduceEqDiff, reduceCtorEq, Nat.reduceAdd, Nat.reduceSub, Nat.reduceMul, Int.reduceToNat, Nat.reduceLeDiff])
      | (refine Exists.intro _ (Exists.intro _ (Exists.intro _ (And.intro (by assumption) ?_))); try simp only [push_cast, reduceIte, Nat.reduceEqDiff, reduceCtorEq, Nat.reduceAdd, Nat.reduceSub, Nat.reduceMul, Int.reduceToNat, Nat.reduceLeDiff])
      | (refine xr rfl (by simp only [List.length_cons, List.length_nil]; omega) ?_; try simp only [push_cast, reduceIte, Nat.reduceEqDiff, reduceCtorEq, Nat.reduceAdd, Nat.reduceSub, Nat.reduceMul, Int.reduceToNat, Nat.reduceLeDiff])
      | (refine xi rfl (by simp only [List.length_cons, List.length_nil]; omega) ?_; try simp only [push_cast, reduceIte, Nat.reduceEqDiff, reduceCtorEq, Nat.reduceAdd, Nat.reduceSub, Nat.reduceMul, Int.reduceToNat, Nat.reduceLeDiff])
      | (refine xs rfl (by simp only [List.length_cons, List.length_nil]; omega) ?_; try simp only [push_cast, reduceIte, Nat.reduceEqDiff, reduceCtorEq, Nat.reduceAdd, Nat.reduceSub, Nat.reduceMul, Int.reduceToNat, Nat.reduceLeDiff])
      | (refine xw ?_; simp only [push_cast, reduceIte, Nat.reduceEqDiff, reduceCtorEq, Nat.reduceAdd, Nat.reduceSub, Nat.reduceMul, Int.reduceToNat, Nat.reduceLeDiff])
      | (refine And.intro (PHeap.le_refl _) (And.intro (fun p hp => hp) ?_))
      | (refine And.intro (PHeap.le_refl _) (And.intro (fun p hp => List.mem_cons_of_mem _ hp) ?_))
      | (refine And.intro (PHeap.le_refl _) (And.intro (fun p hp => List.mem_cons_of_mem _ (List.mem_cons_of_mem _ hp)) ?_))
      | (refine And.intro (PHeap.le_refl _) (And.intro (mem_of_sub ?_) ?_); focus ((repeat' first | exact List.Sublist.refl _ | exact List.nil_sublist _ | exact List.sublist_append_left _ _ | refine List.Sublist.cons_cons _ ?_ | refine List.Sublist.append_left ?_ _ | refine List.sublist_append_of_sublist_right ?_ | refine List.Sublist.cons _ ?_); done); try simp only [push_cast, reduceIte, Nat.reduceEqDiff, reduceCtorEq, Nat.reduceAdd, Nat.reduceSub, Nat.reduceMul, Int.reduceToNat, Nat.reduceLeDiff])
      | (exfalso; simp at hc; done)
      | (exfalso; omega)
      | exact false
      | fail "stuck"
  all_goals (first | rfl | simp | fail)

/-- The lines, as they are read. -/
def RdL (M : PHeap) (mp : Nat) (line : Nat → List Int) : Prop :=
  ∀ l, l < 3 → ∃ lb lc, rd M mp (2 + l) 1 [rowV lb (line l).length lc] ∧ rd M lb 0 (line l).length ((line l).map vi) ∧ (line l).length < 1000000

theorem RdM.toL (r : RdM M mp ad m) (wf : m.Wf B) : RdL M mp m.line := fun l hl =>
  ⟨_, _, r.fl hl, r.ln l hl, by have := wf.ll l hl; have := wf.b0; omega⟩

theorem RdL.mono {M' : PHeap} {line : Nat → List Int} (h : M.le M') (r : RdL M mp line) : RdL M' mp line := fun l hl =>
  let ⟨lb, lc, h1, h2, h3⟩ := r l hl; ⟨lb, lc, h1.mono h, h2.mono h, h3⟩

theorem view_place_l {line : Nat → List Int} (r : RdL M mp line) {l : Nat} (hl : l < 3) (n : Int) : ConQ Try.prog 33 #[pv mp 0, vi l, vi n] M (vi (place line l n)) := by
  obtain ⟨lb, lc, h2, hln, hb⟩ := r l hl
  refine Con.enter R_view_Machine_place_ok (args := [pv mp 0, vi l, vi n]) (by simp [R_view_Machine_place]) fun w0 => ?_
  simp only [R_view_Machine_place, argE]
  repeat' first
      | refine EV.seq ?_
      | refine EV.skip ?_
      | refine EV.block ?_
      | refine EV.inBlock ?_
      | (refine EV.reg ?_; (conv => (arg 2; whnf)); simp only [push_cast, reduceIte, Nat.reduceEqDiff, reduceCtorEq, Nat.reduceAdd, Nat.reduceSub, Nat.reduceMul, Int.reduceToNat, Nat.reduceLeDiff])
      | (refine EV.any _ (List.Sublist.refl _) ?_; (conv => (arg 2; whnf)); simp only [push_cast, reduceIte, Nat.reduceEqDiff, reduceCtorEq, Nat.reduceAdd, Nat.reduceSub, Nat.reduceMul, Int.reduceToNat, Nat.reduceLeDiff])
      | (refine ConQ.call (slices_Index_q _ _ _ _ (rd_M hln) (by omega)) ?_; try simp only [push_cast, reduceIte, Nat.reduceEqDiff, reduceCtorEq, Nat.reduceAdd, Nat.reduceSub, Nat.reduceMul, Int.reduceToNat, Nat.reduceLeDiff])
      | (refine Exists.intro _ (And.intro (slices_Index_q _ _ _ _ (rd_M hln) (by omega)) ?_); try simp only [push_cast, reduceIte, Nat.reduceEqDiff, reduceCtorEq, Nat.reduceAdd, Nat.reduceSub, Nat.reduceMul, Int.reduceToNat, Nat.reduceLeDiff])
      | assumption
      | (refine condW.merge ?_ (fun hc K' hK => ?_) ?_; rotate_left)
      | (refine condQ.mk ?_ (fun hc => ?_) ?_; rotate_left; (try simp only [decide_eq_true_eq, decide_eq_false_iff_not, Bool.not_eq_true', Bool.not_eq_false', Bool.and_eq_true, Bool.or_eq_true, Bool.and_eq_false_iff, Bool.or_eq_false_iff] at hc))
      | (with_reducible rfl)
      | ((refine EV.cond rfl (fun h => ?_) (fun h => ?_) <;> try simp only [reduceCtorEq, reduceIte, if_true, if_false, Bool.not_eq_true', Bool.not_eq_false', decide_eq_true_eq, decide_eq_false_iff_not, Bool.and_eq_true, Bool.or_eq_true, Bool.and_eq_false_iff, Bool.or_eq_false_iff] at h) <;> try (exfalso; first | exact h True.intro | (exact h; done) | omega))
      | (refine EV.exit rfl ?_)
      | (refine EV.ret R_view_Machine_place_ok ?_; simp only [push_cast, reduceIte, Nat.reduceEqDiff, reduceCtorEq, Nat.reduceAdd, Nat.reduceSub, Nat.reduceMul, Int.reduceToNat, Nat.reduceLeDiff, R_view_Machine_place])
      | (with_reducible intro b; try simp only [push_cast, reduceIte, Nat.reduceEqDiff, reduceCtorEq, Nat.reduceAdd, Nat.reduceSub, Nat.reduceMul, Int.reduceToNat, Nat.reduceLeDiff])
      | with_reducible intro b
      | (refine And.intro (by omega) ?_)
      | (refine Exists.intro _ (And.intro (rd_M (by assumption)) ?_); try simp only [push_cast, reduceIte, Nat.reduceEqDiff, reduceCtorEq, Nat.reduceAdd, Nat.reduceSub, Nat.reduceMul, Int.reduceToNat, Nat.reduceLeDiff])
      | (refine Exists.intro _ (Exists.intro _ (Exists.intro _ (And.intro (rd_M (by assumption)) ?_))); try simp only [push_cast, reduceIte, Nat.reduceEqDiff, reduceCtorEq, Nat.reduceAdd, Nat.reduceSub, Nat.reduceMul, Int.reduceToNat, Nat.reduceLeDiff])
      | (refine Exists.intro _ (And.intro (by assumption) ?_); try simp only [push_cast, reduceIte, Nat.reduceEqDiff, reduceCtorEq, Nat.reduceAdd, Nat.reduceSub, Nat.reduceMul, Int.reduceToNat, Nat.reduceLeDiff])
      | (refine Exists.intro _ (Exists.intro _ (Exists.intro _ (And.intro (by assumption) ?_))); try simp only [push_cast, reduceIte, Nat.reduceEqDiff, reduceCtorEq, Nat.reduceAdd, Nat.reduceSub, Nat.reduceMul, Int.reduceToNat, Nat.reduceLeDiff])
      | (refine xr rfl (by simp only [List.length_cons, List.length_nil]; omega) ?_; try simp only [push_cast, reduceIte, Nat.reduceEqDiff, reduceCtorEq, Nat.reduceAdd, Nat.reduceSub, Nat.reduceMul, Int.reduceToNat, Nat.reduceLeDiff])
      | (refine xi rfl (by simp only [List.length_cons, List.length_nil]; omega) ?_; try simp only [push_cast, reduceIte, Nat.reduceEqDiff, reduceCtorEq, Nat.reduceAdd, Nat.reduceSub, Nat.reduceMul, Int.reduceToNat, Nat.reduceLeDiff])
      | (refine xs rfl (by simp only [List.length_cons, List.length_nil]; omega) ?_; try simp only [push_cast, reduceIte, Nat.reduceEqDiff, reduceCtorEq, Nat.reduceAdd, Nat.reduceSub, Nat.reduceMul, Int.reduceToNat, Nat.reduceLeDiff])
      | (refine xw ?_; simp only [push_cast, reduceIte, Nat.reduceEqDiff, reduceCtorEq, Nat.reduceAdd, Nat.reduceSub, Nat.reduceMul, Int.reduceToNat, Nat.reduceLeDiff])
      | (refine And.intro (PHeap.le_refl _) (And.intro (fun p hp => hp) ?_))
      | (refine And.intro (PHeap.le_refl _) (And.intro (fun p hp => List.mem_cons_of_mem _ hp) ?_))
      | (refine And.intro (PHeap.le_refl _) (And.intro (fun p hp => List.mem_cons_of_mem _ (List.mem_cons_of_mem _ hp)) ?_))
      | (refine And.intro (PHeap.le_refl _) (And.intro (mem_of_sub ?_) ?_); focus ((repeat' first | exact List.Sublist.refl _ | exact List.nil_sublist _ | exact List.sublist_append_left _ _ | refine List.Sublist.cons_cons _ ?_ | refine List.Sublist.append_left ?_ _ | refine List.sublist_append_of_sublist_right ?_ | refine List.Sublist.cons _ ?_); done); try simp only [push_cast, reduceIte, Nat.reduceEqDiff, reduceCtorEq, Nat.reduceAdd, Nat.reduceSub, Nat.reduceMul, Int.reduceToNat, Nat.reduceLeDiff])
      | (exfalso; simp at hc; done)
      | (exfalso; omega)
      | exact false
      | fail "stuck"
  all_goals (first | (rw [← place_idx]; done) | fail)

theorem view_place_q (r : RdM M mp ad m) (wf : m.Wf B) {l : Nat} (hl : l < 3) (n : Int) : ConQ Try.prog 33 #[pv mp 0, vi l, vi n] M (vi (place m.line l n)) :=
  view_place_l (r.toL wf) hl n

theorem view_bound_q (r : RdM M mp ad m) (wf : m.Wf B) {l i : Nat} (hl : l < 3) (hi : i < (m.line l).length) : ConQ Try.prog 65 #[pv mp 0, vi l, vi i] M (vb (m.bound l i)) := by
  have h2 := r.fl hl
  have h1 := r.f1
  have hb := wf.ll l hl
  have hb0 := wf.b0
  have hln : i + 1 < (m.line l).length → rd M (ad.lb l) (i + 1) 1 [vi (m.line l)[i + 1]!] ∧ 0 ≤ (m.line l)[i + 1]! ∧ (m.line l)[i + 1]! < m.msgs.length ∧ rd M ad.mb ((m.line l)[i+1]!.toNat * 5 + 4) 1 [vb (m.msgAt l (i + 1)).tied] := by
    intro h
    have hm := wf.le l hl ((m.line l)[i + 1]!) (by rw [getB h]; exact List.getElem_mem h)
    exact ⟨r.line hl h, hm.1, hm.2, r.tied (by omega)⟩
  refine Con.enter R_view_Machine_bound_ok (args := [pv mp 0, vi l, vi i]) (by simp [R_view_Machine_bound]) fun w0 => ?_
  simp only [R_view_Machine_bound, argE]
  have hw : IntKind.i64.wrap ((i : Int) + 1) = ((i + 1 : Nat) : Int) := by rw [w64 (by omega) (by omega)]; omega
  by_cases h1 : i + 1 < (m.line l).length
  · obtain ⟨k1, k2, k3, k4⟩ := hln h1
    repeat' first
        | refine EV.seq ?_
        | refine EV.skip ?_
        | refine EV.block ?_
        | refine EV.inBlock ?_
        | (refine EV.reg ?_; (conv => (arg 2; whnf)); simp only [push_cast, reduceIte, Nat.reduceEqDiff, reduceCtorEq, Nat.reduceAdd, Nat.reduceSub, Nat.reduceMul, Int.reduceToNat, Nat.reduceLeDiff, hw, h1])
        | (refine EV.any _ (List.Sublist.refl _) ?_; (conv => (arg 2; whnf)); simp only [push_cast, reduceIte, Nat.reduceEqDiff, reduceCtorEq, Nat.reduceAdd, Nat.reduceSub, Nat.reduceMul, Int.reduceToNat, Nat.reduceLeDiff, hw, h1])
        | assumption
        | (refine condW.merge ?_ (fun hc K' hK => ?_) ?_; rotate_left)
        | (refine condQ.mk ?_ (fun hc => ?_) ?_; rotate_left; (try simp only [decide_eq_true_eq, decide_eq_false_iff_not, Bool.not_eq_true', Bool.not_eq_false', Bool.and_eq_true, Bool.or_eq_true, Bool.and_eq_false_iff, Bool.or_eq_false_iff] at hc))
        | (with_reducible rfl)
        | ((refine EV.cond rfl (fun h => ?_) (fun h => ?_) <;> try simp only [reduceCtorEq, reduceIte, if_true, if_false, Bool.not_eq_true', Bool.not_eq_false', decide_eq_true_eq, decide_eq_false_iff_not, Bool.and_eq_true, Bool.or_eq_true, Bool.and_eq_false_iff, Bool.or_eq_false_iff] at h) <;> try (exfalso; first | exact h True.intro | (exact h; done) | omega))
        | (refine EV.exit rfl ?_)
        | (refine EV.ret R_view_Machine_bound_ok ?_; simp only [push_cast, reduceIte, Nat.reduceEqDiff, reduceCtorEq, Nat.reduceAdd, Nat.reduceSub, Nat.reduceMul, Int.reduceToNat, Nat.reduceLeDiff, hw, h1, R_view_Machine_bound])
        | (with_reducible intro b; try simp only [push_cast, reduceIte, Nat.reduceEqDiff, reduceCtorEq, Nat.reduceAdd, Nat.reduceSub, Nat.reduceMul, Int.reduceToNat, Nat.reduceLeDiff, hw, h1])
        | with_reducible intro b
        | (refine And.intro (by omega) ?_)
        | (refine Exists.intro _ (And.intro (rd_M (by assumption)) ?_); try simp only [push_cast, reduceIte, Nat.reduceEqDiff, reduceCtorEq, Nat.reduceAdd, Nat.reduceSub, Nat.reduceMul, Int.reduceToNat, Nat.reduceLeDiff, hw, h1])
        | (refine Exists.intro _ (Exists.intro _ (Exists.intro _ (And.intro (rd_M (by assumption)) ?_))); try simp only [push_cast, reduceIte, Nat.reduceEqDiff, reduceCtorEq, Nat.reduceAdd, Nat.reduceSub, Nat.reduceMul, Int.reduceToNat, Nat.reduceLeDiff, hw, h1])
        | (refine Exists.intro _ (And.intro (by assumption) ?_); try simp only [push_cast, reduceIte, Nat.reduceEqDiff, reduceCtorEq, Nat.reduceAdd, Nat.reduceSub, Nat.reduceMul, Int.reduceToNat, Nat.reduceLeDiff, hw, h1])
        | (refine Exists.intro _ (Exists.intro _ (Exists.intro _ (And.intro (by assumption) ?_))); try simp only [push_cast, reduceIte, Nat.reduceEqDiff, reduceCtorEq, Nat.reduceAdd, Nat.reduceSub, Nat.reduceMul, Int.reduceToNat, Nat.reduceLeDiff, hw, h1])
        | (refine xr rfl (by simp only [List.length_cons, List.length_nil]; omega) ?_; try simp only [push_cast, reduceIte, Nat.reduceEqDiff, reduceCtorEq, Nat.reduceAdd, Nat.reduceSub, Nat.reduceMul, Int.reduceToNat, Nat.reduceLeDiff, hw, h1])
        | (refine xi rfl (by simp only [List.length_cons, List.length_nil]; omega) ?_; try simp only [push_cast, reduceIte, Nat.reduceEqDiff, reduceCtorEq, Nat.reduceAdd, Nat.reduceSub, Nat.reduceMul, Int.reduceToNat, Nat.reduceLeDiff, hw, h1])
        | (refine xs rfl (by simp only [List.length_cons, List.length_nil]; omega) ?_; try simp only [push_cast, reduceIte, Nat.reduceEqDiff, reduceCtorEq, Nat.reduceAdd, Nat.reduceSub, Nat.reduceMul, Int.reduceToNat, Nat.reduceLeDiff, hw, h1])
        | (refine xw ?_; simp only [push_cast, reduceIte, Nat.reduceEqDiff, reduceCtorEq, Nat.reduceAdd, Nat.reduceSub, Nat.reduceMul, Int.reduceToNat, Nat.reduceLeDiff, hw, h1])
        | (refine And.intro (PHeap.le_refl _) (And.intro (fun p hp => hp) ?_))
        | (refine And.intro (PHeap.le_refl _) (And.intro (fun p hp => List.mem_cons_of_mem _ hp) ?_))
        | (refine And.intro (PHeap.le_refl _) (And.intro (fun p hp => List.mem_cons_of_mem _ (List.mem_cons_of_mem _ hp)) ?_))
        | (refine And.intro (PHeap.le_refl _) (And.intro (mem_of_sub ?_) ?_); focus ((repeat' first | exact List.Sublist.refl _ | exact List.nil_sublist _ | exact List.sublist_append_left _ _ | refine List.Sublist.cons_cons _ ?_ | refine List.Sublist.append_left ?_ _ | refine List.sublist_append_of_sublist_right ?_ | refine List.Sublist.cons _ ?_); done); try simp only [push_cast, reduceIte, Nat.reduceEqDiff, reduceCtorEq, Nat.reduceAdd, Nat.reduceSub, Nat.reduceMul, Int.reduceToNat, Nat.reduceLeDiff, hw, h1])
        | (exfalso; simp at hc; done)
        | (exfalso; omega)
        | exact false
        | fail "stuck"
    simp only [VM.bound, vb, ← Int.natCast_one, ← Int.natCast_add, Int.ofNat_lt]
  · repeat' first
      | refine EV.seq ?_
      | refine EV.skip ?_
      | refine EV.block ?_
      | refine EV.inBlock ?_
      | (refine EV.reg ?_; (conv => (arg 2; whnf)); simp only [push_cast, reduceIte, Nat.reduceEqDiff, reduceCtorEq, Nat.reduceAdd, Nat.reduceSub, Nat.reduceMul, Int.reduceToNat, Nat.reduceLeDiff, hw, h1])
      | (refine EV.any _ (List.Sublist.refl _) ?_; (conv => (arg 2; whnf)); simp only [push_cast, reduceIte, Nat.reduceEqDiff, reduceCtorEq, Nat.reduceAdd, Nat.reduceSub, Nat.reduceMul, Int.reduceToNat, Nat.reduceLeDiff, hw, h1])
      | assumption
      | (refine condW.merge ?_ (fun hc K' hK => ?_) ?_; rotate_left)
      | (refine condQ.mk ?_ (fun hc => ?_) ?_; rotate_left; (try simp only [decide_eq_true_eq, decide_eq_false_iff_not, Bool.not_eq_true', Bool.not_eq_false', Bool.and_eq_true, Bool.or_eq_true, Bool.and_eq_false_iff, Bool.or_eq_false_iff] at hc))
      | (with_reducible rfl)
      | ((refine EV.cond rfl (fun h => ?_) (fun h => ?_) <;> try simp only [reduceCtorEq, reduceIte, if_true, if_false, Bool.not_eq_true', Bool.not_eq_false', decide_eq_true_eq, decide_eq_false_iff_not, Bool.and_eq_true, Bool.or_eq_true, Bool.and_eq_false_iff, Bool.or_eq_false_iff] at h) <;> try (exfalso; first | exact h True.intro | (exact h; done) | omega))
      | (refine EV.exit rfl ?_)
      | (refine EV.ret R_view_Machine_bound_ok ?_; simp only [push_cast, reduceIte, Nat.reduceEqDiff, reduceCtorEq, Nat.reduceAdd, Nat.reduceSub, Nat.reduceMul, Int.reduceToNat, Nat.reduceLeDiff, hw, h1, R_view_Machine_bound])
      | (with_reducible intro b; try simp only [push_cast, reduceIte, Nat.reduceEqDiff, reduceCtorEq, Nat.reduceAdd, Nat.reduceSub, Nat.reduceMul, Int.reduceToNat, Nat.reduceLeDiff, hw, h1])
      | with_reducible intro b
      | (refine And.intro (by omega) ?_)
      | (refine Exists.intro _ (And.intro (rd_M (by assumption)) ?_); try simp only [push_cast, reduceIte, Nat.reduceEqDiff, reduceCtorEq, Nat.reduceAdd, Nat.reduceSub, Nat.reduceMul, Int.reduceToNat, Nat.reduceLeDiff, hw, h1])
      | (refine Exists.intro _ (Exists.intro _ (Exists.intro _ (And.intro (rd_M (by assumption)) ?_))); try simp only [push_cast, reduceIte, Nat.reduceEqDiff, reduceCtorEq, Nat.reduceAdd, Nat.reduceSub, Nat.reduceMul, Int.reduceToNat, Nat.reduceLeDiff, hw, h1])
      | (refine Exists.intro _ (And.intro (by assumption) ?_); try simp only [push_cast, reduceIte, Nat.reduceEqDiff, reduceCtorEq, Nat.reduceAdd, Nat.reduceSub, Nat.reduceMul, Int.reduceToNat, Nat.reduceLeDiff, hw, h1])
      | (refine Exists.intro _ (Exists.intro _ (Exists.intro _ (And.intro (by assumption) ?_))); try simp only [push_cast, reduceIte, Nat.reduceEqDiff, reduceCtorEq, Nat.reduceAdd, Nat.reduceSub, Nat.reduceMul, Int.reduceToNat, Nat.reduceLeDiff, hw, h1])
      | (refine xr rfl (by simp only [List.length_cons, List.length_nil]; omega) ?_; try simp only [push_cast, reduceIte, Nat.reduceEqDiff, reduceCtorEq, Nat.reduceAdd, Nat.reduceSub, Nat.reduceMul, Int.reduceToNat, Nat.reduceLeDiff, hw, h1])
      | (refine xi rfl (by simp only [List.length_cons, List.length_nil]; omega) ?_; try simp only [push_cast, reduceIte, Nat.reduceEqDiff, reduceCtorEq, Nat.reduceAdd, Nat.reduceSub, Nat.reduceMul, Int.reduceToNat, Nat.reduceLeDiff, hw, h1])
      | (refine xs rfl (by simp only [List.length_cons, List.length_nil]; omega) ?_; try simp only [push_cast, reduceIte, Nat.reduceEqDiff, reduceCtorEq, Nat.reduceAdd, Nat.reduceSub, Nat.reduceMul, Int.reduceToNat, Nat.reduceLeDiff, hw, h1])
      | (refine xw ?_; simp only [push_cast, reduceIte, Nat.reduceEqDiff, reduceCtorEq, Nat.reduceAdd, Nat.reduceSub, Nat.reduceMul, Int.reduceToNat, Nat.reduceLeDiff, hw, h1])
      | (refine And.intro (PHeap.le_refl _) (And.intro (fun p hp => hp) ?_))
      | (refine And.intro (PHeap.le_refl _) (And.intro (fun p hp => List.mem_cons_of_mem _ hp) ?_))
      | (refine And.intro (PHeap.le_refl _) (And.intro (fun p hp => List.mem_cons_of_mem _ (List.mem_cons_of_mem _ hp)) ?_))
      | (refine And.intro (PHeap.le_refl _) (And.intro (mem_of_sub ?_) ?_); focus ((repeat' first | exact List.Sublist.refl _ | exact List.nil_sublist _ | exact List.sublist_append_left _ _ | refine List.Sublist.cons_cons _ ?_ | refine List.Sublist.append_left ?_ _ | refine List.sublist_append_of_sublist_right ?_ | refine List.Sublist.cons _ ?_); done); try simp only [push_cast, reduceIte, Nat.reduceEqDiff, reduceCtorEq, Nat.reduceAdd, Nat.reduceSub, Nat.reduceMul, Int.reduceToNat, Nat.reduceLeDiff, hw, h1])
      | (exfalso; simp at hc; done)
      | (exfalso; omega)
      | exact false
      | fail "stuck"
    simp [VM.bound, h1]


theorem V3.cases (p : Nat → Prop) (h0 : p 0) (h1 : p 1) (h2 : p 2) : ∀ l, l < 3 → p l
  | 0, _ => h0
  | 1, _ => h1
  | 2, _ => h2

theorem encV_at (v : Vw) {l : Nat} (hl : l < 3) : ((encV v).drop l).take 1 = [vi (v l)] := by
  match l, hl with
  | 0, _ => rfl
  | 1, _ => rfl
  | 2, _ => rfl

theorem encV_set (v : Vw) {l : Nat} (hl : l < 3) (x : Int) : splice (encV v) l [vi x] = encV (upd v l x) := by
  match l, hl with
  | 0, _ => rfl
  | 1, _ => rfl
  | 2, _ => rfl

theorem encV_len (v : Vw) : (encV v).length = 3 := rfl
theorem ok1_encV (v : Vw) : ok1 (encV v) ↔ True := by simp [encV, ok1_cons, ok1_nil, Value.oneCell']

/-- The join of the first places. -/
def joinU (line : Nat → List Int) (x y : Vw) (i : Nat) : Vw := fun j => if j < i then joinV line x y j else x j

set_option maxHeartbeats 4000000 in
set_option maxRecDepth 8000 in
theorem view_join_l {line : Nat → List Int} (r : RdL M mp line) (x y : Vw) : ConQ Try.prog 83 #[pv mp 0, .agg (encV x).toArray, .agg (encV y).toArray] M (.agg (encV (joinV line x y)).toArray) := by
  refine Con.enter R_view_Machine_join_ok (args := [pv mp 0, .agg (encV x).toArray, .agg (encV y).toArray]) (by simp [R_view_Machine_join]) fun w0 => ?_
  simp only [R_view_Machine_join, argE]
  repeat' first
      | refine EV.seq ?_
      | refine EV.skip ?_
      | refine EV.block ?_
      | refine EV.inBlock ?_
      | (refine EV.reg ?_; (conv => (arg 2; whnf)); simp only [push_cast, reduceIte, Nat.reduceEqDiff, reduceCtorEq, Nat.reduceAdd, Nat.reduceSub, Nat.reduceMul, Int.reduceToNat, Nat.reduceLeDiff])
      | (refine EV.any _ (List.Sublist.refl _) ?_; (conv => (arg 2; whnf)); simp only [push_cast, reduceIte, Nat.reduceEqDiff, reduceCtorEq, Nat.reduceAdd, Nat.reduceSub, Nat.reduceMul, Int.reduceToNat, Nat.reduceLeDiff])
      | assumption
      | (refine condW.merge ?_ (fun hc K' hK => ?_) ?_; rotate_left)
      | (refine condQ.mk ?_ (fun hc => ?_) ?_; rotate_left; (try simp only [decide_eq_true_eq, decide_eq_false_iff_not, Bool.not_eq_true', Bool.not_eq_false', Bool.and_eq_true, Bool.or_eq_true, Bool.and_eq_false_iff, Bool.or_eq_false_iff] at hc))
      | (with_reducible rfl)
      | ((refine EV.cond rfl (fun h => ?_) (fun h => ?_) <;> try simp only [reduceCtorEq, reduceIte, if_true, if_false, Bool.not_eq_true', Bool.not_eq_false', decide_eq_true_eq, decide_eq_false_iff_not, Bool.and_eq_true, Bool.or_eq_true, Bool.and_eq_false_iff, Bool.or_eq_false_iff] at h) <;> try (exfalso; first | exact h True.intro | (exact h; done) | omega))
      | (refine EV.exit rfl ?_)
      | (refine EV.ret R_view_Machine_join_ok ?_; simp only [push_cast, reduceIte, Nat.reduceEqDiff, reduceCtorEq, Nat.reduceAdd, Nat.reduceSub, Nat.reduceMul, Int.reduceToNat, Nat.reduceLeDiff, R_view_Machine_join])
      | (with_reducible intro b; try simp only [push_cast, reduceIte, Nat.reduceEqDiff, reduceCtorEq, Nat.reduceAdd, Nat.reduceSub, Nat.reduceMul, Int.reduceToNat, Nat.reduceLeDiff])
      | with_reducible intro b
      | (refine And.intro (by omega) ?_)
      | (refine Exists.intro _ (And.intro (rd_M (by assumption)) ?_); try simp only [push_cast, reduceIte, Nat.reduceEqDiff, reduceCtorEq, Nat.reduceAdd, Nat.reduceSub, Nat.reduceMul, Int.reduceToNat, Nat.reduceLeDiff])
      | (refine Exists.intro _ (Exists.intro _ (Exists.intro _ (And.intro (rd_M (by assumption)) ?_))); try simp only [push_cast, reduceIte, Nat.reduceEqDiff, reduceCtorEq, Nat.reduceAdd, Nat.reduceSub, Nat.reduceMul, Int.reduceToNat, Nat.reduceLeDiff])
      | (refine Exists.intro _ (And.intro (by assumption) ?_); try simp only [push_cast, reduceIte, Nat.reduceEqDiff, reduceCtorEq, Nat.reduceAdd, Nat.reduceSub, Nat.reduceMul, Int.reduceToNat, Nat.reduceLeDiff])
      | (refine Exists.intro _ (Exists.intro _ (Exists.intro _ (And.intro (by assumption) ?_))); try simp only [push_cast, reduceIte, Nat.reduceEqDiff, reduceCtorEq, Nat.reduceAdd, Nat.reduceSub, Nat.reduceMul, Int.reduceToNat, Nat.reduceLeDiff])
      | (refine xr rfl (by simp only [List.length_cons, List.length_nil]; omega) ?_; try simp only [push_cast, reduceIte, Nat.reduceEqDiff, reduceCtorEq, Nat.reduceAdd, Nat.reduceSub, Nat.reduceMul, Int.reduceToNat, Nat.reduceLeDiff])
      | (refine xi rfl (by simp only [List.length_cons, List.length_nil]; omega) ?_; try simp only [push_cast, reduceIte, Nat.reduceEqDiff, reduceCtorEq, Nat.reduceAdd, Nat.reduceSub, Nat.reduceMul, Int.reduceToNat, Nat.reduceLeDiff])
      | (refine xs rfl (by simp only [List.length_cons, List.length_nil]; omega) ?_; try simp only [push_cast, reduceIte, Nat.reduceEqDiff, reduceCtorEq, Nat.reduceAdd, Nat.reduceSub, Nat.reduceMul, Int.reduceToNat, Nat.reduceLeDiff])
      | (refine xw ?_; simp only [push_cast, reduceIte, Nat.reduceEqDiff, reduceCtorEq, Nat.reduceAdd, Nat.reduceSub, Nat.reduceMul, Int.reduceToNat, Nat.reduceLeDiff])
      | (refine And.intro (PHeap.le_refl _) (And.intro (fun p hp => hp) ?_))
      | (refine And.intro (PHeap.le_refl _) (And.intro (fun p hp => List.mem_cons_of_mem _ hp) ?_))
      | (refine And.intro (PHeap.le_refl _) (And.intro (fun p hp => List.mem_cons_of_mem _ (List.mem_cons_of_mem _ hp)) ?_))
      | (refine And.intro (PHeap.le_refl _) (And.intro (mem_of_sub ?_) ?_); focus ((repeat' first | exact List.Sublist.refl _ | exact List.nil_sublist _ | exact List.sublist_append_left _ _ | refine List.Sublist.cons_cons _ ?_ | refine List.Sublist.append_left ?_ _ | refine List.sublist_append_of_sublist_right ?_ | refine List.Sublist.cons _ ?_); done); try simp only [push_cast, reduceIte, Nat.reduceEqDiff, reduceCtorEq, Nat.reduceAdd, Nat.reduceSub, Nat.reduceMul, Int.reduceToNat, Nat.reduceLeDiff])
      | (exfalso; simp at hc; done)
      | (exfalso; omega)
      | exact false
      | fail "stuck"
  rename_i b4 b5
  refine EV.permG ?_ (cat_pull [[_], [_], [_]] 1 (by simp))
  simp only [List.eraseIdx_cons_succ, List.eraseIdx_cons_zero, List.getElem_cons_succ, List.getElem_cons_zero, List.insertIdx_zero, List.insertIdx_succ_cons, cat_two, cat_one, cat_nil, List.nil_append, List.cons_append, List.append_assoc, List.append_nil]
  refine EV.freeze (G₁ := [_]) ?_
  generalize hN : M.add [(b5, Cl 59 (encV y))] = N
  have hMN : M.le N := hN ▸ PHeap.le_add _ _
  have hy : ∀ i, i < 3 → rd N b5 i 1 [vi (y i)] := fun i hi => hN ▸ rd_own' 0 rfl (encV_at y hi) (by simp only [encV, List.length_cons, List.length_nil]; omega)
  clear hN
  have rN := r.mono hMN
  refine EV.to (ρ' := [(0, pv mp 0), (4, pv b4 0), (5, pv b5 0), (6, pv b 0), (8, vi (0 : Nat))]) (G' := [(b, Cl 59 [vi 0, vi 0, vi 0]), (b4, Cl 59 (encV x))]) ?_ ?env0 (by (repeat' first | exact List.Sublist.refl _ | exact List.nil_sublist _ | exact List.sublist_append_left _ _ | refine List.Sublist.cons_cons _ ?_ | refine List.Sublist.append_left ?_ _ | refine List.sublist_append_of_sublist_right ?_ | refine List.Sublist.cons _ ?_))
  case env0 =>
    repeat' first
      | (refine List.forall_mem_cons.2 (And.intro ?_ ?_))
      | (intro _ hnil; cases hnil; done)
      | rfl
      | (refine env_w64 rfl (by first | rfl | (push_cast; first | rfl | omega)) (by omega) (by omega); done)
      | (simp (disch := omega) only [get_cons, get_nil, reduceIte, Nat.reduceEqDiff, Option.some.injEq, Value.int.injEq, w64, Int.natCast_add, Int.natCast_one, Int.cast_ofNat_Int, Int.natCast_zero]; done)
  refine EV.loop (fun i : Nat => ([(0, pv mp 0), (4, pv b4 0), (5, pv b5 0), (6, pv b 0), (8, vi i)], N, [(b, Cl 59 [vi 0, vi 0, vi 0]), (b4, Cl 59 (encV (joinU line x y i)))])) (fun i => i ≤ 3) (fun i => 3 - i) 0 (by simp) ?_
  intro i hi ih
  dsimp only at ih ⊢
  repeat' first
      | refine EV.seq ?_
      | refine EV.skip ?_
      | refine EV.block ?_
      | refine EV.inBlock ?_
      | (refine EV.reg ?_; (conv => (arg 2; whnf)); simp only [push_cast, reduceIte, Nat.reduceEqDiff, reduceCtorEq, Nat.reduceAdd, Nat.reduceSub, Nat.reduceMul, Int.reduceToNat, Nat.reduceLeDiff])
      | (refine EV.any _ (List.Sublist.refl _) ?_; (conv => (arg 2; whnf)); simp only [push_cast, reduceIte, Nat.reduceEqDiff, reduceCtorEq, Nat.reduceAdd, Nat.reduceSub, Nat.reduceMul, Int.reduceToNat, Nat.reduceLeDiff])
      | assumption
      | (refine condW.merge ?_ (fun hc K' hK => ?_) ?_; rotate_left)
      | (refine condQ.mk ?_ (fun hc => ?_) ?_; rotate_left; (try simp only [decide_eq_true_eq, decide_eq_false_iff_not, Bool.not_eq_true', Bool.not_eq_false', Bool.and_eq_true, Bool.or_eq_true, Bool.and_eq_false_iff, Bool.or_eq_false_iff] at hc))
      | (with_reducible rfl)
      | ((refine EV.cond rfl (fun h => ?_) (fun h => ?_) <;> try simp only [reduceCtorEq, reduceIte, if_true, if_false, Bool.not_eq_true', Bool.not_eq_false', decide_eq_true_eq, decide_eq_false_iff_not, Bool.and_eq_true, Bool.or_eq_true, Bool.and_eq_false_iff, Bool.or_eq_false_iff] at h) <;> try (exfalso; first | exact h True.intro | (exact h; done) | omega))
      | (refine EV.exit rfl ?_)
      | (with_reducible intro b; try simp only [push_cast, reduceIte, Nat.reduceEqDiff, reduceCtorEq, Nat.reduceAdd, Nat.reduceSub, Nat.reduceMul, Int.reduceToNat, Nat.reduceLeDiff])
      | with_reducible intro b
      | (refine And.intro (by omega) ?_)
      | (refine Exists.intro _ (And.intro (rd_M (by assumption)) ?_); try simp only [push_cast, reduceIte, Nat.reduceEqDiff, reduceCtorEq, Nat.reduceAdd, Nat.reduceSub, Nat.reduceMul, Int.reduceToNat, Nat.reduceLeDiff])
      | (refine Exists.intro _ (Exists.intro _ (Exists.intro _ (And.intro (rd_M (by assumption)) ?_))); try simp only [push_cast, reduceIte, Nat.reduceEqDiff, reduceCtorEq, Nat.reduceAdd, Nat.reduceSub, Nat.reduceMul, Int.reduceToNat, Nat.reduceLeDiff])
      | (refine Exists.intro _ (And.intro (by assumption) ?_); try simp only [push_cast, reduceIte, Nat.reduceEqDiff, reduceCtorEq, Nat.reduceAdd, Nat.reduceSub, Nat.reduceMul, Int.reduceToNat, Nat.reduceLeDiff])
      | (refine Exists.intro _ (Exists.intro _ (Exists.intro _ (And.intro (by assumption) ?_))); try simp only [push_cast, reduceIte, Nat.reduceEqDiff, reduceCtorEq, Nat.reduceAdd, Nat.reduceSub, Nat.reduceMul, Int.reduceToNat, Nat.reduceLeDiff])
      | (refine xr rfl (by simp only [List.length_cons, List.length_nil]; omega) ?_; try simp only [push_cast, reduceIte, Nat.reduceEqDiff, reduceCtorEq, Nat.reduceAdd, Nat.reduceSub, Nat.reduceMul, Int.reduceToNat, Nat.reduceLeDiff])
      | (refine xi rfl (by simp only [List.length_cons, List.length_nil]; omega) ?_; try simp only [push_cast, reduceIte, Nat.reduceEqDiff, reduceCtorEq, Nat.reduceAdd, Nat.reduceSub, Nat.reduceMul, Int.reduceToNat, Nat.reduceLeDiff])
      | (refine xs rfl (by simp only [List.length_cons, List.length_nil]; omega) ?_; try simp only [push_cast, reduceIte, Nat.reduceEqDiff, reduceCtorEq, Nat.reduceAdd, Nat.reduceSub, Nat.reduceMul, Int.reduceToNat, Nat.reduceLeDiff])
      | (refine xw ?_; simp only [push_cast, reduceIte, Nat.reduceEqDiff, reduceCtorEq, Nat.reduceAdd, Nat.reduceSub, Nat.reduceMul, Int.reduceToNat, Nat.reduceLeDiff])
      | (refine And.intro (PHeap.le_refl _) (And.intro (fun p hp => hp) ?_))
      | (refine And.intro (PHeap.le_refl _) (And.intro (fun p hp => List.mem_cons_of_mem _ hp) ?_))
      | (refine And.intro (PHeap.le_refl _) (And.intro (fun p hp => List.mem_cons_of_mem _ (List.mem_cons_of_mem _ hp)) ?_))
      | (refine And.intro (PHeap.le_refl _) (And.intro (mem_of_sub ?_) ?_); focus ((repeat' first | exact List.Sublist.refl _ | exact List.nil_sublist _ | exact List.sublist_append_left _ _ | refine List.Sublist.cons_cons _ ?_ | refine List.Sublist.append_left ?_ _ | refine List.sublist_append_of_sublist_right ?_ | refine List.Sublist.cons _ ?_); done); try simp only [push_cast, reduceIte, Nat.reduceEqDiff, reduceCtorEq, Nat.reduceAdd, Nat.reduceSub, Nat.reduceMul, Int.reduceToNat, Nat.reduceLeDiff])
      | (exfalso; simp at hc; done)
      | (exfalso; omega)
      | exact false
      | fail "stuck"
  · have hi' : i < 3 := by omega
    have hyi := hy i hi'
    have hxi : rd (N.add [(b, Cl 59 [vi 0, vi 0, vi 0]), (b4, Cl 59 (encV (joinU line x y i)))]) b4 i 1 [vi (joinU line x y i i)] := rd_own' 1 rfl (encV_at _ hi') (by simp only [encV, List.length_cons, List.length_nil]; omega)
    repeat' first
        | refine EV.seq ?_
        | refine EV.skip ?_
        | refine EV.block ?_
        | refine EV.inBlock ?_
        | (refine EV.reg ?_; (conv => (arg 2; whnf)); simp only [push_cast, reduceIte, Nat.reduceEqDiff, reduceCtorEq, Nat.reduceAdd, Nat.reduceSub, Nat.reduceMul, Int.reduceToNat, Nat.reduceLeDiff, encV_len, ok1_encV])
        | (refine EV.any _ (List.Sublist.refl _) ?_; (conv => (arg 2; whnf)); simp only [push_cast, reduceIte, Nat.reduceEqDiff, reduceCtorEq, Nat.reduceAdd, Nat.reduceSub, Nat.reduceMul, Int.reduceToNat, Nat.reduceLeDiff, encV_len, ok1_encV])
        | (refine ConQ.call (view_place_l (rN.mono (PHeap.le_add _ _)) hi' _) ?_; try simp only [push_cast, reduceIte, Nat.reduceEqDiff, reduceCtorEq, Nat.reduceAdd, Nat.reduceSub, Nat.reduceMul, Int.reduceToNat, Nat.reduceLeDiff, encV_len, ok1_encV])
        | (refine Exists.intro _ (And.intro (view_place_l (rN.mono (PHeap.le_add _ _)) hi' _) ?_); try simp only [push_cast, reduceIte, Nat.reduceEqDiff, reduceCtorEq, Nat.reduceAdd, Nat.reduceSub, Nat.reduceMul, Int.reduceToNat, Nat.reduceLeDiff, encV_len, ok1_encV])
        | assumption
        | (refine condW.merge ?_ (fun hc K' hK => ?_) ?_; rotate_left)
        | (refine condQ.mk ?_ (fun hc => ?_) ?_; rotate_left; (try simp only [decide_eq_true_eq, decide_eq_false_iff_not, Bool.not_eq_true', Bool.not_eq_false', Bool.and_eq_true, Bool.or_eq_true, Bool.and_eq_false_iff, Bool.or_eq_false_iff] at hc))
        | (with_reducible rfl)
        | ((refine EV.cond rfl (fun h => ?_) (fun h => ?_) <;> try simp only [reduceCtorEq, reduceIte, if_true, if_false, Bool.not_eq_true', Bool.not_eq_false', decide_eq_true_eq, decide_eq_false_iff_not, Bool.and_eq_true, Bool.or_eq_true, Bool.and_eq_false_iff, Bool.or_eq_false_iff] at h) <;> try (exfalso; first | exact h True.intro | (exact h; done) | omega))
        | (refine EV.exit rfl ?_)
        | (with_reducible intro b; try simp only [push_cast, reduceIte, Nat.reduceEqDiff, reduceCtorEq, Nat.reduceAdd, Nat.reduceSub, Nat.reduceMul, Int.reduceToNat, Nat.reduceLeDiff, encV_len, ok1_encV])
        | with_reducible intro b
        | (refine And.intro (by omega) ?_)
        | (refine Exists.intro _ (And.intro (rd_M (by assumption)) ?_); try simp only [push_cast, reduceIte, Nat.reduceEqDiff, reduceCtorEq, Nat.reduceAdd, Nat.reduceSub, Nat.reduceMul, Int.reduceToNat, Nat.reduceLeDiff, encV_len, ok1_encV])
        | (refine Exists.intro _ (Exists.intro _ (Exists.intro _ (And.intro (rd_M (by assumption)) ?_))); try simp only [push_cast, reduceIte, Nat.reduceEqDiff, reduceCtorEq, Nat.reduceAdd, Nat.reduceSub, Nat.reduceMul, Int.reduceToNat, Nat.reduceLeDiff, encV_len, ok1_encV])
        | (refine Exists.intro _ (And.intro (by assumption) ?_); try simp only [push_cast, reduceIte, Nat.reduceEqDiff, reduceCtorEq, Nat.reduceAdd, Nat.reduceSub, Nat.reduceMul, Int.reduceToNat, Nat.reduceLeDiff, encV_len, ok1_encV])
        | (refine Exists.intro _ (Exists.intro _ (Exists.intro _ (And.intro (by assumption) ?_))); try simp only [push_cast, reduceIte, Nat.reduceEqDiff, reduceCtorEq, Nat.reduceAdd, Nat.reduceSub, Nat.reduceMul, Int.reduceToNat, Nat.reduceLeDiff, encV_len, ok1_encV])
        | (refine xr rfl (by simp only [List.length_cons, List.length_nil]; omega) ?_; try simp only [push_cast, reduceIte, Nat.reduceEqDiff, reduceCtorEq, Nat.reduceAdd, Nat.reduceSub, Nat.reduceMul, Int.reduceToNat, Nat.reduceLeDiff, encV_len, ok1_encV])
        | (refine xi rfl (by simp only [List.length_cons, List.length_nil]; omega) ?_; try simp only [push_cast, reduceIte, Nat.reduceEqDiff, reduceCtorEq, Nat.reduceAdd, Nat.reduceSub, Nat.reduceMul, Int.reduceToNat, Nat.reduceLeDiff, encV_len, ok1_encV])
        | (refine xs rfl (by simp only [List.length_cons, List.length_nil]; omega) ?_; try simp only [push_cast, reduceIte, Nat.reduceEqDiff, reduceCtorEq, Nat.reduceAdd, Nat.reduceSub, Nat.reduceMul, Int.reduceToNat, Nat.reduceLeDiff, encV_len, ok1_encV])
        | (refine xw ?_; simp only [push_cast, reduceIte, Nat.reduceEqDiff, reduceCtorEq, Nat.reduceAdd, Nat.reduceSub, Nat.reduceMul, Int.reduceToNat, Nat.reduceLeDiff, encV_len, ok1_encV])
        | (refine And.intro (PHeap.le_refl _) (And.intro (fun p hp => hp) ?_))
        | (refine And.intro (PHeap.le_refl _) (And.intro (fun p hp => List.mem_cons_of_mem _ hp) ?_))
        | (refine And.intro (PHeap.le_refl _) (And.intro (fun p hp => List.mem_cons_of_mem _ (List.mem_cons_of_mem _ hp)) ?_))
        | (refine And.intro (PHeap.le_refl _) (And.intro (mem_of_sub ?_) ?_); focus ((repeat' first | exact List.Sublist.refl _ | exact List.nil_sublist _ | exact List.sublist_append_left _ _ | refine List.Sublist.cons_cons _ ?_ | refine List.Sublist.append_left ?_ _ | refine List.sublist_append_of_sublist_right ?_ | refine List.Sublist.cons _ ?_); done); try simp only [push_cast, reduceIte, Nat.reduceEqDiff, reduceCtorEq, Nat.reduceAdd, Nat.reduceSub, Nat.reduceMul, Int.reduceToNat, Nat.reduceLeDiff, encV_len, ok1_encV])
        | (exfalso; simp at hc; done)
        | (exfalso; omega)
        | exact false
        | fail "stuck"
    · have e : (encV (joinU line x y i)).take i ++ Value.int IntKind.i64 (y i) :: (encV (joinU line x y i)).drop (i + 1) = encV (joinU line x y (i + 1)) := by
        have h2 := encV_set (joinU line x y i) hi' (y i)
        simp only [splice, List.length_singleton, List.append_assoc, List.singleton_append] at h2
        rw [h2]
        congr 1
        funext j
        simp only [upd, joinU]
        by_cases hj : j = i
        · subst hj
          have hh : 0 ≤ y j ∧ (x j < 0 ∨ place line j (x j) < place line j (y j)) := by
            simp only [joinU, Nat.lt_irrefl, if_false] at h
            exact ⟨h.1, h.2.imp id (by omega)⟩
          rw [if_pos rfl, if_pos (by omega), joinV, if_pos hh]
        · have : j < i + 1 ↔ j < i := by omega
          simp only [hj, this, if_false]
      rw [e]
      refine EV.to (ih (i + 1) (by omega) (by omega)) ?_ (by (repeat' first | exact List.Sublist.refl _ | exact List.nil_sublist _ | exact List.sublist_append_left _ _ | refine List.Sublist.cons_cons _ ?_ | refine List.Sublist.append_left ?_ _ | refine List.sublist_append_of_sublist_right ?_ | refine List.Sublist.cons _ ?_))
      repeat' first
        | (refine List.forall_mem_cons.2 (And.intro ?_ ?_))
        | (intro _ hnil; cases hnil; done)
        | rfl
        | (refine env_w64 rfl (by first | rfl | (push_cast; first | rfl | omega)) (by omega) (by omega); done)
        | (simp (disch := omega) only [get_cons, get_nil, reduceIte, Nat.reduceEqDiff, Option.some.injEq, Value.int.injEq, w64, Int.natCast_add, Int.natCast_one, Int.cast_ofNat_Int, Int.natCast_zero]; done)
    · have e : joinU line x y i = joinU line x y (i + 1) := by
        funext j
        simp only [joinU]
        by_cases hj : j = i
        · subst hj
          have hh : ¬ (0 ≤ y j ∧ (x j < 0 ∨ place line j (x j) < place line j (y j))) := by
            simp only [joinU, Nat.lt_irrefl, if_false] at h
            omega
          rw [if_neg (by omega), if_pos (by omega), joinV, if_neg hh]
        · have : j < i + 1 ↔ j < i := by omega
          simp only [this]
      rw [e]
      refine EV.to (ih (i + 1) (by omega) (by omega)) ?_ (by (repeat' first | exact List.Sublist.refl _ | exact List.nil_sublist _ | exact List.sublist_append_left _ _ | refine List.Sublist.cons_cons _ ?_ | refine List.Sublist.append_left ?_ _ | refine List.sublist_append_of_sublist_right ?_ | refine List.Sublist.cons _ ?_))
      repeat' first
        | (refine List.forall_mem_cons.2 (And.intro ?_ ?_))
        | (intro _ hnil; cases hnil; done)
        | rfl
        | (refine env_w64 rfl (by first | rfl | (push_cast; first | rfl | omega)) (by omega) (by omega); done)
        | (simp (disch := omega) only [get_cons, get_nil, reduceIte, Nat.reduceEqDiff, Option.some.injEq, Value.int.injEq, w64, Int.natCast_add, Int.natCast_one, Int.cast_ofNat_Int, Int.natCast_zero]; done)
  · have hi' : i = 3 := by omega
    subst hi'
    have hx3 : rd (N.add [(b, Cl 59 [vi 0, vi 0, vi 0]), (b4, Cl 59 (encV (joinU line x y 3)))]) b4 0 3 (encV (joinU line x y 3)) := rd_own' 1 rfl rfl (by simp [encV])
    repeat' first
        | refine EV.seq ?_
        | refine EV.skip ?_
        | refine EV.block ?_
        | refine EV.inBlock ?_
        | (refine EV.reg ?_; (conv => (arg 2; whnf)); simp only [push_cast, reduceIte, Nat.reduceEqDiff, reduceCtorEq, Nat.reduceAdd, Nat.reduceSub, Nat.reduceMul, Int.reduceToNat, Nat.reduceLeDiff, encV_len, ok1_encV])
        | (refine EV.any _ (List.Sublist.refl _) ?_; (conv => (arg 2; whnf)); simp only [push_cast, reduceIte, Nat.reduceEqDiff, reduceCtorEq, Nat.reduceAdd, Nat.reduceSub, Nat.reduceMul, Int.reduceToNat, Nat.reduceLeDiff, encV_len, ok1_encV])
        | assumption
        | (refine condW.merge ?_ (fun hc K' hK => ?_) ?_; rotate_left)
        | (refine condQ.mk ?_ (fun hc => ?_) ?_; rotate_left; (try simp only [decide_eq_true_eq, decide_eq_false_iff_not, Bool.not_eq_true', Bool.not_eq_false', Bool.and_eq_true, Bool.or_eq_true, Bool.and_eq_false_iff, Bool.or_eq_false_iff] at hc))
        | (with_reducible rfl)
        | ((refine EV.cond rfl (fun h => ?_) (fun h => ?_) <;> try simp only [reduceCtorEq, reduceIte, if_true, if_false, Bool.not_eq_true', Bool.not_eq_false', decide_eq_true_eq, decide_eq_false_iff_not, Bool.and_eq_true, Bool.or_eq_true, Bool.and_eq_false_iff, Bool.or_eq_false_iff] at h) <;> try (exfalso; first | exact h True.intro | (exact h; done) | omega))
        | (refine EV.exit rfl ?_)
        | (refine EV.ret R_view_Machine_join_ok ?_; simp only [push_cast, reduceIte, Nat.reduceEqDiff, reduceCtorEq, Nat.reduceAdd, Nat.reduceSub, Nat.reduceMul, Int.reduceToNat, Nat.reduceLeDiff, encV_len, ok1_encV, R_view_Machine_join])
        | (with_reducible intro b; try simp only [push_cast, reduceIte, Nat.reduceEqDiff, reduceCtorEq, Nat.reduceAdd, Nat.reduceSub, Nat.reduceMul, Int.reduceToNat, Nat.reduceLeDiff, encV_len, ok1_encV])
        | with_reducible intro b
        | (refine And.intro (by omega) ?_)
        | (refine Exists.intro _ (And.intro (rd_M (by assumption)) ?_); try simp only [push_cast, reduceIte, Nat.reduceEqDiff, reduceCtorEq, Nat.reduceAdd, Nat.reduceSub, Nat.reduceMul, Int.reduceToNat, Nat.reduceLeDiff, encV_len, ok1_encV])
        | (refine Exists.intro _ (Exists.intro _ (Exists.intro _ (And.intro (rd_M (by assumption)) ?_))); try simp only [push_cast, reduceIte, Nat.reduceEqDiff, reduceCtorEq, Nat.reduceAdd, Nat.reduceSub, Nat.reduceMul, Int.reduceToNat, Nat.reduceLeDiff, encV_len, ok1_encV])
        | (refine Exists.intro _ (And.intro (by assumption) ?_); try simp only [push_cast, reduceIte, Nat.reduceEqDiff, reduceCtorEq, Nat.reduceAdd, Nat.reduceSub, Nat.reduceMul, Int.reduceToNat, Nat.reduceLeDiff, encV_len, ok1_encV])
        | (refine Exists.intro _ (Exists.intro _ (Exists.intro _ (And.intro (by assumption) ?_))); try simp only [push_cast, reduceIte, Nat.reduceEqDiff, reduceCtorEq, Nat.reduceAdd, Nat.reduceSub, Nat.reduceMul, Int.reduceToNat, Nat.reduceLeDiff, encV_len, ok1_encV])
        | (refine xr rfl (by simp only [List.length_cons, List.length_nil]; omega) ?_; try simp only [push_cast, reduceIte, Nat.reduceEqDiff, reduceCtorEq, Nat.reduceAdd, Nat.reduceSub, Nat.reduceMul, Int.reduceToNat, Nat.reduceLeDiff, encV_len, ok1_encV])
        | (refine xi rfl (by simp only [List.length_cons, List.length_nil]; omega) ?_; try simp only [push_cast, reduceIte, Nat.reduceEqDiff, reduceCtorEq, Nat.reduceAdd, Nat.reduceSub, Nat.reduceMul, Int.reduceToNat, Nat.reduceLeDiff, encV_len, ok1_encV])
        | (refine xs rfl (by simp only [List.length_cons, List.length_nil]; omega) ?_; try simp only [push_cast, reduceIte, Nat.reduceEqDiff, reduceCtorEq, Nat.reduceAdd, Nat.reduceSub, Nat.reduceMul, Int.reduceToNat, Nat.reduceLeDiff, encV_len, ok1_encV])
        | (refine xw ?_; simp only [push_cast, reduceIte, Nat.reduceEqDiff, reduceCtorEq, Nat.reduceAdd, Nat.reduceSub, Nat.reduceMul, Int.reduceToNat, Nat.reduceLeDiff, encV_len, ok1_encV])
        | (refine And.intro (PHeap.le_refl _) (And.intro (fun p hp => hp) ?_))
        | (refine And.intro (PHeap.le_refl _) (And.intro (fun p hp => List.mem_cons_of_mem _ hp) ?_))
        | (refine And.intro (PHeap.le_refl _) (And.intro (fun p hp => List.mem_cons_of_mem _ (List.mem_cons_of_mem _ hp)) ?_))
        | (refine And.intro (PHeap.le_refl _) (And.intro (mem_of_sub ?_) ?_); focus ((repeat' first | exact List.Sublist.refl _ | exact List.nil_sublist _ | exact List.sublist_append_left _ _ | refine List.Sublist.cons_cons _ ?_ | refine List.Sublist.append_left ?_ _ | refine List.sublist_append_of_sublist_right ?_ | refine List.Sublist.cons _ ?_); done); try simp only [push_cast, reduceIte, Nat.reduceEqDiff, reduceCtorEq, Nat.reduceAdd, Nat.reduceSub, Nat.reduceMul, Int.reduceToNat, Nat.reduceLeDiff, encV_len, ok1_encV])
        | (exfalso; simp at hc; done)
        | (exfalso; omega)
        | exact false
        | fail "stuck"
    refine ⟨_, rd_own' 0 rfl rfl (by simp [encV]), ?_⟩
    simp [encV, joinU]

end
end Go.EV

namespace Go.EV
open Go.Proofs
section
variable {M : PHeap} {mp : Nat} {ad : Ad} {m : VM} {B : Nat}

abbrev opZ : OpV := ⟨0, 0, 0, 0, 0⟩

theorem turn_bad {who : Int} (h : who < 0 ∨ (m.thr.length : Int) ≤ who) : m.turn who = (opZ, 1) := by simp only [VM.turn, if_pos h]
theorem turn_over {w : Nat} (h : w < m.thr.length) (h2 : m.thr[w]!.next = m.prog[w]!.length) : m.turn w = (opZ, 7) := by
  simp only [VM.turn]
  rw [if_neg (by omega), Int.toNat_natCast, if_pos h2]
theorem turn_ok {w : Nat} (h : w < m.thr.length) (h2 : m.thr[w]!.next ≠ m.prog[w]!.length) : m.turn w = (m.prog[w]![m.thr[w]!.next]!, 0) := by
  simp only [VM.turn]
  rw [if_neg (by omega), Int.toNat_natCast, if_neg h2]

theorem view_turn_q (r : RdM M mp ad m) (wf : m.Wf B) (who : Int) : ConQ Try.prog 29 #[pv mp 0, vi who] M (.tuple #[vop (m.turn who).1, vi (m.turn who).2]) := by
  have h0 := r.f0
  have h5 := r.f5
  refine Con.enter R_view_Machine_turn_ok (args := [pv mp 0, vi who]) (by simp [R_view_Machine_turn]) fun w0 => ?_
  simp only [R_view_Machine_turn, argE]
  by_cases hw : who < 0 ∨ (m.thr.length : Int) ≤ who
  · rw [turn_bad hw]
    repeat' first
        | refine EV.seq ?_
        | refine EV.skip ?_
        | refine EV.block ?_
        | refine EV.inBlock ?_
        | (refine EV.reg ?_; (conv => (arg 2; whnf)); simp only [push_cast, reduceIte, Nat.reduceEqDiff, reduceCtorEq, Nat.reduceAdd, Nat.reduceSub, Nat.reduceMul, Int.reduceToNat, Nat.reduceLeDiff])
        | (refine EV.any _ (List.Sublist.refl _) ?_; (conv => (arg 2; whnf)); simp only [push_cast, reduceIte, Nat.reduceEqDiff, reduceCtorEq, Nat.reduceAdd, Nat.reduceSub, Nat.reduceMul, Int.reduceToNat, Nat.reduceLeDiff])
        | (refine ConQ.call (view_there_q (r.mono (PHeap.le_add _ _)) wf) ?_; try simp only [push_cast, reduceIte, Nat.reduceEqDiff, reduceCtorEq, Nat.reduceAdd, Nat.reduceSub, Nat.reduceMul, Int.reduceToNat, Nat.reduceLeDiff])
        | (refine Exists.intro _ (And.intro (view_there_q (r.mono (PHeap.le_add _ _)) wf) ?_); try simp only [push_cast, reduceIte, Nat.reduceEqDiff, reduceCtorEq, Nat.reduceAdd, Nat.reduceSub, Nat.reduceMul, Int.reduceToNat, Nat.reduceLeDiff])
        | assumption
        | (refine condW.merge ?_ (fun hc K' hK => ?_) ?_; rotate_left)
        | (refine condQ.mk ?_ (fun hc => ?_) ?_; rotate_left; (try simp only [decide_eq_true_eq, decide_eq_false_iff_not, Bool.not_eq_true', Bool.not_eq_false', Bool.and_eq_true, Bool.or_eq_true, Bool.and_eq_false_iff, Bool.or_eq_false_iff] at hc))
        | (with_reducible rfl)
        | ((refine EV.cond rfl (fun h => ?_) (fun h => ?_) <;> try simp only [reduceCtorEq, reduceIte, if_true, if_false, Bool.not_eq_true', Bool.not_eq_false', decide_eq_true_eq, decide_eq_false_iff_not, Bool.and_eq_true, Bool.or_eq_true, Bool.and_eq_false_iff, Bool.or_eq_false_iff] at h) <;> try (exfalso; first | exact h True.intro | (exact h; done) | omega))
        | (refine EV.exit rfl ?_)
        | (refine EV.ret R_view_Machine_turn_ok ?_; simp only [push_cast, reduceIte, Nat.reduceEqDiff, reduceCtorEq, Nat.reduceAdd, Nat.reduceSub, Nat.reduceMul, Int.reduceToNat, Nat.reduceLeDiff, R_view_Machine_turn])
        | (with_reducible intro b; try simp only [push_cast, reduceIte, Nat.reduceEqDiff, reduceCtorEq, Nat.reduceAdd, Nat.reduceSub, Nat.reduceMul, Int.reduceToNat, Nat.reduceLeDiff])
        | with_reducible intro b
        | (refine And.intro (by omega) ?_)
        | (refine Exists.intro _ (And.intro (rd_M (by assumption)) ?_); try simp only [push_cast, reduceIte, Nat.reduceEqDiff, reduceCtorEq, Nat.reduceAdd, Nat.reduceSub, Nat.reduceMul, Int.reduceToNat, Nat.reduceLeDiff])
        | (refine Exists.intro _ (Exists.intro _ (Exists.intro _ (And.intro (rd_M (by assumption)) ?_))); try simp only [push_cast, reduceIte, Nat.reduceEqDiff, reduceCtorEq, Nat.reduceAdd, Nat.reduceSub, Nat.reduceMul, Int.reduceToNat, Nat.reduceLeDiff])
        | (refine Exists.intro _ (And.intro (by assumption) ?_); try simp only [push_cast, reduceIte, Nat.reduceEqDiff, reduceCtorEq, Nat.reduceAdd, Nat.reduceSub, Nat.reduceMul, Int.reduceToNat, Nat.reduceLeDiff])
        | (refine Exists.intro _ (Exists.intro _ (Exists.intro _ (And.intro (by assumption) ?_))); try simp only [push_cast, reduceIte, Nat.reduceEqDiff, reduceCtorEq, Nat.reduceAdd, Nat.reduceSub, Nat.reduceMul, Int.reduceToNat, Nat.reduceLeDiff])
        | (refine xr rfl (by simp only [List.length_cons, List.length_nil]; omega) ?_; try simp only [push_cast, reduceIte, Nat.reduceEqDiff, reduceCtorEq, Nat.reduceAdd, Nat.reduceSub, Nat.reduceMul, Int.reduceToNat, Nat.reduceLeDiff])
        | (refine xi rfl (by simp only [List.length_cons, List.length_nil]; omega) ?_; try simp only [push_cast, reduceIte, Nat.reduceEqDiff, reduceCtorEq, Nat.reduceAdd, Nat.reduceSub, Nat.reduceMul, Int.reduceToNat, Nat.reduceLeDiff])
        | (refine xs rfl (by simp only [List.length_cons, List.length_nil]; omega) ?_; try simp only [push_cast, reduceIte, Nat.reduceEqDiff, reduceCtorEq, Nat.reduceAdd, Nat.reduceSub, Nat.reduceMul, Int.reduceToNat, Nat.reduceLeDiff])
        | (refine xw ?_; simp only [push_cast, reduceIte, Nat.reduceEqDiff, reduceCtorEq, Nat.reduceAdd, Nat.reduceSub, Nat.reduceMul, Int.reduceToNat, Nat.reduceLeDiff])
        | (refine And.intro (PHeap.le_refl _) (And.intro (fun p hp => hp) ?_))
        | (refine And.intro (PHeap.le_refl _) (And.intro (fun p hp => List.mem_cons_of_mem _ hp) ?_))
        | (refine And.intro (PHeap.le_refl _) (And.intro (fun p hp => List.mem_cons_of_mem _ (List.mem_cons_of_mem _ hp)) ?_))
        | (refine And.intro (PHeap.le_refl _) (And.intro (mem_of_sub ?_) ?_); focus ((repeat' first | exact List.Sublist.refl _ | exact List.nil_sublist _ | exact List.sublist_append_left _ _ | refine List.Sublist.cons_cons _ ?_ | refine List.Sublist.append_left ?_ _ | refine List.sublist_append_of_sublist_right ?_ | refine List.Sublist.cons _ ?_); done); try simp only [push_cast, reduceIte, Nat.reduceEqDiff, reduceCtorEq, Nat.reduceAdd, Nat.reduceSub, Nat.reduceMul, Int.reduceToNat, Nat.reduceLeDiff])
        | (exfalso; simp at hc; done)
        | (exfalso; omega)
        | exact false
        | fail "stuck"
    all_goals (first | rfl | omega | (exfalso; simp only [false_or, or_false] at h; omega) | fail)
  · obtain ⟨w, rfl⟩ : ∃ w : Nat, who = w := ⟨who.toNat, by omega⟩
    have hwt : w < m.thr.length := by omega
    obtain ⟨a, c, vs, he, hl, hrd, hk⟩ := r.pg
    cases he
    obtain ⟨pb, po, epg, hat⟩ := SlSl.at hrd hl hk (by have := wf.pl; omega)
    obtain ⟨a', c', hr1, hr2⟩ := hat w (by have := wf.pl; omega)
    simp only [Nat.mul_one, ← getB (show w < m.prog.length by have := wf.pl; omega)] at hr1 hr2
    rw [epg] at h0
    have hnx := r.next hwt
    have hnl := wf.nx w hwt
    have hpl := wf.pl
    by_cases h2 : m.thr[w]!.next = m.prog[w]!.length
    · rw [turn_over hwt h2]
      repeat' first
          | refine EV.seq ?_
          | refine EV.skip ?_
          | refine EV.block ?_
          | refine EV.inBlock ?_
          | (refine EV.reg ?_; (conv => (arg 2; whnf)); simp only [push_cast, reduceIte, Nat.reduceEqDiff, reduceCtorEq, Nat.reduceAdd, Nat.reduceSub, Nat.reduceMul, Int.reduceToNat, Nat.reduceLeDiff])
          | (refine EV.any _ (List.Sublist.refl _) ?_; (conv => (arg 2; whnf)); simp only [push_cast, reduceIte, Nat.reduceEqDiff, reduceCtorEq, Nat.reduceAdd, Nat.reduceSub, Nat.reduceMul, Int.reduceToNat, Nat.reduceLeDiff])
          | (refine ConQ.call (view_there_q (r.mono (PHeap.le_add _ _)) wf) ?_; try simp only [push_cast, reduceIte, Nat.reduceEqDiff, reduceCtorEq, Nat.reduceAdd, Nat.reduceSub, Nat.reduceMul, Int.reduceToNat, Nat.reduceLeDiff])
          | (refine Exists.intro _ (And.intro (view_there_q (r.mono (PHeap.le_add _ _)) wf) ?_); try simp only [push_cast, reduceIte, Nat.reduceEqDiff, reduceCtorEq, Nat.reduceAdd, Nat.reduceSub, Nat.reduceMul, Int.reduceToNat, Nat.reduceLeDiff])
          | assumption
          | (refine condW.merge ?_ (fun hc K' hK => ?_) ?_; rotate_left)
          | (refine condQ.mk ?_ (fun hc => ?_) ?_; rotate_left; (try simp only [decide_eq_true_eq, decide_eq_false_iff_not, Bool.not_eq_true', Bool.not_eq_false', Bool.and_eq_true, Bool.or_eq_true, Bool.and_eq_false_iff, Bool.or_eq_false_iff] at hc))
          | (with_reducible rfl)
          | ((refine EV.cond rfl (fun h => ?_) (fun h => ?_) <;> try simp only [reduceCtorEq, reduceIte, if_true, if_false, Bool.not_eq_true', Bool.not_eq_false', decide_eq_true_eq, decide_eq_false_iff_not, Bool.and_eq_true, Bool.or_eq_true, Bool.and_eq_false_iff, Bool.or_eq_false_iff] at h) <;> try (exfalso; first | exact h True.intro | (exact h; done) | omega))
          | (refine EV.exit rfl ?_)
          | (refine EV.ret R_view_Machine_turn_ok ?_; simp only [push_cast, reduceIte, Nat.reduceEqDiff, reduceCtorEq, Nat.reduceAdd, Nat.reduceSub, Nat.reduceMul, Int.reduceToNat, Nat.reduceLeDiff, R_view_Machine_turn])
          | (with_reducible intro b; try simp only [push_cast, reduceIte, Nat.reduceEqDiff, reduceCtorEq, Nat.reduceAdd, Nat.reduceSub, Nat.reduceMul, Int.reduceToNat, Nat.reduceLeDiff])
          | with_reducible intro b
          | (refine And.intro (by omega) ?_)
          | (refine Exists.intro _ (And.intro (rd_M (by assumption)) ?_); try simp only [push_cast, reduceIte, Nat.reduceEqDiff, reduceCtorEq, Nat.reduceAdd, Nat.reduceSub, Nat.reduceMul, Int.reduceToNat, Nat.reduceLeDiff])
          | (refine Exists.intro _ (Exists.intro _ (Exists.intro _ (And.intro (rd_M (by assumption)) ?_))); try simp only [push_cast, reduceIte, Nat.reduceEqDiff, reduceCtorEq, Nat.reduceAdd, Nat.reduceSub, Nat.reduceMul, Int.reduceToNat, Nat.reduceLeDiff])
          | (refine Exists.intro _ (And.intro (by assumption) ?_); try simp only [push_cast, reduceIte, Nat.reduceEqDiff, reduceCtorEq, Nat.reduceAdd, Nat.reduceSub, Nat.reduceMul, Int.reduceToNat, Nat.reduceLeDiff])
          | (refine Exists.intro _ (Exists.intro _ (Exists.intro _ (And.intro (by assumption) ?_))); try simp only [push_cast, reduceIte, Nat.reduceEqDiff, reduceCtorEq, Nat.reduceAdd, Nat.reduceSub, Nat.reduceMul, Int.reduceToNat, Nat.reduceLeDiff])
          | (refine xr rfl (by simp only [List.length_cons, List.length_nil]; omega) ?_; try simp only [push_cast, reduceIte, Nat.reduceEqDiff, reduceCtorEq, Nat.reduceAdd, Nat.reduceSub, Nat.reduceMul, Int.reduceToNat, Nat.reduceLeDiff])
          | (refine xi rfl (by simp only [List.length_cons, List.length_nil]; omega) ?_; try simp only [push_cast, reduceIte, Nat.reduceEqDiff, reduceCtorEq, Nat.reduceAdd, Nat.reduceSub, Nat.reduceMul, Int.reduceToNat, Nat.reduceLeDiff])
          | (refine xs rfl (by simp only [List.length_cons, List.length_nil]; omega) ?_; try simp only [push_cast, reduceIte, Nat.reduceEqDiff, reduceCtorEq, Nat.reduceAdd, Nat.reduceSub, Nat.reduceMul, Int.reduceToNat, Nat.reduceLeDiff])
          | (refine xw ?_; simp only [push_cast, reduceIte, Nat.reduceEqDiff, reduceCtorEq, Nat.reduceAdd, Nat.reduceSub, Nat.reduceMul, Int.reduceToNat, Nat.reduceLeDiff])
          | (refine And.intro (PHeap.le_refl _) (And.intro (fun p hp => hp) ?_))
          | (refine And.intro (PHeap.le_refl _) (And.intro (fun p hp => List.mem_cons_of_mem _ hp) ?_))
          | (refine And.intro (PHeap.le_refl _) (And.intro (fun p hp => List.mem_cons_of_mem _ (List.mem_cons_of_mem _ hp)) ?_))
          | (refine And.intro (PHeap.le_refl _) (And.intro (mem_of_sub ?_) ?_); focus ((repeat' first | exact List.Sublist.refl _ | exact List.nil_sublist _ | exact List.sublist_append_left _ _ | refine List.Sublist.cons_cons _ ?_ | refine List.Sublist.append_left ?_ _ | refine List.sublist_append_of_sublist_right ?_ | refine List.Sublist.cons _ ?_); done); try simp only [push_cast, reduceIte, Nat.reduceEqDiff, reduceCtorEq, Nat.reduceAdd, Nat.reduceSub, Nat.reduceMul, Int.reduceToNat, Nat.reduceLeDiff])
          | (exfalso; simp at hc; done)
          | (exfalso; omega)
          | exact false
          | fail "stuck"
      all_goals (first | rfl | omega | (exfalso; simp only [false_or, or_false] at h; omega) | fail)
    · have hlt : m.thr[w]!.next < m.prog[w]!.length := by omega
      obtain ⟨qb, qo, rfl, hat2⟩ := Sl.at (enc := encOp) (fun _ => rfl) (by omega) hr2 (by omega)
      have hr3 := hat2 _ hlt
      rw [← getB hlt] at hr3
      rw [turn_ok hwt h2]
      repeat' first
          | refine EV.seq ?_
          | refine EV.skip ?_
          | refine EV.block ?_
          | refine EV.inBlock ?_
          | (refine EV.reg ?_; (conv => (arg 2; whnf)); simp only [push_cast, reduceIte, Nat.reduceEqDiff, reduceCtorEq, Nat.reduceAdd, Nat.reduceSub, Nat.reduceMul, Int.reduceToNat, Nat.reduceLeDiff])
          | (refine EV.any _ (List.Sublist.refl _) ?_; (conv => (arg 2; whnf)); simp only [push_cast, reduceIte, Nat.reduceEqDiff, reduceCtorEq, Nat.reduceAdd, Nat.reduceSub, Nat.reduceMul, Int.reduceToNat, Nat.reduceLeDiff])
          | (refine ConQ.call (view_there_q (r.mono (PHeap.le_add _ _)) wf) ?_; try simp only [push_cast, reduceIte, Nat.reduceEqDiff, reduceCtorEq, Nat.reduceAdd, Nat.reduceSub, Nat.reduceMul, Int.reduceToNat, Nat.reduceLeDiff])
          | (refine Exists.intro _ (And.intro (view_there_q (r.mono (PHeap.le_add _ _)) wf) ?_); try simp only [push_cast, reduceIte, Nat.reduceEqDiff, reduceCtorEq, Nat.reduceAdd, Nat.reduceSub, Nat.reduceMul, Int.reduceToNat, Nat.reduceLeDiff])
          | assumption
          | (refine condW.merge ?_ (fun hc K' hK => ?_) ?_; rotate_left)
          | (refine condQ.mk ?_ (fun hc => ?_) ?_; rotate_left; (try simp only [decide_eq_true_eq, decide_eq_false_iff_not, Bool.not_eq_true', Bool.not_eq_false', Bool.and_eq_true, Bool.or_eq_true, Bool.and_eq_false_iff, Bool.or_eq_false_iff] at hc))
          | (with_reducible rfl)
          | ((refine EV.cond rfl (fun h => ?_) (fun h => ?_) <;> try simp only [reduceCtorEq, reduceIte, if_true, if_false, Bool.not_eq_true', Bool.not_eq_false', decide_eq_true_eq, decide_eq_false_iff_not, Bool.and_eq_true, Bool.or_eq_true, Bool.and_eq_false_iff, Bool.or_eq_false_iff] at h) <;> try (exfalso; first | exact h True.intro | (exact h; done) | omega))
          | (refine EV.exit rfl ?_)
          | (refine EV.ret R_view_Machine_turn_ok ?_; simp only [push_cast, reduceIte, Nat.reduceEqDiff, reduceCtorEq, Nat.reduceAdd, Nat.reduceSub, Nat.reduceMul, Int.reduceToNat, Nat.reduceLeDiff, R_view_Machine_turn])
          | (with_reducible intro b; try simp only [push_cast, reduceIte, Nat.reduceEqDiff, reduceCtorEq, Nat.reduceAdd, Nat.reduceSub, Nat.reduceMul, Int.reduceToNat, Nat.reduceLeDiff])
          | with_reducible intro b
          | (refine And.intro (by omega) ?_)
          | (refine Exists.intro _ (And.intro (rd_M (by assumption)) ?_); try simp only [push_cast, reduceIte, Nat.reduceEqDiff, reduceCtorEq, Nat.reduceAdd, Nat.reduceSub, Nat.reduceMul, Int.reduceToNat, Nat.reduceLeDiff])
          | (refine Exists.intro _ (Exists.intro _ (Exists.intro _ (And.intro (rd_M (by assumption)) ?_))); try simp only [push_cast, reduceIte, Nat.reduceEqDiff, reduceCtorEq, Nat.reduceAdd, Nat.reduceSub, Nat.reduceMul, Int.reduceToNat, Nat.reduceLeDiff])
          | (refine Exists.intro _ (And.intro (by assumption) ?_); try simp only [push_cast, reduceIte, Nat.reduceEqDiff, reduceCtorEq, Nat.reduceAdd, Nat.reduceSub, Nat.reduceMul, Int.reduceToNat, Nat.reduceLeDiff])
          | (refine Exists.intro _ (Exists.intro _ (Exists.intro _ (And.intro (by assumption) ?_))); try simp only [push_cast, reduceIte, Nat.reduceEqDiff, reduceCtorEq, Nat.reduceAdd, Nat.reduceSub, Nat.reduceMul, Int.reduceToNat, Nat.reduceLeDiff])
          | (refine xr rfl (by simp only [List.length_cons, List.length_nil]; omega) ?_; try simp only [push_cast, reduceIte, Nat.reduceEqDiff, reduceCtorEq, Nat.reduceAdd, Nat.reduceSub, Nat.reduceMul, Int.reduceToNat, Nat.reduceLeDiff])
          | (refine xi rfl (by simp only [List.length_cons, List.length_nil]; omega) ?_; try simp only [push_cast, reduceIte, Nat.reduceEqDiff, reduceCtorEq, Nat.reduceAdd, Nat.reduceSub, Nat.reduceMul, Int.reduceToNat, Nat.reduceLeDiff])
          | (refine xs rfl (by simp only [List.length_cons, List.length_nil]; omega) ?_; try simp only [push_cast, reduceIte, Nat.reduceEqDiff, reduceCtorEq, Nat.reduceAdd, Nat.reduceSub, Nat.reduceMul, Int.reduceToNat, Nat.reduceLeDiff])
          | (refine xw ?_; simp only [push_cast, reduceIte, Nat.reduceEqDiff, reduceCtorEq, Nat.reduceAdd, Nat.reduceSub, Nat.reduceMul, Int.reduceToNat, Nat.reduceLeDiff])
          | (refine And.intro (PHeap.le_refl _) (And.intro (fun p hp => hp) ?_))
          | (refine And.intro (PHeap.le_refl _) (And.intro (fun p hp => List.mem_cons_of_mem _ hp) ?_))
          | (refine And.intro (PHeap.le_refl _) (And.intro (fun p hp => List.mem_cons_of_mem _ (List.mem_cons_of_mem _ hp)) ?_))
          | (refine And.intro (PHeap.le_refl _) (And.intro (mem_of_sub ?_) ?_); focus ((repeat' first | exact List.Sublist.refl _ | exact List.nil_sublist _ | exact List.sublist_append_left _ _ | refine List.Sublist.cons_cons _ ?_ | refine List.Sublist.append_left ?_ _ | refine List.sublist_append_of_sublist_right ?_ | refine List.Sublist.cons _ ?_); done); try simp only [push_cast, reduceIte, Nat.reduceEqDiff, reduceCtorEq, Nat.reduceAdd, Nat.reduceSub, Nat.reduceMul, Int.reduceToNat, Nat.reduceLeDiff])
          | (exfalso; simp at hc; done)
          | (exfalso; omega)
          | exact false
          | fail "stuck"
      all_goals (first | rfl | omega | (exfalso; simp only [false_or, or_false] at h; omega) | fail)

def encCh (c : Nat × Bool) : List Value := [vi c.1, vb c.2]

theorem place_lt (line : Nat → List Int) (l : Nat) (n : Int) (h : 0 < (line l).length) : place line l n < (line l).length := by
  unfold place
  split
  · exact List.idxOf_lt_length_iff.2 (by assumption)
  · exact h

theorem choicesAt_len (o : OpV) (i : Nat) : (m.choicesAt o i).length ≤ 2 := by
  unfold VM.choicesAt; split <;> split <;> simp

theorem choicesFrom_succ (o : OpV) (lo k : Nat) : m.choicesFrom o lo (k + 1) = m.choicesFrom o lo k ++ m.choicesAt o (lo + k) := by
  simp [VM.choicesFrom, List.range_succ]

theorem choicesFrom_len (o : OpV) (lo : Nat) : ∀ k, (m.choicesFrom o lo k).length ≤ 2 * k
  | 0 => by simp [VM.choicesFrom]
  | k + 1 => by
    have := choicesFrom_len o lo k
    have h2 := choicesAt_len (m := m) o (lo + k)
    rw [choicesFrom_succ, List.length_append]; omega

set_option maxRecDepth 8000 in
set_option maxHeartbeats 4000000 in
theorem view_choices_c (r : RdM M mp ad m) (wf : m.Wf B) {w : Nat} (hw : w < m.thr.length) (o : OpV) (ho : okOpE o) : Con Try.prog 30 #[pv mp 0, vi w, vop o] M [] fun v _ G' =>
    ∃ ov, v = osv ov (m.choices w o).length ∧ osok 2 ov (m.choices w o).length ((m.choices w o).flatMap encCh) ∧ G' = osg 76 ov ((m.choices w o).flatMap encCh) := by
  obtain ⟨kd, lo, v, w', od⟩ := o
  obtain ⟨o1, o2, o3, o4, o5⟩ := ho
  dsimp only at o1 o2 o3 o4 o5
  obtain ⟨l, rfl⟩ : ∃ l : Nat, lo = l := ⟨lo.toNat, by omega⟩
  have hl : l < 3 := by omega
  have h1 := r.f1
  have h5 := r.f5
  have h2 := r.fl hl
  have hnow := r.nowAt hw hl
  have hlb := wf.ll l hl
  have hlp := wf.lp l hl
  have hb0 := wf.b0
  refine Con.enter R_view_Machine_choices_ok (args := [pv mp 0, vi w, vop ⟨kd, l, v, w', od⟩]) (by simp [R_view_Machine_choices]) fun w0 => ?_
  simp only [R_view_Machine_choices, argE]
  repeat' first
      | refine EV.seq ?_
      | refine EV.skip ?_
      | refine EV.block ?_
      | refine EV.inBlock ?_
      | (refine EV.reg ?_; (conv => (arg 2; whnf)); simp only [push_cast, reduceIte, Nat.reduceEqDiff, reduceCtorEq, Nat.reduceAdd, Nat.reduceSub, Nat.reduceMul, Int.reduceToNat, Nat.reduceLeDiff])
      | (refine EV.any _ (List.Sublist.refl _) ?_; (conv => (arg 2; whnf)); simp only [push_cast, reduceIte, Nat.reduceEqDiff, reduceCtorEq, Nat.reduceAdd, Nat.reduceSub, Nat.reduceMul, Int.reduceToNat, Nat.reduceLeDiff])
      | assumption
      | (refine condW.merge ?_ (fun hc K' hK => ?_) ?_; rotate_left)
      | (refine condQ.mk ?_ (fun hc => ?_) ?_; rotate_left; (try simp only [decide_eq_true_eq, decide_eq_false_iff_not, Bool.not_eq_true', Bool.not_eq_false', Bool.and_eq_true, Bool.or_eq_true, Bool.and_eq_false_iff, Bool.or_eq_false_iff] at hc))
      | (with_reducible rfl)
      | ((refine EV.cond rfl (fun h => ?_) (fun h => ?_) <;> try simp only [reduceCtorEq, reduceIte, if_true, if_false, Bool.not_eq_true', Bool.not_eq_false', decide_eq_true_eq, decide_eq_false_iff_not, Bool.and_eq_true, Bool.or_eq_true, Bool.and_eq_false_iff, Bool.or_eq_false_iff] at h) <;> try (exfalso; first | exact h True.intro | (exact h; done) | omega))
      | (refine EV.exit rfl ?_)
      | (with_reducible intro b; try simp only [push_cast, reduceIte, Nat.reduceEqDiff, reduceCtorEq, Nat.reduceAdd, Nat.reduceSub, Nat.reduceMul, Int.reduceToNat, Nat.reduceLeDiff])
      | with_reducible intro b
      | (refine And.intro (by omega) ?_)
      | (refine Exists.intro _ (And.intro (rd_M (by assumption)) ?_); try simp only [push_cast, reduceIte, Nat.reduceEqDiff, reduceCtorEq, Nat.reduceAdd, Nat.reduceSub, Nat.reduceMul, Int.reduceToNat, Nat.reduceLeDiff])
      | (refine Exists.intro _ (Exists.intro _ (Exists.intro _ (And.intro (rd_M (by assumption)) ?_))); try simp only [push_cast, reduceIte, Nat.reduceEqDiff, reduceCtorEq, Nat.reduceAdd, Nat.reduceSub, Nat.reduceMul, Int.reduceToNat, Nat.reduceLeDiff])
      | (refine Exists.intro _ (And.intro (by assumption) ?_); try simp only [push_cast, reduceIte, Nat.reduceEqDiff, reduceCtorEq, Nat.reduceAdd, Nat.reduceSub, Nat.reduceMul, Int.reduceToNat, Nat.reduceLeDiff])
      | (refine Exists.intro _ (Exists.intro _ (Exists.intro _ (And.intro (by assumption) ?_))); try simp only [push_cast, reduceIte, Nat.reduceEqDiff, reduceCtorEq, Nat.reduceAdd, Nat.reduceSub, Nat.reduceMul, Int.reduceToNat, Nat.reduceLeDiff])
      | (refine xr rfl (by simp only [List.length_cons, List.length_nil]; omega) ?_; try simp only [push_cast, reduceIte, Nat.reduceEqDiff, reduceCtorEq, Nat.reduceAdd, Nat.reduceSub, Nat.reduceMul, Int.reduceToNat, Nat.reduceLeDiff])
      | (refine xi rfl (by simp only [List.length_cons, List.length_nil]; omega) ?_; try simp only [push_cast, reduceIte, Nat.reduceEqDiff, reduceCtorEq, Nat.reduceAdd, Nat.reduceSub, Nat.reduceMul, Int.reduceToNat, Nat.reduceLeDiff])
      | (refine xs rfl (by simp only [List.length_cons, List.length_nil]; omega) ?_; try simp only [push_cast, reduceIte, Nat.reduceEqDiff, reduceCtorEq, Nat.reduceAdd, Nat.reduceSub, Nat.reduceMul, Int.reduceToNat, Nat.reduceLeDiff])
      | (refine xw ?_; simp only [push_cast, reduceIte, Nat.reduceEqDiff, reduceCtorEq, Nat.reduceAdd, Nat.reduceSub, Nat.reduceMul, Int.reduceToNat, Nat.reduceLeDiff])
      | (refine And.intro (PHeap.le_refl _) (And.intro (fun p hp => hp) ?_))
      | (refine And.intro (PHeap.le_refl _) (And.intro (fun p hp => List.mem_cons_of_mem _ hp) ?_))
      | (refine And.intro (PHeap.le_refl _) (And.intro (fun p hp => List.mem_cons_of_mem _ (List.mem_cons_of_mem _ hp)) ?_))
      | (refine And.intro (PHeap.le_refl _) (And.intro (mem_of_sub ?_) ?_); focus ((repeat' first | exact List.Sublist.refl _ | exact List.nil_sublist _ | exact List.sublist_append_left _ _ | refine List.Sublist.cons_cons _ ?_ | refine List.Sublist.append_left ?_ _ | refine List.sublist_append_of_sublist_right ?_ | refine List.Sublist.cons _ ?_); done); try simp only [push_cast, reduceIte, Nat.reduceEqDiff, reduceCtorEq, Nat.reduceAdd, Nat.reduceSub, Nat.reduceMul, Int.reduceToNat, Nat.reduceLeDiff])
      | (exfalso; simp at hc; done)
      | (exfalso; omega)
      | exact false
      | fail "stuck"
  · refine EV.to (ρ' := [(6, rowV b 1 1)]) (G' := [(b, Cl 76 [vi 0, vb false])]) ?_ ?env0 (by (repeat' first | exact List.Sublist.refl _ | exact List.nil_sublist _ | exact List.sublist_append_left _ _ | refine List.Sublist.cons_cons _ ?_ | refine List.Sublist.append_left ?_ _ | refine List.sublist_append_of_sublist_right ?_ | refine List.Sublist.cons _ ?_))
    case env0 =>
      repeat' first
        | (refine List.forall_mem_cons.2 (And.intro ?_ ?_))
        | (intro _ hnil; cases hnil; done)
        | rfl
        | (refine env_w64 rfl (by first | rfl | (push_cast; first | rfl | omega)) (by omega) (by omega); done)
        | (simp (disch := omega) only [get_cons, get_nil, reduceIte, Nat.reduceEqDiff, Option.some.injEq, Value.int.injEq, w64, Int.natCast_add, Int.natCast_one, Int.cast_ofNat_Int, Int.natCast_zero]; done)
    refine EV.ret R_view_Machine_choices_ok ?_
    simp only [push_cast, reduceIte, Nat.reduceEqDiff, reduceCtorEq, Nat.reduceAdd, Nat.reduceSub, Nat.reduceMul, Int.reduceToNat, Nat.reduceLeDiff, R_view_Machine_choices]
    have e : m.choices w ⟨kd, l, v, w', od⟩ = [(0, false)] := by simp only [VM.choices, if_pos h]
    rw [e]
    exact ⟨some (b, 1, []), rfl, ⟨rfl, rfl, Nat.le_refl _, by simp [maxLen]⟩, rfl⟩
  · have _ := h
    repeat' first
        | refine EV.seq ?_
        | refine EV.skip ?_
        | refine EV.block ?_
        | refine EV.inBlock ?_
        | (refine EV.reg ?_; (conv => (arg 2; whnf)); simp only [push_cast, reduceIte, Nat.reduceEqDiff, reduceCtorEq, Nat.reduceAdd, Nat.reduceSub, Nat.reduceMul, Int.reduceToNat, Nat.reduceLeDiff])
        | (refine EV.any _ (List.Sublist.refl _) ?_; (conv => (arg 2; whnf)); simp only [push_cast, reduceIte, Nat.reduceEqDiff, reduceCtorEq, Nat.reduceAdd, Nat.reduceSub, Nat.reduceMul, Int.reduceToNat, Nat.reduceLeDiff])
        | (refine ConQ.call (view_place_q (r.mono (PHeap.le_add _ _)) wf hl _) ?_; try simp only [push_cast, reduceIte, Nat.reduceEqDiff, reduceCtorEq, Nat.reduceAdd, Nat.reduceSub, Nat.reduceMul, Int.reduceToNat, Nat.reduceLeDiff])
        | (refine Exists.intro _ (And.intro (view_place_q (r.mono (PHeap.le_add _ _)) wf hl _) ?_); try simp only [push_cast, reduceIte, Nat.reduceEqDiff, reduceCtorEq, Nat.reduceAdd, Nat.reduceSub, Nat.reduceMul, Int.reduceToNat, Nat.reduceLeDiff])
        | assumption
        | (refine condW.merge ?_ (fun hc K' hK => ?_) ?_; rotate_left)
        | (refine condQ.mk ?_ (fun hc => ?_) ?_; rotate_left; (try simp only [decide_eq_true_eq, decide_eq_false_iff_not, Bool.not_eq_true', Bool.not_eq_false', Bool.and_eq_true, Bool.or_eq_true, Bool.and_eq_false_iff, Bool.or_eq_false_iff] at hc))
        | (with_reducible rfl)
        | ((refine EV.cond rfl (fun h => ?_) (fun h => ?_) <;> try simp only [reduceCtorEq, reduceIte, if_true, if_false, Bool.not_eq_true', Bool.not_eq_false', decide_eq_true_eq, decide_eq_false_iff_not, Bool.and_eq_true, Bool.or_eq_true, Bool.and_eq_false_iff, Bool.or_eq_false_iff] at h) <;> try (exfalso; first | exact h True.intro | (exact h; done) | omega))
        | (refine EV.exit rfl ?_)
        | (with_reducible intro b; try simp only [push_cast, reduceIte, Nat.reduceEqDiff, reduceCtorEq, Nat.reduceAdd, Nat.reduceSub, Nat.reduceMul, Int.reduceToNat, Nat.reduceLeDiff])
        | with_reducible intro b
        | (refine And.intro (by omega) ?_)
        | (refine Exists.intro _ (And.intro (rd_M (by assumption)) ?_); try simp only [push_cast, reduceIte, Nat.reduceEqDiff, reduceCtorEq, Nat.reduceAdd, Nat.reduceSub, Nat.reduceMul, Int.reduceToNat, Nat.reduceLeDiff])
        | (refine Exists.intro _ (Exists.intro _ (Exists.intro _ (And.intro (rd_M (by assumption)) ?_))); try simp only [push_cast, reduceIte, Nat.reduceEqDiff, reduceCtorEq, Nat.reduceAdd, Nat.reduceSub, Nat.reduceMul, Int.reduceToNat, Nat.reduceLeDiff])
        | (refine Exists.intro _ (And.intro (by assumption) ?_); try simp only [push_cast, reduceIte, Nat.reduceEqDiff, reduceCtorEq, Nat.reduceAdd, Nat.reduceSub, Nat.reduceMul, Int.reduceToNat, Nat.reduceLeDiff])
        | (refine Exists.intro _ (Exists.intro _ (Exists.intro _ (And.intro (by assumption) ?_))); try simp only [push_cast, reduceIte, Nat.reduceEqDiff, reduceCtorEq, Nat.reduceAdd, Nat.reduceSub, Nat.reduceMul, Int.reduceToNat, Nat.reduceLeDiff])
        | (refine xr rfl (by simp only [List.length_cons, List.length_nil]; omega) ?_; try simp only [push_cast, reduceIte, Nat.reduceEqDiff, reduceCtorEq, Nat.reduceAdd, Nat.reduceSub, Nat.reduceMul, Int.reduceToNat, Nat.reduceLeDiff])
        | (refine xi rfl (by simp only [List.length_cons, List.length_nil]; omega) ?_; try simp only [push_cast, reduceIte, Nat.reduceEqDiff, reduceCtorEq, Nat.reduceAdd, Nat.reduceSub, Nat.reduceMul, Int.reduceToNat, Nat.reduceLeDiff])
        | (refine xs rfl (by simp only [List.length_cons, List.length_nil]; omega) ?_; try simp only [push_cast, reduceIte, Nat.reduceEqDiff, reduceCtorEq, Nat.reduceAdd, Nat.reduceSub, Nat.reduceMul, Int.reduceToNat, Nat.reduceLeDiff])
        | (refine xw ?_; simp only [push_cast, reduceIte, Nat.reduceEqDiff, reduceCtorEq, Nat.reduceAdd, Nat.reduceSub, Nat.reduceMul, Int.reduceToNat, Nat.reduceLeDiff])
        | (refine And.intro (PHeap.le_refl _) (And.intro (fun p hp => hp) ?_))
        | (refine And.intro (PHeap.le_refl _) (And.intro (fun p hp => List.mem_cons_of_mem _ hp) ?_))
        | (refine And.intro (PHeap.le_refl _) (And.intro (fun p hp => List.mem_cons_of_mem _ (List.mem_cons_of_mem _ hp)) ?_))
        | (refine And.intro (PHeap.le_refl _) (And.intro (mem_of_sub ?_) ?_); focus ((repeat' first | exact List.Sublist.refl _ | exact List.nil_sublist _ | exact List.sublist_append_left _ _ | refine List.Sublist.cons_cons _ ?_ | refine List.Sublist.append_left ?_ _ | refine List.sublist_append_of_sublist_right ?_ | refine List.Sublist.cons _ ?_); done); try simp only [push_cast, reduceIte, Nat.reduceEqDiff, reduceCtorEq, Nat.reduceAdd, Nat.reduceSub, Nat.reduceMul, Int.reduceToNat, Nat.reduceLeDiff])
        | (exfalso; simp at hc; done)
        | (exfalso; omega)
        | exact false
        | fail "stuck"
    have hch : m.choices w ⟨kd, l, v, w', od⟩ = m.choicesFrom ⟨kd, l, v, w', od⟩ (place m.line l (m.thr[w]!.now l)) ((m.line l).length - place m.line l (m.thr[w]!.now l)) := by
      simp only [VM.choices, if_neg h, VM.low, Int.toNat_natCast]
    have hplt := place_lt m.line l (m.thr[w]!.now l) hlp
    rw [hch]
    generalize place m.line l (m.thr[w]!.now l) = lo at hplt ⊢
    have hsn := fun k => choicesFrom_succ (m := m) ⟨kd, l, v, w', od⟩ lo k
    have hln := fun k => choicesFrom_len (m := m) ⟨kd, l, v, w', od⟩ lo k
    refine EV.freeze (G₁ := [_]) (G₂ := []) ?_
    generalize hN : M.add [(b, Cl 55 [vi kd, vi l, vi v, vi w', vi od])] = N
    have hMN : M.le N := hN ▸ PHeap.le_add _ _
    have hk0 : rd N b 0 1 [vi kd] := hN ▸ rd_own' 0 rfl rfl (by simp)
    have hk1 : rd N b 1 1 [vi l] := hN ▸ rd_own' 0 rfl rfl (by simp)
    have hk2 : rd N b 2 1 [vi v] := hN ▸ rd_own' 0 rfl rfl (by simp)
    clear hN
    have rN := r.mono hMN
    replace h1 := rN.f1
    replace h2 := rN.fl hl
    have hbd := wf.le l hl
    have hb5 := wf.ml
    obtain ⟨CF, hCF⟩ : ∃ CF : Nat → List (Nat × Bool), CF = fun i => m.choicesFrom ⟨kd, l, v, w', od⟩ lo (i - lo) := ⟨_, rfl⟩
    have hCe : m.choicesFrom ⟨kd, l, v, w', od⟩ lo ((m.line l).length - lo) = CF (m.line l).length := by rw [hCF]
    have hC0 : CF lo = [] := by rw [hCF]; simp [VM.choicesFrom]
    have hCs : ∀ i, lo ≤ i → CF (i + 1) = CF i ++ m.choicesAt ⟨kd, l, v, w', od⟩ i := fun i hi => by
      rw [hCF]; dsimp only
      have e1 : i + 1 - lo = (i - lo) + 1 := by omega
      have e2 : lo + (i - lo) = i := by omega
      rw [e1, hsn, e2]
    have hCl : ∀ i, (CF i).length ≤ 2 * i := fun i => by rw [hCF]; have := hln (i - lo); dsimp only; omega
    rw [hCe]
    clear hCF hCe hsn hln hch
    refine EV.to (ρ' := [(0, pv mp 0), (5, pv b 0), (7, osv none (CF lo).length), (8, vi lo)]) (G' := osg 76 none ((CF lo).flatMap encCh)) ?_ ?env1 (by (repeat' first | exact List.Sublist.refl _ | exact List.nil_sublist _ | exact List.sublist_append_left _ _ | refine List.Sublist.cons_cons _ ?_ | refine List.Sublist.append_left ?_ _ | refine List.sublist_append_of_sublist_right ?_ | refine List.Sublist.cons _ ?_))
    case env1 =>
      rw [hC0]
      repeat' first
        | (refine List.forall_mem_cons.2 (And.intro ?_ ?_))
        | (intro _ hnil; cases hnil; done)
        | rfl
        | (refine env_w64 rfl (by first | rfl | (push_cast; first | rfl | omega)) (by omega) (by omega); done)
        | (simp (disch := omega) only [get_cons, get_nil, reduceIte, Nat.reduceEqDiff, Option.some.injEq, Value.int.injEq, w64, Int.natCast_add, Int.natCast_one, Int.cast_ofNat_Int, Int.natCast_zero]; done)
    refine EV.loop (fun x : Nat × Vec => ([(0, pv mp 0), (5, pv b 0), (7, osv x.2 (CF x.1).length), (8, vi x.1)], N, osg 76 x.2 ((CF x.1).flatMap encCh)))
      (fun x => lo ≤ x.1 ∧ x.1 ≤ (m.line l).length ∧ osok 2 x.2 (CF x.1).length ((CF x.1).flatMap encCh))
      (fun x => (m.line l).length - x.1) (lo, none) ⟨Nat.le_refl _, by dsimp only; omega, by rw [hC0]; exact ⟨rfl, rfl⟩⟩ ?_
    rintro ⟨i, ov⟩ ⟨hlo, hk, hov⟩ ih
    dsimp only at hlo hk hov ih ⊢
    have hC1 := hCs i hlo
    have hC2 := hCl i
    have hAt : m.choicesAt ⟨kd, l, v, w', od⟩ i = (if (decide (kd = 1) || decide (kd = 2) || (!decide (kd = 0) && decide (m.msgs[(m.line l)[i]!.toNat]!.word = v))) && !m.bound l i then [(i, true)] else []) ++ (if !(decide (kd = 1) || decide (kd = 2) || (!decide (kd = 0) && decide (m.msgs[(m.line l)[i]!.toNat]!.word = v))) || decide (kd = 4) then [(i, false)] else []) := by
      simp [VM.choicesAt, OpV.writes, VM.msgAt]
    repeat' first
        | refine EV.seq ?_
        | refine EV.skip ?_
        | refine EV.block ?_
        | refine EV.inBlock ?_
        | (refine EV.reg ?_; (conv => (arg 2; whnf)); simp only [push_cast, reduceIte, Nat.reduceEqDiff, reduceCtorEq, Nat.reduceAdd, Nat.reduceSub, Nat.reduceMul, Int.reduceToNat, Nat.reduceLeDiff])
        | (refine EV.any _ (List.Sublist.refl _) ?_; (conv => (arg 2; whnf)); simp only [push_cast, reduceIte, Nat.reduceEqDiff, reduceCtorEq, Nat.reduceAdd, Nat.reduceSub, Nat.reduceMul, Int.reduceToNat, Nat.reduceLeDiff])
        | assumption
        | (refine condW.merge ?_ (fun hc K' hK => ?_) ?_; rotate_left)
        | (refine condQ.mk ?_ (fun hc => ?_) ?_; rotate_left; (try simp only [decide_eq_true_eq, decide_eq_false_iff_not, Bool.not_eq_true', Bool.not_eq_false', Bool.and_eq_true, Bool.or_eq_true, Bool.and_eq_false_iff, Bool.or_eq_false_iff] at hc))
        | (with_reducible rfl)
        | ((refine EV.cond rfl (fun h => ?_) (fun h => ?_) <;> try simp only [reduceCtorEq, reduceIte, if_true, if_false, Bool.not_eq_true', Bool.not_eq_false', decide_eq_true_eq, decide_eq_false_iff_not, Bool.and_eq_true, Bool.or_eq_true, Bool.and_eq_false_iff, Bool.or_eq_false_iff] at h) <;> try (exfalso; first | exact h True.intro | (exact h; done) | omega))
        | (refine EV.exit rfl ?_)
        | (with_reducible intro b; try simp only [push_cast, reduceIte, Nat.reduceEqDiff, reduceCtorEq, Nat.reduceAdd, Nat.reduceSub, Nat.reduceMul, Int.reduceToNat, Nat.reduceLeDiff])
        | with_reducible intro b
        | (refine And.intro (by omega) ?_)
        | (refine Exists.intro _ (And.intro (rd_M (by assumption)) ?_); try simp only [push_cast, reduceIte, Nat.reduceEqDiff, reduceCtorEq, Nat.reduceAdd, Nat.reduceSub, Nat.reduceMul, Int.reduceToNat, Nat.reduceLeDiff])
        | (refine Exists.intro _ (Exists.intro _ (Exists.intro _ (And.intro (rd_M (by assumption)) ?_))); try simp only [push_cast, reduceIte, Nat.reduceEqDiff, reduceCtorEq, Nat.reduceAdd, Nat.reduceSub, Nat.reduceMul, Int.reduceToNat, Nat.reduceLeDiff])
        | (refine Exists.intro _ (And.intro (by assumption) ?_); try simp only [push_cast, reduceIte, Nat.reduceEqDiff, reduceCtorEq, Nat.reduceAdd, Nat.reduceSub, Nat.reduceMul, Int.reduceToNat, Nat.reduceLeDiff])
        | (refine Exists.intro _ (Exists.intro _ (Exists.intro _ (And.intro (by assumption) ?_))); try simp only [push_cast, reduceIte, Nat.reduceEqDiff, reduceCtorEq, Nat.reduceAdd, Nat.reduceSub, Nat.reduceMul, Int.reduceToNat, Nat.reduceLeDiff])
        | (refine xr rfl (by simp only [List.length_cons, List.length_nil]; omega) ?_; try simp only [push_cast, reduceIte, Nat.reduceEqDiff, reduceCtorEq, Nat.reduceAdd, Nat.reduceSub, Nat.reduceMul, Int.reduceToNat, Nat.reduceLeDiff])
        | (refine xi rfl (by simp only [List.length_cons, List.length_nil]; omega) ?_; try simp only [push_cast, reduceIte, Nat.reduceEqDiff, reduceCtorEq, Nat.reduceAdd, Nat.reduceSub, Nat.reduceMul, Int.reduceToNat, Nat.reduceLeDiff])
        | (refine xs rfl (by simp only [List.length_cons, List.length_nil]; omega) ?_; try simp only [push_cast, reduceIte, Nat.reduceEqDiff, reduceCtorEq, Nat.reduceAdd, Nat.reduceSub, Nat.reduceMul, Int.reduceToNat, Nat.reduceLeDiff])
        | (refine xw ?_; simp only [push_cast, reduceIte, Nat.reduceEqDiff, reduceCtorEq, Nat.reduceAdd, Nat.reduceSub, Nat.reduceMul, Int.reduceToNat, Nat.reduceLeDiff])
        | (refine And.intro (PHeap.le_refl _) (And.intro (fun p hp => hp) ?_))
        | (refine And.intro (PHeap.le_refl _) (And.intro (fun p hp => List.mem_cons_of_mem _ hp) ?_))
        | (refine And.intro (PHeap.le_refl _) (And.intro (fun p hp => List.mem_cons_of_mem _ (List.mem_cons_of_mem _ hp)) ?_))
        | (refine And.intro (PHeap.le_refl _) (And.intro (mem_of_sub ?_) ?_); focus ((repeat' first | exact List.Sublist.refl _ | exact List.nil_sublist _ | exact List.sublist_append_left _ _ | refine List.Sublist.cons_cons _ ?_ | refine List.Sublist.append_left ?_ _ | refine List.sublist_append_of_sublist_right ?_ | refine List.Sublist.cons _ ?_); done); try simp only [push_cast, reduceIte, Nat.reduceEqDiff, reduceCtorEq, Nat.reduceAdd, Nat.reduceSub, Nat.reduceMul, Int.reduceToNat, Nat.reduceLeDiff])
        | (exfalso; simp at hc; done)
        | (exfalso; omega)
        | exact false
        | fail "stuck"
    · have hi : i < (m.line l).length := by omega
      have hli := rN.line hl hi
      obtain ⟨hn1, hn2⟩ := hbd ((m.line l)[i]!) (by rw [getB hi]; exact List.getElem_mem hi)
      have hwd := rN.word (n := (m.line l)[i]!.toNat) (by omega)
      repeat' first
          | refine EV.seq ?_
          | refine EV.skip ?_
          | refine EV.block ?_
          | refine EV.inBlock ?_
          | (refine EV.reg ?_; (conv => (arg 2; whnf)); simp only [push_cast, reduceIte, Nat.reduceEqDiff, reduceCtorEq, Nat.reduceAdd, Nat.reduceSub, Nat.reduceMul, Int.reduceToNat, Nat.reduceLeDiff])
          | (refine EV.any _ (List.Sublist.refl _) ?_; (conv => (arg 2; whnf)); simp only [push_cast, reduceIte, Nat.reduceEqDiff, reduceCtorEq, Nat.reduceAdd, Nat.reduceSub, Nat.reduceMul, Int.reduceToNat, Nat.reduceLeDiff])
          | (refine ConQ.call (view_bound_q (rN.mono (PHeap.le_add _ _)) wf hl hi) ?_; try simp only [push_cast, reduceIte, Nat.reduceEqDiff, reduceCtorEq, Nat.reduceAdd, Nat.reduceSub, Nat.reduceMul, Int.reduceToNat, Nat.reduceLeDiff])
          | (refine Exists.intro _ (And.intro (view_bound_q (rN.mono (PHeap.le_add _ _)) wf hl hi) ?_); try simp only [push_cast, reduceIte, Nat.reduceEqDiff, reduceCtorEq, Nat.reduceAdd, Nat.reduceSub, Nat.reduceMul, Int.reduceToNat, Nat.reduceLeDiff])
          | assumption
          | (refine condW.merge ?_ (fun hc K' hK => ?_) ?_; rotate_left)
          | (refine condQ.mk ?_ (fun hc => ?_) ?_; rotate_left; (try simp only [decide_eq_true_eq, decide_eq_false_iff_not, Bool.not_eq_true', Bool.not_eq_false', Bool.and_eq_true, Bool.or_eq_true, Bool.and_eq_false_iff, Bool.or_eq_false_iff] at hc))
          | (with_reducible rfl)
          | ((refine EV.cond rfl (fun h => ?_) (fun h => ?_) <;> try simp only [reduceCtorEq, reduceIte, if_true, if_false, Bool.not_eq_true', Bool.not_eq_false', decide_eq_true_eq, decide_eq_false_iff_not, Bool.and_eq_true, Bool.or_eq_true, Bool.and_eq_false_iff, Bool.or_eq_false_iff] at h) <;> try (exfalso; first | exact h True.intro | (exact h; done) | omega))
          | (refine EV.exit rfl ?_)
          | (with_reducible intro b; try simp only [push_cast, reduceIte, Nat.reduceEqDiff, reduceCtorEq, Nat.reduceAdd, Nat.reduceSub, Nat.reduceMul, Int.reduceToNat, Nat.reduceLeDiff])
          | with_reducible intro b
          | (refine And.intro (by omega) ?_)
          | (refine Exists.intro _ (And.intro (rd_M (by assumption)) ?_); try simp only [push_cast, reduceIte, Nat.reduceEqDiff, reduceCtorEq, Nat.reduceAdd, Nat.reduceSub, Nat.reduceMul, Int.reduceToNat, Nat.reduceLeDiff])
          | (refine Exists.intro _ (Exists.intro _ (Exists.intro _ (And.intro (rd_M (by assumption)) ?_))); try simp only [push_cast, reduceIte, Nat.reduceEqDiff, reduceCtorEq, Nat.reduceAdd, Nat.reduceSub, Nat.reduceMul, Int.reduceToNat, Nat.reduceLeDiff])
          | (refine Exists.intro _ (And.intro (by assumption) ?_); try simp only [push_cast, reduceIte, Nat.reduceEqDiff, reduceCtorEq, Nat.reduceAdd, Nat.reduceSub, Nat.reduceMul, Int.reduceToNat, Nat.reduceLeDiff])
          | (refine Exists.intro _ (Exists.intro _ (Exists.intro _ (And.intro (by assumption) ?_))); try simp only [push_cast, reduceIte, Nat.reduceEqDiff, reduceCtorEq, Nat.reduceAdd, Nat.reduceSub, Nat.reduceMul, Int.reduceToNat, Nat.reduceLeDiff])
          | (refine xr rfl (by simp only [List.length_cons, List.length_nil]; omega) ?_; try simp only [push_cast, reduceIte, Nat.reduceEqDiff, reduceCtorEq, Nat.reduceAdd, Nat.reduceSub, Nat.reduceMul, Int.reduceToNat, Nat.reduceLeDiff])
          | (refine xi rfl (by simp only [List.length_cons, List.length_nil]; omega) ?_; try simp only [push_cast, reduceIte, Nat.reduceEqDiff, reduceCtorEq, Nat.reduceAdd, Nat.reduceSub, Nat.reduceMul, Int.reduceToNat, Nat.reduceLeDiff])
          | (refine xs rfl (by simp only [List.length_cons, List.length_nil]; omega) ?_; try simp only [push_cast, reduceIte, Nat.reduceEqDiff, reduceCtorEq, Nat.reduceAdd, Nat.reduceSub, Nat.reduceMul, Int.reduceToNat, Nat.reduceLeDiff])
          | (refine xw ?_; simp only [push_cast, reduceIte, Nat.reduceEqDiff, reduceCtorEq, Nat.reduceAdd, Nat.reduceSub, Nat.reduceMul, Int.reduceToNat, Nat.reduceLeDiff])
          | (refine And.intro (PHeap.le_refl _) (And.intro (fun p hp => hp) ?_))
          | (refine And.intro (PHeap.le_refl _) (And.intro (fun p hp => List.mem_cons_of_mem _ hp) ?_))
          | (refine And.intro (PHeap.le_refl _) (And.intro (fun p hp => List.mem_cons_of_mem _ (List.mem_cons_of_mem _ hp)) ?_))
          | (refine And.intro (PHeap.le_refl _) (And.intro (mem_of_sub ?_) ?_); focus ((repeat' first | exact List.Sublist.refl _ | exact List.nil_sublist _ | exact List.sublist_append_left _ _ | refine List.Sublist.cons_cons _ ?_ | refine List.Sublist.append_left ?_ _ | refine List.sublist_append_of_sublist_right ?_ | refine List.Sublist.cons _ ?_); done); try simp only [push_cast, reduceIte, Nat.reduceEqDiff, reduceCtorEq, Nat.reduceAdd, Nat.reduceSub, Nat.reduceMul, Int.reduceToNat, Nat.reduceLeDiff])
          | (exfalso; simp at hc; done)
          | (exfalso; omega)
          | exact false
          | fail "stuck"
      · refine ⟨_, Or.inr ⟨_, 0, rfl, rd_own' 0 rfl rfl (by simp)⟩, by simp [ok1_cons, ok1_nil, Value.oneCell'], Or.inl ⟨_, _, rfl, _, hov, _, cat_pull [[_], osg 76 ov _] 1 (by simp), ?_, ?_, ?_⟩⟩
        · simp only [maxLen]; omega
        · omega
        intro o1 ho1 _
        simp only [List.eraseIdx_cons_succ, List.eraseIdx_cons_zero, List.getElem_cons_succ, List.getElem_cons_zero, cat_two, cat_one, cat_nil, List.nil_append, List.cons_append, List.append_assoc, List.append_nil]
        repeat' first
            | refine EV.seq ?_
            | refine EV.skip ?_
            | refine EV.block ?_
            | refine EV.inBlock ?_
            | (refine EV.reg ?_; (conv => (arg 2; whnf)); simp only [push_cast, reduceIte, Nat.reduceEqDiff, reduceCtorEq, Nat.reduceAdd, Nat.reduceSub, Nat.reduceMul, Int.reduceToNat, Nat.reduceLeDiff])
            | (refine EV.any _ (List.Sublist.refl _) ?_; (conv => (arg 2; whnf)); simp only [push_cast, reduceIte, Nat.reduceEqDiff, reduceCtorEq, Nat.reduceAdd, Nat.reduceSub, Nat.reduceMul, Int.reduceToNat, Nat.reduceLeDiff])
            | assumption
            | (refine condW.merge ?_ (fun hc K' hK => ?_) ?_; rotate_left)
            | (refine condQ.mk ?_ (fun hc => ?_) ?_; rotate_left; (try simp only [decide_eq_true_eq, decide_eq_false_iff_not, Bool.not_eq_true', Bool.not_eq_false', Bool.and_eq_true, Bool.or_eq_true, Bool.and_eq_false_iff, Bool.or_eq_false_iff] at hc))
            | (with_reducible rfl)
            | ((refine EV.cond rfl (fun h => ?_) (fun h => ?_) <;> try simp only [reduceCtorEq, reduceIte, if_true, if_false, Bool.not_eq_true', Bool.not_eq_false', decide_eq_true_eq, decide_eq_false_iff_not, Bool.and_eq_true, Bool.or_eq_true, Bool.and_eq_false_iff, Bool.or_eq_false_iff] at h) <;> try (exfalso; first | exact h True.intro | (exact h; done) | omega))
            | (refine EV.exit rfl ?_)
            | (with_reducible intro b; try simp only [push_cast, reduceIte, Nat.reduceEqDiff, reduceCtorEq, Nat.reduceAdd, Nat.reduceSub, Nat.reduceMul, Int.reduceToNat, Nat.reduceLeDiff])
            | with_reducible intro b
            | (refine And.intro (by omega) ?_)
            | (refine Exists.intro _ (And.intro (rd_M (by assumption)) ?_); try simp only [push_cast, reduceIte, Nat.reduceEqDiff, reduceCtorEq, Nat.reduceAdd, Nat.reduceSub, Nat.reduceMul, Int.reduceToNat, Nat.reduceLeDiff])
            | (refine Exists.intro _ (Exists.intro _ (Exists.intro _ (And.intro (rd_M (by assumption)) ?_))); try simp only [push_cast, reduceIte, Nat.reduceEqDiff, reduceCtorEq, Nat.reduceAdd, Nat.reduceSub, Nat.reduceMul, Int.reduceToNat, Nat.reduceLeDiff])
            | (refine Exists.intro _ (And.intro (by assumption) ?_); try simp only [push_cast, reduceIte, Nat.reduceEqDiff, reduceCtorEq, Nat.reduceAdd, Nat.reduceSub, Nat.reduceMul, Int.reduceToNat, Nat.reduceLeDiff])
            | (refine Exists.intro _ (Exists.intro _ (Exists.intro _ (And.intro (by assumption) ?_))); try simp only [push_cast, reduceIte, Nat.reduceEqDiff, reduceCtorEq, Nat.reduceAdd, Nat.reduceSub, Nat.reduceMul, Int.reduceToNat, Nat.reduceLeDiff])
            | (refine xr rfl (by simp only [List.length_cons, List.length_nil]; omega) ?_; try simp only [push_cast, reduceIte, Nat.reduceEqDiff, reduceCtorEq, Nat.reduceAdd, Nat.reduceSub, Nat.reduceMul, Int.reduceToNat, Nat.reduceLeDiff])
            | (refine xi rfl (by simp only [List.length_cons, List.length_nil]; omega) ?_; try simp only [push_cast, reduceIte, Nat.reduceEqDiff, reduceCtorEq, Nat.reduceAdd, Nat.reduceSub, Nat.reduceMul, Int.reduceToNat, Nat.reduceLeDiff])
            | (refine xs rfl (by simp only [List.length_cons, List.length_nil]; omega) ?_; try simp only [push_cast, reduceIte, Nat.reduceEqDiff, reduceCtorEq, Nat.reduceAdd, Nat.reduceSub, Nat.reduceMul, Int.reduceToNat, Nat.reduceLeDiff])
            | (refine xw ?_; simp only [push_cast, reduceIte, Nat.reduceEqDiff, reduceCtorEq, Nat.reduceAdd, Nat.reduceSub, Nat.reduceMul, Int.reduceToNat, Nat.reduceLeDiff])
            | (refine And.intro (PHeap.le_refl _) (And.intro (fun p hp => hp) ?_))
            | (refine And.intro (PHeap.le_refl _) (And.intro (fun p hp => List.mem_cons_of_mem _ hp) ?_))
            | (refine And.intro (PHeap.le_refl _) (And.intro (fun p hp => List.mem_cons_of_mem _ (List.mem_cons_of_mem _ hp)) ?_))
            | (refine And.intro (PHeap.le_refl _) (And.intro (mem_of_sub ?_) ?_); focus ((repeat' first | exact List.Sublist.refl _ | exact List.nil_sublist _ | exact List.sublist_append_left _ _ | refine List.Sublist.cons_cons _ ?_ | refine List.Sublist.append_left ?_ _ | refine List.sublist_append_of_sublist_right ?_ | refine List.Sublist.cons _ ?_); done); try simp only [push_cast, reduceIte, Nat.reduceEqDiff, reduceCtorEq, Nat.reduceAdd, Nat.reduceSub, Nat.reduceMul, Int.reduceToNat, Nat.reduceLeDiff])
            | (exfalso; simp at hc; done)
            | (exfalso; omega)
            | exact false
            | fail "stuck"
        · rename_i hA _ hB
          refine ⟨_, Or.inr ⟨_, 0, rfl, rd_own' 0 rfl rfl (by simp)⟩, by simp [ok1_cons, ok1_nil, Value.oneCell'], Or.inl ⟨_, _, rfl, _, ho1, _, cat_pull [[_, _], osg 76 o1 _] 1 (by simp), ?_, ?_, ?_⟩⟩
          · simp only [maxLen]; omega
          · omega
          intro o2 ho2 _
          simp only [List.eraseIdx_cons_succ, List.eraseIdx_cons_zero, List.getElem_cons_succ, List.getElem_cons_zero, cat_two, cat_one, cat_nil, List.nil_append, List.cons_append, List.append_assoc, List.append_nil]
          repeat' first
              | refine EV.seq ?_
              | refine EV.skip ?_
              | refine EV.block ?_
              | refine EV.inBlock ?_
              | (refine EV.reg ?_; (conv => (arg 2; whnf)); simp only [push_cast, reduceIte, Nat.reduceEqDiff, reduceCtorEq, Nat.reduceAdd, Nat.reduceSub, Nat.reduceMul, Int.reduceToNat, Nat.reduceLeDiff])
              | (refine EV.any _ (List.Sublist.refl _) ?_; (conv => (arg 2; whnf)); simp only [push_cast, reduceIte, Nat.reduceEqDiff, reduceCtorEq, Nat.reduceAdd, Nat.reduceSub, Nat.reduceMul, Int.reduceToNat, Nat.reduceLeDiff])
              | assumption
              | (refine condW.merge ?_ (fun hc K' hK => ?_) ?_; rotate_left)
              | (refine condQ.mk ?_ (fun hc => ?_) ?_; rotate_left; (try simp only [decide_eq_true_eq, decide_eq_false_iff_not, Bool.not_eq_true', Bool.not_eq_false', Bool.and_eq_true, Bool.or_eq_true, Bool.and_eq_false_iff, Bool.or_eq_false_iff] at hc))
              | (with_reducible rfl)
              | ((refine EV.cond rfl (fun h => ?_) (fun h => ?_) <;> try simp only [reduceCtorEq, reduceIte, if_true, if_false, Bool.not_eq_true', Bool.not_eq_false', decide_eq_true_eq, decide_eq_false_iff_not, Bool.and_eq_true, Bool.or_eq_true, Bool.and_eq_false_iff, Bool.or_eq_false_iff] at h) <;> try (exfalso; first | exact h True.intro | (exact h; done) | omega))
              | (refine EV.exit rfl ?_)
              | (with_reducible intro b; try simp only [push_cast, reduceIte, Nat.reduceEqDiff, reduceCtorEq, Nat.reduceAdd, Nat.reduceSub, Nat.reduceMul, Int.reduceToNat, Nat.reduceLeDiff])
              | with_reducible intro b
              | (refine And.intro (by omega) ?_)
              | (refine Exists.intro _ (And.intro (rd_M (by assumption)) ?_); try simp only [push_cast, reduceIte, Nat.reduceEqDiff, reduceCtorEq, Nat.reduceAdd, Nat.reduceSub, Nat.reduceMul, Int.reduceToNat, Nat.reduceLeDiff])
              | (refine Exists.intro _ (Exists.intro _ (Exists.intro _ (And.intro (rd_M (by assumption)) ?_))); try simp only [push_cast, reduceIte, Nat.reduceEqDiff, reduceCtorEq, Nat.reduceAdd, Nat.reduceSub, Nat.reduceMul, Int.reduceToNat, Nat.reduceLeDiff])
              | (refine Exists.intro _ (And.intro (by assumption) ?_); try simp only [push_cast, reduceIte, Nat.reduceEqDiff, reduceCtorEq, Nat.reduceAdd, Nat.reduceSub, Nat.reduceMul, Int.reduceToNat, Nat.reduceLeDiff])
              | (refine Exists.intro _ (Exists.intro _ (Exists.intro _ (And.intro (by assumption) ?_))); try simp only [push_cast, reduceIte, Nat.reduceEqDiff, reduceCtorEq, Nat.reduceAdd, Nat.reduceSub, Nat.reduceMul, Int.reduceToNat, Nat.reduceLeDiff])
              | (refine xr rfl (by simp only [List.length_cons, List.length_nil]; omega) ?_; try simp only [push_cast, reduceIte, Nat.reduceEqDiff, reduceCtorEq, Nat.reduceAdd, Nat.reduceSub, Nat.reduceMul, Int.reduceToNat, Nat.reduceLeDiff])
              | (refine xi rfl (by simp only [List.length_cons, List.length_nil]; omega) ?_; try simp only [push_cast, reduceIte, Nat.reduceEqDiff, reduceCtorEq, Nat.reduceAdd, Nat.reduceSub, Nat.reduceMul, Int.reduceToNat, Nat.reduceLeDiff])
              | (refine xs rfl (by simp only [List.length_cons, List.length_nil]; omega) ?_; try simp only [push_cast, reduceIte, Nat.reduceEqDiff, reduceCtorEq, Nat.reduceAdd, Nat.reduceSub, Nat.reduceMul, Int.reduceToNat, Nat.reduceLeDiff])
              | (refine xw ?_; simp only [push_cast, reduceIte, Nat.reduceEqDiff, reduceCtorEq, Nat.reduceAdd, Nat.reduceSub, Nat.reduceMul, Int.reduceToNat, Nat.reduceLeDiff])
              | (refine And.intro (PHeap.le_refl _) (And.intro (fun p hp => hp) ?_))
              | (refine And.intro (PHeap.le_refl _) (And.intro (fun p hp => List.mem_cons_of_mem _ hp) ?_))
              | (refine And.intro (PHeap.le_refl _) (And.intro (fun p hp => List.mem_cons_of_mem _ (List.mem_cons_of_mem _ hp)) ?_))
              | (refine And.intro (PHeap.le_refl _) (And.intro (mem_of_sub ?_) ?_); focus ((repeat' first | exact List.Sublist.refl _ | exact List.nil_sublist _ | exact List.sublist_append_left _ _ | refine List.Sublist.cons_cons _ ?_ | refine List.Sublist.append_left ?_ _ | refine List.sublist_append_of_sublist_right ?_ | refine List.Sublist.cons _ ?_); done); try simp only [push_cast, reduceIte, Nat.reduceEqDiff, reduceCtorEq, Nat.reduceAdd, Nat.reduceSub, Nat.reduceMul, Int.reduceToNat, Nat.reduceLeDiff])
              | (exfalso; simp at hc; done)
              | (exfalso; omega)
              | exact false
              | fail "stuck"
          have e : CF (i + 1) = CF i ++ [(i, true), (i, false)] := by
            rw [hC1, hAt]; congr 1; clear ih hov ho1 ho2; grind
          have ih3 := ih (i + 1, o2) ⟨by dsimp only; omega, by dsimp only; omega, by rw [e]; simpa [encCh] using ho2⟩ (by dsimp only; omega)
          simp only [e, List.length_append, List.flatMap_append] at ih3
          refine EV.to ih3 ?_ (by (repeat' first | exact List.Sublist.refl _ | exact List.nil_sublist _ | exact List.sublist_append_left _ _ | refine List.Sublist.cons_cons _ ?_ | refine List.Sublist.append_left ?_ _ | refine List.sublist_append_of_sublist_right ?_ | refine List.Sublist.cons _ ?_))
          repeat' first
            | (refine List.forall_mem_cons.2 (And.intro ?_ ?_))
            | (intro _ hnil; cases hnil; done)
            | rfl
            | (refine env_w64 rfl (by first | rfl | (push_cast; first | rfl | omega)) (by omega) (by omega); done)
            | (simp (disch := omega) only [get_cons, get_nil, reduceIte, Nat.reduceEqDiff, Option.some.injEq, Value.int.injEq, w64, Int.natCast_add, Int.natCast_one, Int.cast_ofNat_Int, Int.natCast_zero]; done)
        · have e : CF (i + 1) = CF i ++ [(i, true)] := by
            rw [hC1, hAt]; congr 1; clear ih hov ho1; grind
          have ih3 := ih (i + 1, o1) ⟨by dsimp only; omega, by dsimp only; omega, by rw [e]; simpa [encCh] using ho1⟩ (by dsimp only; omega)
          simp only [e, List.length_append, List.flatMap_append] at ih3
          refine EV.to ih3 ?_ (by (repeat' first | exact List.Sublist.refl _ | exact List.nil_sublist _ | exact List.sublist_append_left _ _ | refine List.Sublist.cons_cons _ ?_ | refine List.Sublist.append_left ?_ _ | refine List.sublist_append_of_sublist_right ?_ | refine List.Sublist.cons _ ?_))
          repeat' first
            | (refine List.forall_mem_cons.2 (And.intro ?_ ?_))
            | (intro _ hnil; cases hnil; done)
            | rfl
            | (refine env_w64 rfl (by first | rfl | (push_cast; first | rfl | omega)) (by omega) (by omega); done)
            | (simp (disch := omega) only [get_cons, get_nil, reduceIte, Nat.reduceEqDiff, Option.some.injEq, Value.int.injEq, w64, Int.natCast_add, Int.natCast_one, Int.cast_ofNat_Int, Int.natCast_zero]; done)
      · refine ⟨_, Or.inr ⟨_, 0, rfl, rd_own' 0 rfl rfl (by simp)⟩, by simp [ok1_cons, ok1_nil, Value.oneCell'], Or.inl ⟨_, _, rfl, _, hov, _, cat_pull [[_], osg 76 ov _] 1 (by simp), ?_, ?_, ?_⟩⟩
        · simp only [maxLen]; omega
        · omega
        intro o1 ho1 _
        simp only [List.eraseIdx_cons_succ, List.eraseIdx_cons_zero, List.getElem_cons_succ, List.getElem_cons_zero, cat_two, cat_one, cat_nil, List.nil_append, List.cons_append, List.append_assoc, List.append_nil]
        repeat' first
            | refine EV.seq ?_
            | refine EV.skip ?_
            | refine EV.block ?_
            | refine EV.inBlock ?_
            | (refine EV.reg ?_; (conv => (arg 2; whnf)); simp only [push_cast, reduceIte, Nat.reduceEqDiff, reduceCtorEq, Nat.reduceAdd, Nat.reduceSub, Nat.reduceMul, Int.reduceToNat, Nat.reduceLeDiff])
            | (refine EV.any _ (List.Sublist.refl _) ?_; (conv => (arg 2; whnf)); simp only [push_cast, reduceIte, Nat.reduceEqDiff, reduceCtorEq, Nat.reduceAdd, Nat.reduceSub, Nat.reduceMul, Int.reduceToNat, Nat.reduceLeDiff])
            | assumption
            | (refine condW.merge ?_ (fun hc K' hK => ?_) ?_; rotate_left)
            | (refine condQ.mk ?_ (fun hc => ?_) ?_; rotate_left; (try simp only [decide_eq_true_eq, decide_eq_false_iff_not, Bool.not_eq_true', Bool.not_eq_false', Bool.and_eq_true, Bool.or_eq_true, Bool.and_eq_false_iff, Bool.or_eq_false_iff] at hc))
            | (with_reducible rfl)
            | ((refine EV.cond rfl (fun h => ?_) (fun h => ?_) <;> try simp only [reduceCtorEq, reduceIte, if_true, if_false, Bool.not_eq_true', Bool.not_eq_false', decide_eq_true_eq, decide_eq_false_iff_not, Bool.and_eq_true, Bool.or_eq_true, Bool.and_eq_false_iff, Bool.or_eq_false_iff] at h) <;> try (exfalso; first | exact h True.intro | (exact h; done) | omega))
            | (refine EV.exit rfl ?_)
            | (with_reducible intro b; try simp only [push_cast, reduceIte, Nat.reduceEqDiff, reduceCtorEq, Nat.reduceAdd, Nat.reduceSub, Nat.reduceMul, Int.reduceToNat, Nat.reduceLeDiff])
            | with_reducible intro b
            | (refine And.intro (by omega) ?_)
            | (refine Exists.intro _ (And.intro (rd_M (by assumption)) ?_); try simp only [push_cast, reduceIte, Nat.reduceEqDiff, reduceCtorEq, Nat.reduceAdd, Nat.reduceSub, Nat.reduceMul, Int.reduceToNat, Nat.reduceLeDiff])
            | (refine Exists.intro _ (Exists.intro _ (Exists.intro _ (And.intro (rd_M (by assumption)) ?_))); try simp only [push_cast, reduceIte, Nat.reduceEqDiff, reduceCtorEq, Nat.reduceAdd, Nat.reduceSub, Nat.reduceMul, Int.reduceToNat, Nat.reduceLeDiff])
            | (refine Exists.intro _ (And.intro (by assumption) ?_); try simp only [push_cast, reduceIte, Nat.reduceEqDiff, reduceCtorEq, Nat.reduceAdd, Nat.reduceSub, Nat.reduceMul, Int.reduceToNat, Nat.reduceLeDiff])
            | (refine Exists.intro _ (Exists.intro _ (Exists.intro _ (And.intro (by assumption) ?_))); try simp only [push_cast, reduceIte, Nat.reduceEqDiff, reduceCtorEq, Nat.reduceAdd, Nat.reduceSub, Nat.reduceMul, Int.reduceToNat, Nat.reduceLeDiff])
            | (refine xr rfl (by simp only [List.length_cons, List.length_nil]; omega) ?_; try simp only [push_cast, reduceIte, Nat.reduceEqDiff, reduceCtorEq, Nat.reduceAdd, Nat.reduceSub, Nat.reduceMul, Int.reduceToNat, Nat.reduceLeDiff])
            | (refine xi rfl (by simp only [List.length_cons, List.length_nil]; omega) ?_; try simp only [push_cast, reduceIte, Nat.reduceEqDiff, reduceCtorEq, Nat.reduceAdd, Nat.reduceSub, Nat.reduceMul, Int.reduceToNat, Nat.reduceLeDiff])
            | (refine xs rfl (by simp only [List.length_cons, List.length_nil]; omega) ?_; try simp only [push_cast, reduceIte, Nat.reduceEqDiff, reduceCtorEq, Nat.reduceAdd, Nat.reduceSub, Nat.reduceMul, Int.reduceToNat, Nat.reduceLeDiff])
            | (refine xw ?_; simp only [push_cast, reduceIte, Nat.reduceEqDiff, reduceCtorEq, Nat.reduceAdd, Nat.reduceSub, Nat.reduceMul, Int.reduceToNat, Nat.reduceLeDiff])
            | (refine And.intro (PHeap.le_refl _) (And.intro (fun p hp => hp) ?_))
            | (refine And.intro (PHeap.le_refl _) (And.intro (fun p hp => List.mem_cons_of_mem _ hp) ?_))
            | (refine And.intro (PHeap.le_refl _) (And.intro (fun p hp => List.mem_cons_of_mem _ (List.mem_cons_of_mem _ hp)) ?_))
            | (refine And.intro (PHeap.le_refl _) (And.intro (mem_of_sub ?_) ?_); focus ((repeat' first | exact List.Sublist.refl _ | exact List.nil_sublist _ | exact List.sublist_append_left _ _ | refine List.Sublist.cons_cons _ ?_ | refine List.Sublist.append_left ?_ _ | refine List.sublist_append_of_sublist_right ?_ | refine List.Sublist.cons _ ?_); done); try simp only [push_cast, reduceIte, Nat.reduceEqDiff, reduceCtorEq, Nat.reduceAdd, Nat.reduceSub, Nat.reduceMul, Int.reduceToNat, Nat.reduceLeDiff])
            | (exfalso; simp at hc; done)
            | (exfalso; omega)
            | exact false
            | fail "stuck"
        have e : CF (i + 1) = CF i ++ [(i, false)] := by
          rw [hC1, hAt]; congr 1; clear ih hov ho1; grind
        have ih3 := ih (i + 1, o1) ⟨by dsimp only; omega, by dsimp only; omega, by rw [e]; simpa [encCh] using ho1⟩ (by dsimp only; omega)
        simp only [e, List.length_append, List.flatMap_append] at ih3
        refine EV.to ih3 ?_ (by (repeat' first | exact List.Sublist.refl _ | exact List.nil_sublist _ | exact List.sublist_append_left _ _ | refine List.Sublist.cons_cons _ ?_ | refine List.Sublist.append_left ?_ _ | refine List.sublist_append_of_sublist_right ?_ | refine List.Sublist.cons _ ?_))
        repeat' first
          | (refine List.forall_mem_cons.2 (And.intro ?_ ?_))
          | (intro _ hnil; cases hnil; done)
          | rfl
          | (refine env_w64 rfl (by first | rfl | (push_cast; first | rfl | omega)) (by omega) (by omega); done)
          | (simp (disch := omega) only [get_cons, get_nil, reduceIte, Nat.reduceEqDiff, Option.some.injEq, Value.int.injEq, w64, Int.natCast_add, Int.natCast_one, Int.cast_ofNat_Int, Int.natCast_zero]; done)
      · have e : CF (i + 1) = CF i := by
          rw [hC1, hAt]; clear ih hov; grind
        have ih3 := ih (i + 1, ov) ⟨by dsimp only; omega, by dsimp only; omega, by rw [e]; simpa [encCh] using hov⟩ (by dsimp only; omega)
        simp only [e] at ih3
        refine EV.to ih3 ?_ (by (repeat' first | exact List.Sublist.refl _ | exact List.nil_sublist _ | exact List.sublist_append_left _ _ | refine List.Sublist.cons_cons _ ?_ | refine List.Sublist.append_left ?_ _ | refine List.sublist_append_of_sublist_right ?_ | refine List.Sublist.cons _ ?_))
        repeat' first
          | (refine List.forall_mem_cons.2 (And.intro ?_ ?_))
          | (intro _ hnil; cases hnil; done)
          | rfl
          | (refine env_w64 rfl (by first | rfl | (push_cast; first | rfl | omega)) (by omega) (by omega); done)
          | (simp (disch := omega) only [get_cons, get_nil, reduceIte, Nat.reduceEqDiff, Option.some.injEq, Value.int.injEq, w64, Int.natCast_add, Int.natCast_one, Int.cast_ofNat_Int, Int.natCast_zero]; done)
    · have e : i = (m.line l).length := by omega
      subst e
      refine EV.ret R_view_Machine_choices_ok ?_
      simp only [push_cast, reduceIte, Nat.reduceEqDiff, reduceCtorEq, Nat.reduceAdd, Nat.reduceSub, Nat.reduceMul, Int.reduceToNat, Nat.reduceLeDiff, R_view_Machine_choices]
      exact ⟨ov, rfl, hov, rfl⟩

end
end Go.EV
