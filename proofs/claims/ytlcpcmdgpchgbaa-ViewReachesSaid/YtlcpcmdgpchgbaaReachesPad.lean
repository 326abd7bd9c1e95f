/- What a machine of views tells: left, Left, Over, Reach, Choices, Words. What a machine of views tells: Left, Reach, Choices, Words. A machine of views in memory, as it is owned. A fence. A read. slices.Insert of one new element. -/
import Derived.Test.YtlcpcmdgpchgbaaReachesPac
import Derived.Lib.Overlaps
import Derived.Laws.Externs
set_option linter.unusedSimpArgs false
set_option linter.unusedVariables false
namespace Go.EV
open Go.Proofs
section
variable {M : PHeap} {mp : Nat} {ad : Ad} {m : VM} {B : Nat}

def VM.leftOf (m : VM) (i : Nat) : Int := (m.prog[i]!.length : Int) - m.thr[i]!.next
def VM.lefts (m : VM) (n : Nat) : List Int := (List.range n).map m.leftOf

theorem RdM.progAt (r : RdM M mp ad m) (wf : m.Wf B) : ∃ pb po, ad.pg = some ⟨pb, po, none⟩ ∧ ∀ i, i < m.thr.length → ∃ a c, rd M pb (po + i) 1 [.slice a m.prog[i]!.length c] ∧ rdS M 5 a m.prog[i]!.length (m.prog[i]!.flatMap encOp) := by
  obtain ⟨a, c, vs, he, hl, hrd, hk⟩ := r.pg
  cases he
  have hpl := wf.pl
  have htp := wf.tp
  obtain ⟨pb, po, epg, hat⟩ := SlSl.at hrd hl hk (by omega)
  refine ⟨pb, po, epg, fun i hi => ?_⟩
  obtain ⟨a', c', h1, h2⟩ := hat i (by omega)
  rw [getB (show i < m.prog.length by omega)]
  rw [Nat.mul_one] at h1
  exact ⟨a', c', h1, h2⟩

set_option maxHeartbeats 4000000 in
set_option maxRecDepth 8000 in
theorem view_left_c (r : RdM M mp ad m) (wf : m.Wf B) : Con Try.prog 36 #[pv mp 0] M [] fun v _ G' =>
    ∃ ov, v = osv ov (m.lefts m.thr.length).length ∧ osok 1 ov (m.lefts m.thr.length).length ((m.lefts m.thr.length).map vi) ∧ G' = osg 3 ov ((m.lefts m.thr.length).map vi) := by
  have h0 := r.f0
  have h5 := r.f5
  have ht3 := wf.t3
  have hpl := wf.pl
  obtain ⟨pb, po, epg, hpg⟩ := r.progAt wf
  rw [epg] at h0
  refine Con.enter R_view_Machine_left_ok (args := [pv mp 0]) (by simp [R_view_Machine_left]) fun w0 => ?_
  simp only [R_view_Machine_left, argE]
  repeat' first
      | refine EV.seq ?_
      | refine EV.skip ?_
      | refine EV.block ?_
      | refine EV.inBlock ?_
      | (refine EV.reg ?_; (conv => (arg 2; whnf)); simp only [push_cast, reduceIte, Nat.reduceEqDiff, reduceCtorEq, Nat.reduceAdd, Nat.reduceSub, Nat.reduceMul, Int.reduceToNat, Nat.reduceLeDiff])
      | (refine EV.any _ (List.Sublist.refl _) ?_; (conv => (arg 2; whnf)); simp only [push_cast, reduceIte, Nat.reduceEqDiff, reduceCtorEq, Nat.reduceAdd, Nat.reduceSub, Nat.reduceMul, Int.reduceToNat, Nat.reduceLeDiff])
      | assumption
      | (refine condW.merge ?_ (fun hc K' hK => ?_) ?_; rotate_left)
      | (refine condQ.mk ?_ (fun hc => ?_) ?_; rotate_left; (try simp only [decide_eq_true_eq, decide_eq_false_iff_not, Bool.not_eq_true', Bool.not_eq_false', Bool.and_eq_true, Bool.or_eq_true, Bool.and_eq_false_iff, Bool.or_eq_false_iff] at hc))
      | (with_reducible rfl)
      | ((refine EV.cond rfl (fun h => ?_) (fun h => ?_) <;> try simp only [reduceCtorEq, reduceIte, if_true, if_false, Bool.not_eq_true', Bool.not_eq_false', decide_eq_true_eq, decide_eq_false_iff_not, Bool.and_eq_true, Bool.or_eq_true, Bool.and_eq_false_iff, Bool.or_eq_false_iff] at h) <;> try (exfalso; first | exact h True.intro | (exact h; done) | omega))
      | (refine EV.exit rfl ?_)
      | (refine EV.ret R_view_Machine_left_ok ?_; simp only [push_cast, reduceIte, Nat.reduceEqDiff, reduceCtorEq, Nat.reduceAdd, Nat.reduceSub, Nat.reduceMul, Int.reduceToNat, Nat.reduceLeDiff, R_view_Machine_left])
      | (with_reducible intro b; try simp only [push_cast, reduceIte, Nat.reduceEqDiff, reduceCtorEq, Nat.reduceAdd, Nat.reduceSub, Nat.reduceMul, Int.reduceToNat, Nat.reduceLeDiff])
      | with_reducible intro b
      | (refine And.intro (by omega) ?_)
      | (refine Exists.intro _ (And.intro (rd_M (by assumption)) ?_); try simp only [push_cast, reduceIte, Nat.reduceEqDiff, reduceCtorEq, Nat.reduceAdd, Nat.reduceSub, Nat.reduceMul, Int.reduceToNat, Nat.reduceLeDiff])
      | (refine Exists.intro _ (Exists.intro _ (Exists.intro _ (And.intro (rd_M (by assumption)) ?_))); try simp only [push_cast, reduceIte, Nat.reduceEqDiff, reduceCtorEq, Nat.reduceAdd, Nat.reduceSub, Nat.reduceMul, Int.reduceToNat, Nat.reduceLeDiff])
      | (refine Exists.intro _ (And.intro (by assumption) ?_); try simp only [push_cast, reduceIte, Nat.reduceEqDiff, reduceCtorEq, Nat.reduceAdd, Nat.reduceSub, Nat.reduceMul, Int.reduceToNat, Nat.reduceLeDiff])
      | (refine Exists.intro _ (Exists.intro _ (Exists.intro _ (And.intro (by assumption) ?_))); try simp only [push_cast, reduceIte, Nat.reduceEqDiff, reduceCtorEq, Nat.reduceAdd, Nat.reduceSub, Nat.reduceMul, Int.reduceToNat, Nat.reduceLeDiff])
      | (refine xr rfl (by simp only [List.length_cons, List.length_nil]; omega) ?_; try simp only [push_cast, reduceIte, Nat.reduceEqDiff, reduceCtorEq, Nat.reduceAdd, Nat.reduceSub, Nat.reduceMul, Int.reduceToNat, Nat.reduceLeDiff])
      | (refine xi rfl (by simp only [List.length_cons, List.length_nil]; omega) ?_; try simp only [push_cast, reduceIte, Nat.reduceEqDiff, reduceCtorEq, Nat.reduceAdd, Nat.reduceSub, Nat.reduceMul, Int.reduceToNat, Nat.reduceLeDiff])
      | (refine xs rfl (by simp only [List.length_cons, List.length_nil]; omega) ?_; try simp only [push_cast, reduceIte, Nat.reduceEqDiff, reduceCtorEq, Nat.reduceAdd, Nat.reduceSub, Nat.reduceMul, Int.reduceToNat, Nat.reduceLeDiff])
      | (refine xw ?_; simp only [push_cast, reduceIte, Nat.reduceEqDiff, reduceCtorEq, Nat.reduceAdd, Nat.reduceSub, Nat.reduceMul, Int.reduceToNat, Nat.reduceLeDiff])
      | (refine And.intro (PHeap.le_refl _) (And.intro (fun p hp => hp) ?_))
      | (refine And.intro (PHeap.le_refl _) (And.intro (fun p hp => List.mem_cons_of_mem _ hp) ?_))
      | (refine And.intro (PHeap.le_refl _) (And.intro (fun p hp => List.mem_cons_of_mem _ (List.mem_cons_of_mem _ hp)) ?_))
      | (refine And.intro (PHeap.le_refl _) (And.intro (mem_of_sub ?_) ?_); focus ((repeat' first | exact List.Sublist.refl _ | exact List.nil_sublist _ | exact List.sublist_append_left _ _ | refine List.Sublist.cons_cons _ ?_ | refine List.Sublist.append_left ?_ _ | refine List.sublist_append_of_sublist_right ?_ | refine List.Sublist.cons _ ?_); done); try simp only [push_cast, reduceIte, Nat.reduceEqDiff, reduceCtorEq, Nat.reduceAdd, Nat.reduceSub, Nat.reduceMul, Int.reduceToNat, Nat.reduceLeDiff])
      | (exfalso; simp at hc; done)
      | (exfalso; omega)
      | exact false
      | fail "stuck"
  refine EV.to (ρ' := [(0, pv mp 0), (3, osv none (m.lefts 0).length), (9, rowV ad.tb m.thr.length ad.tc), (10, vi m.thr.length), (11, vi (0 : Nat))]) (G' := osg 3 none ((m.lefts 0).map vi)) ?_ ?env1 (by (repeat' first | exact List.Sublist.refl _ | exact List.nil_sublist _ | exact List.sublist_append_left _ _ | refine List.Sublist.cons_cons _ ?_ | refine List.Sublist.append_left ?_ _ | refine List.sublist_append_of_sublist_right ?_ | refine List.Sublist.cons _ ?_))
  case env1 =>
    repeat' first
      | (refine List.forall_mem_cons.2 (And.intro ?_ ?_))
      | (intro _ hnil; cases hnil; done)
      | rfl
      | (refine env_w64 rfl (by first | rfl | (push_cast; first | rfl | omega)) (by omega) (by omega); done)
      | (simp (disch := omega) only [get_cons, get_nil, reduceIte, Nat.reduceEqDiff, Option.some.injEq, Value.int.injEq, w64, Int.natCast_add, Int.natCast_one, Int.cast_ofNat_Int, Int.natCast_zero]; done)
  refine EV.loop (fun x : Nat × Vec => ([(0, pv mp 0), (3, osv x.2 (m.lefts x.1).length), (9, rowV ad.tb m.thr.length ad.tc), (10, vi m.thr.length), (11, vi x.1)], M, osg 3 x.2 ((m.lefts x.1).map vi)))
    (fun x => x.1 ≤ m.thr.length ∧ osok 1 x.2 (m.lefts x.1).length ((m.lefts x.1).map vi))
    (fun x => m.thr.length - x.1) (0, none) ⟨Nat.zero_le _, rfl, rfl⟩ ?_
  rintro ⟨i, ov⟩ ⟨hi, hov⟩ ih
  dsimp only at hi hov ih ⊢
  have hll : (m.lefts i).length = i := by simp [VM.lefts]
  repeat' first
      | refine EV.seq ?_
      | refine EV.skip ?_
      | refine EV.block ?_
      | refine EV.inBlock ?_
      | (refine EV.reg ?_; (conv => (arg 2; whnf)); simp only [push_cast, reduceIte, Nat.reduceEqDiff, reduceCtorEq, Nat.reduceAdd, Nat.reduceSub, Nat.reduceMul, Int.reduceToNat, Nat.reduceLeDiff])
      | (refine EV.any _ (List.Sublist.refl _) ?_; (conv => (arg 2; whnf)); simp only [push_cast, reduceIte, Nat.reduceEqDiff, reduceCtorEq, Nat.reduceAdd, Nat.reduceSub, Nat.reduceMul, Int.reduceToNat, Nat.reduceLeDiff])
      | assumption
      | (refine condW.merge ?_ (fun hc K' hK => ?_) ?_; rotate_left)
      | (refine condQ.mk ?_ (fun hc => ?_) ?_; rotate_left; (try simp only [decide_eq_true_eq, decide_eq_false_iff_not, Bool.not_eq_true', Bool.not_eq_false', Bool.and_eq_true, Bool.or_eq_true, Bool.and_eq_false_iff, Bool.or_eq_false_iff] at hc))
      | (with_reducible rfl)
      | ((refine EV.cond rfl (fun h => ?_) (fun h => ?_) <;> try simp only [reduceCtorEq, reduceIte, if_true, if_false, Bool.not_eq_true', Bool.not_eq_false', decide_eq_true_eq, decide_eq_false_iff_not, Bool.and_eq_true, Bool.or_eq_true, Bool.and_eq_false_iff, Bool.or_eq_false_iff] at h) <;> try (exfalso; first | exact h True.intro | (exact h; done) | omega))
      | (refine EV.exit rfl ?_)
      | (with_reducible intro b; try simp only [push_cast, reduceIte, Nat.reduceEqDiff, reduceCtorEq, Nat.reduceAdd, Nat.reduceSub, Nat.reduceMul, Int.reduceToNat, Nat.reduceLeDiff])
      | with_reducible intro b
      | (refine And.intro (by omega) ?_)
      | (refine Exists.intro _ (And.intro (rd_M (by assumption)) ?_); try simp only [push_cast, reduceIte, Nat.reduceEqDiff, reduceCtorEq, Nat.reduceAdd, Nat.reduceSub, Nat.reduceMul, Int.reduceToNat, Nat.reduceLeDiff])
      | (refine Exists.intro _ (Exists.intro _ (Exists.intro _ (And.intro (rd_M (by assumption)) ?_))); try simp only [push_cast, reduceIte, Nat.reduceEqDiff, reduceCtorEq, Nat.reduceAdd, Nat.reduceSub, Nat.reduceMul, Int.reduceToNat, Nat.reduceLeDiff])
      | (refine Exists.intro _ (And.intro (by assumption) ?_); try simp only [push_cast, reduceIte, Nat.reduceEqDiff, reduceCtorEq, Nat.reduceAdd, Nat.reduceSub, Nat.reduceMul, Int.reduceToNat, Nat.reduceLeDiff])
      | (refine Exists.intro _ (Exists.intro _ (Exists.intro _ (And.intro (by assumption) ?_))); try simp only [push_cast, reduceIte, Nat.reduceEqDiff, reduceCtorEq, Nat.reduceAdd, Nat.reduceSub, Nat.reduceMul, Int.reduceToNat, Nat.reduceLeDiff])
      | (refine xr rfl (by simp only [List.length_cons, List.length_nil]; omega) ?_; try simp only [push_cast, reduceIte, Nat.reduceEqDiff, reduceCtorEq, Nat.reduceAdd, Nat.reduceSub, Nat.reduceMul, Int.reduceToNat, Nat.reduceLeDiff])
      | (refine xi rfl (by simp only [List.length_cons, List.length_nil]; omega) ?_; try simp only [push_cast, reduceIte, Nat.reduceEqDiff, reduceCtorEq, Nat.reduceAdd, Nat.reduceSub, Nat.reduceMul, Int.reduceToNat, Nat.reduceLeDiff])
      | (refine xs rfl (by simp only [List.length_cons, List.length_nil]; omega) ?_; try simp only [push_cast, reduceIte, Nat.reduceEqDiff, reduceCtorEq, Nat.reduceAdd, Nat.reduceSub, Nat.reduceMul, Int.reduceToNat, Nat.reduceLeDiff])
      | (refine xw ?_; simp only [push_cast, reduceIte, Nat.reduceEqDiff, reduceCtorEq, Nat.reduceAdd, Nat.reduceSub, Nat.reduceMul, Int.reduceToNat, Nat.reduceLeDiff])
      | (refine And.intro (PHeap.le_refl _) (And.intro (fun p hp => hp) ?_))
      | (refine And.intro (PHeap.le_refl _) (And.intro (fun p hp => List.mem_cons_of_mem _ hp) ?_))
      | (refine And.intro (PHeap.le_refl _) (And.intro (fun p hp => List.mem_cons_of_mem _ (List.mem_cons_of_mem _ hp)) ?_))
      | (refine And.intro (PHeap.le_refl _) (And.intro (mem_of_sub ?_) ?_); focus ((repeat' first | exact List.Sublist.refl _ | exact List.nil_sublist _ | exact List.sublist_append_left _ _ | refine List.Sublist.cons_cons _ ?_ | refine List.Sublist.append_left ?_ _ | refine List.sublist_append_of_sublist_right ?_ | refine List.Sublist.cons _ ?_); done); try simp only [push_cast, reduceIte, Nat.reduceEqDiff, reduceCtorEq, Nat.reduceAdd, Nat.reduceSub, Nat.reduceMul, Int.reduceToNat, Nat.reduceLeDiff])
      | (exfalso; simp at hc; done)
      | (exfalso; omega)
      | exact false
      | fail "stuck"
  · have hi' : i < m.thr.length := by omega
    obtain ⟨a, c, hp1, hp2⟩ := hpg i hi'
    have hth := r.thr hi'
    simp only [encThr] at hth
    have hnx := wf.nx i hi'
    have hpb : m.prog[i]!.length < 1000000 := by
      have hpl := wf.pl
      rw [getB (show i < m.prog.length by omega)]
      exact wf.pb _ (List.getElem_mem _)
    have hw : IntKind.i64.wrap ((m.prog[i]!.length : Int) - m.thr[i]!.next) = m.leftOf i := w64 (by omega) (by omega)
    repeat' first
        | refine EV.seq ?_
        | refine EV.skip ?_
        | refine EV.block ?_
        | refine EV.inBlock ?_
        | (refine EV.reg ?_; (conv => (arg 2; whnf)); simp only [push_cast, reduceIte, Nat.reduceEqDiff, reduceCtorEq, Nat.reduceAdd, Nat.reduceSub, Nat.reduceMul, Int.reduceToNat, Nat.reduceLeDiff, hw])
        | (refine EV.any _ (List.Sublist.refl _) ?_; (conv => (arg 2; whnf)); simp only [push_cast, reduceIte, Nat.reduceEqDiff, reduceCtorEq, Nat.reduceAdd, Nat.reduceSub, Nat.reduceMul, Int.reduceToNat, Nat.reduceLeDiff, hw])
        | assumption
        | (refine condW.merge ?_ (fun hc K' hK => ?_) ?_; rotate_left)
        | (refine condQ.mk ?_ (fun hc => ?_) ?_; rotate_left; (try simp only [decide_eq_true_eq, decide_eq_false_iff_not, Bool.not_eq_true', Bool.not_eq_false', Bool.and_eq_true, Bool.or_eq_true, Bool.and_eq_false_iff, Bool.or_eq_false_iff] at hc))
        | (with_reducible rfl)
        | ((refine EV.cond rfl (fun h => ?_) (fun h => ?_) <;> try simp only [reduceCtorEq, reduceIte, if_true, if_false, Bool.not_eq_true', Bool.not_eq_false', decide_eq_true_eq, decide_eq_false_iff_not, Bool.and_eq_true, Bool.or_eq_true, Bool.and_eq_false_iff, Bool.or_eq_false_iff] at h) <;> try (exfalso; first | exact h True.intro | (exact h; done) | omega))
        | (refine EV.exit rfl ?_)
        | (with_reducible intro b; try simp only [push_cast, reduceIte, Nat.reduceEqDiff, reduceCtorEq, Nat.reduceAdd, Nat.reduceSub, Nat.reduceMul, Int.reduceToNat, Nat.reduceLeDiff, hw])
        | with_reducible intro b
        | (refine And.intro (by omega) ?_)
        | (refine Exists.intro _ (And.intro (rd_M (by assumption)) ?_); try simp only [push_cast, reduceIte, Nat.reduceEqDiff, reduceCtorEq, Nat.reduceAdd, Nat.reduceSub, Nat.reduceMul, Int.reduceToNat, Nat.reduceLeDiff, hw])
        | (refine Exists.intro _ (Exists.intro _ (Exists.intro _ (And.intro (rd_M (by assumption)) ?_))); try simp only [push_cast, reduceIte, Nat.reduceEqDiff, reduceCtorEq, Nat.reduceAdd, Nat.reduceSub, Nat.reduceMul, Int.reduceToNat, Nat.reduceLeDiff, hw])
        | (refine Exists.intro _ (And.intro (by assumption) ?_); try simp only [push_cast, reduceIte, Nat.reduceEqDiff, reduceCtorEq, Nat.reduceAdd, Nat.reduceSub, Nat.reduceMul, Int.reduceToNat, Nat.reduceLeDiff, hw])
        | (refine Exists.intro _ (Exists.intro _ (Exists.intro _ (And.intro (by assumption) ?_))); try simp only [push_cast, reduceIte, Nat.reduceEqDiff, reduceCtorEq, Nat.reduceAdd, Nat.reduceSub, Nat.reduceMul, Int.reduceToNat, Nat.reduceLeDiff, hw])
        | (refine xr rfl (by simp only [List.length_cons, List.length_nil]; omega) ?_; try simp only [push_cast, reduceIte, Nat.reduceEqDiff, reduceCtorEq, Nat.reduceAdd, Nat.reduceSub, Nat.reduceMul, Int.reduceToNat, Nat.reduceLeDiff, hw])
        | (refine xi rfl (by simp only [List.length_cons, List.length_nil]; omega) ?_; try simp only [push_cast, reduceIte, Nat.reduceEqDiff, reduceCtorEq, Nat.reduceAdd, Nat.reduceSub, Nat.reduceMul, Int.reduceToNat, Nat.reduceLeDiff, hw])
        | (refine xs rfl (by simp only [List.length_cons, List.length_nil]; omega) ?_; try simp only [push_cast, reduceIte, Nat.reduceEqDiff, reduceCtorEq, Nat.reduceAdd, Nat.reduceSub, Nat.reduceMul, Int.reduceToNat, Nat.reduceLeDiff, hw])
        | (refine xw ?_; simp only [push_cast, reduceIte, Nat.reduceEqDiff, reduceCtorEq, Nat.reduceAdd, Nat.reduceSub, Nat.reduceMul, Int.reduceToNat, Nat.reduceLeDiff, hw])
        | (refine And.intro (PHeap.le_refl _) (And.intro (fun p hp => hp) ?_))
        | (refine And.intro (PHeap.le_refl _) (And.intro (fun p hp => List.mem_cons_of_mem _ hp) ?_))
        | (refine And.intro (PHeap.le_refl _) (And.intro (fun p hp => List.mem_cons_of_mem _ (List.mem_cons_of_mem _ hp)) ?_))
        | (refine And.intro (PHeap.le_refl _) (And.intro (mem_of_sub ?_) ?_); focus ((repeat' first | exact List.Sublist.refl _ | exact List.nil_sublist _ | exact List.sublist_append_left _ _ | refine List.Sublist.cons_cons _ ?_ | refine List.Sublist.append_left ?_ _ | refine List.sublist_append_of_sublist_right ?_ | refine List.Sublist.cons _ ?_); done); try simp only [push_cast, reduceIte, Nat.reduceEqDiff, reduceCtorEq, Nat.reduceAdd, Nat.reduceSub, Nat.reduceMul, Int.reduceToNat, Nat.reduceLeDiff, hw])
        | (exfalso; simp at hc; done)
        | (exfalso; omega)
        | exact false
        | fail "stuck"
    refine ⟨_, Or.inr ⟨_, 0, rfl, rd_own' 0 rfl rfl (by simp)⟩, by simp [ok1_cons, ok1_nil, Value.oneCell'], Or.inl ⟨_, _, rfl, _, hov, _, cat_pull [[_, _], osg 3 ov _] 1 (by simp), ?_, ?_, ?_⟩⟩
    · simp only [maxLen]; omega
    · omega
    intro o1 ho1 _
    simp only [List.eraseIdx_cons_succ, List.eraseIdx_cons_zero, List.getElem_cons_succ, List.getElem_cons_zero, cat_two, cat_one, cat_nil, List.nil_append, List.cons_append, List.append_assoc, List.append_nil]
    repeat' first
        | refine EV.seq ?_
        | refine EV.skip ?_
        | refine EV.block ?_
        | refine EV.inBlock ?_
        | (refine EV.reg ?_; (conv => (arg 2; whnf)); simp only [push_cast, reduceIte, Nat.reduceEqDiff, reduceCtorEq, Nat.reduceAdd, Nat.reduceSub, Nat.reduceMul, Int.reduceToNat, Nat.reduceLeDiff])
        | (refine EV.any _ (List.Sublist.refl _) ?_; (conv => (arg 2; whnf)); simp only [push_cast, reduceIte, Nat.reduceEqDiff, reduceCtorEq, Nat.reduceAdd, Nat.reduceSub, Nat.reduceMul, Int.reduceToNat, Nat.reduceLeDiff])
        | assumption
        | (refine condW.merge ?_ (fun hc K' hK => ?_) ?_; rotate_left)
        | (refine condQ.mk ?_ (fun hc => ?_) ?_; rotate_left; (try simp only [decide_eq_true_eq, decide_eq_false_iff_not, Bool.not_eq_true', Bool.not_eq_false', Bool.and_eq_true, Bool.or_eq_true, Bool.and_eq_false_iff, Bool.or_eq_false_iff] at hc))
        | (with_reducible rfl)
        | ((refine EV.cond rfl (fun h => ?_) (fun h => ?_) <;> try simp only [reduceCtorEq, reduceIte, if_true, if_false, Bool.not_eq_true', Bool.not_eq_false', decide_eq_true_eq, decide_eq_false_iff_not, Bool.and_eq_true, Bool.or_eq_true, Bool.and_eq_false_iff, Bool.or_eq_false_iff] at h) <;> try (exfalso; first | exact h True.intro | (exact h; done) | omega))
        | (refine EV.exit rfl ?_)
        | (with_reducible intro b; try simp only [push_cast, reduceIte, Nat.reduceEqDiff, reduceCtorEq, Nat.reduceAdd, Nat.reduceSub, Nat.reduceMul, Int.reduceToNat, Nat.reduceLeDiff])
        | with_reducible intro b
        | (refine And.intro (by omega) ?_)
        | (refine Exists.intro _ (And.intro (rd_M (by assumption)) ?_); try simp only [push_cast, reduceIte, Nat.reduceEqDiff, reduceCtorEq, Nat.reduceAdd, Nat.reduceSub, Nat.reduceMul, Int.reduceToNat, Nat.reduceLeDiff])
        | (refine Exists.intro _ (Exists.intro _ (Exists.intro _ (And.intro (rd_M (by assumption)) ?_))); try simp only [push_cast, reduceIte, Nat.reduceEqDiff, reduceCtorEq, Nat.reduceAdd, Nat.reduceSub, Nat.reduceMul, Int.reduceToNat, Nat.reduceLeDiff])
        | (refine Exists.intro _ (And.intro (by assumption) ?_); try simp only [push_cast, reduceIte, Nat.reduceEqDiff, reduceCtorEq, Nat.reduceAdd, Nat.reduceSub, Nat.reduceMul, Int.reduceToNat, Nat.reduceLeDiff])
        | (refine Exists.intro _ (Exists.intro _ (Exists.intro _ (And.intro (by assumption) ?_))); try simp only [push_cast, reduceIte, Nat.reduceEqDiff, reduceCtorEq, Nat.reduceAdd, Nat.reduceSub, Nat.reduceMul, Int.reduceToNat, Nat.reduceLeDiff])
        | (refine xr rfl (by simp only [List.length_cons, List.length_nil]; omega) ?_; try simp only [push_cast, reduceIte, Nat.reduceEqDiff, reduceCtorEq, Nat.reduceAdd, Nat.reduceSub, Nat.reduceMul, Int.reduceToNat, Nat.reduceLeDiff])
        | (refine xi rfl (by simp only [List.length_cons, List.length_nil]; omega) ?_; try simp only [push_cast, reduceIte, Nat.reduceEqDiff, reduceCtorEq, Nat.reduceAdd, Nat.reduceSub, Nat.reduceMul, Int.reduceToNat, Nat.reduceLeDiff])
        | (refine xs rfl (by simp only [List.length_cons, List.length_nil]; omega) ?_; try simp only [push_cast, reduceIte, Nat.reduceEqDiff, reduceCtorEq, Nat.reduceAdd, Nat.reduceSub, Nat.reduceMul, Int.reduceToNat, Nat.reduceLeDiff])
        | (refine xw ?_; simp only [push_cast, reduceIte, Nat.reduceEqDiff, reduceCtorEq, Nat.reduceAdd, Nat.reduceSub, Nat.reduceMul, Int.reduceToNat, Nat.reduceLeDiff])
        | (refine And.intro (PHeap.le_refl _) (And.intro (fun p hp => hp) ?_))
        | (refine And.intro (PHeap.le_refl _) (And.intro (fun p hp => List.mem_cons_of_mem _ hp) ?_))
        | (refine And.intro (PHeap.le_refl _) (And.intro (fun p hp => List.mem_cons_of_mem _ (List.mem_cons_of_mem _ hp)) ?_))
        | (refine And.intro (PHeap.le_refl _) (And.intro (mem_of_sub ?_) ?_); focus ((repeat' first | exact List.Sublist.refl _ | exact List.nil_sublist _ | exact List.sublist_append_left _ _ | refine List.Sublist.cons_cons _ ?_ | refine List.Sublist.append_left ?_ _ | refine List.sublist_append_of_sublist_right ?_ | refine List.Sublist.cons _ ?_); done); try simp only [push_cast, reduceIte, Nat.reduceEqDiff, reduceCtorEq, Nat.reduceAdd, Nat.reduceSub, Nat.reduceMul, Int.reduceToNat, Nat.reduceLeDiff])
        | (exfalso; simp at hc; done)
        | (exfalso; omega)
        | exact false
        | fail "stuck"
    have e : m.lefts (i + 1) = m.lefts i ++ [m.leftOf i] := by simp [VM.lefts, List.range_succ]
    have ih3 := ih (i + 1, o1) ⟨by dsimp only; omega, by rw [e]; simpa using ho1⟩ (by dsimp only; omega)
    simp only [e, List.length_append, List.map_append] at ih3
    refine EV.to ih3 ?_ (by (repeat' first | exact List.Sublist.refl _ | exact List.nil_sublist _ | exact List.sublist_append_left _ _ | refine List.Sublist.cons_cons _ ?_ | refine List.Sublist.append_left ?_ _ | refine List.sublist_append_of_sublist_right ?_ | refine List.Sublist.cons _ ?_))
    repeat' first
      | (refine List.forall_mem_cons.2 (And.intro ?_ ?_))
      | (intro _ hnil; cases hnil; done)
      | rfl
      | (refine env_w64 rfl (by first | rfl | (push_cast; first | rfl | omega)) (by omega) (by omega); done)
      | (simp (disch := omega) only [get_cons, get_nil, reduceIte, Nat.reduceEqDiff, Option.some.injEq, Value.int.injEq, w64, Int.natCast_add, Int.natCast_one, Int.cast_ofNat_Int, Int.natCast_zero]; done)
  · have e : i = m.thr.length := by omega
    subst e
    refine EV.ret R_view_Machine_left_ok ?_
    simp only [push_cast, reduceIte, Nat.reduceEqDiff, reduceCtorEq, Nat.reduceAdd, Nat.reduceSub, Nat.reduceMul, Int.reduceToNat, Nat.reduceLeDiff, R_view_Machine_left]
    exact ⟨ov, rfl, hov, rfl⟩

theorem view_Over_S1_q (x : Int) : ConQ Try.prog 58 #[vi x] M (vb (decide (0 < x))) := by
  refine Con.enter R_view_Machine_Over_S1_ok (args := [vi x]) (by simp [R_view_Machine_Over_S1]) fun w0 => ?_
  simp only [R_view_Machine_Over_S1, argE]
  repeat' first
      | refine EV.seq ?_
      | refine EV.skip ?_
      | refine EV.block ?_
      | refine EV.inBlock ?_
      | (refine EV.reg ?_; (conv => (arg 2; whnf)); simp only [push_cast, reduceIte, Nat.reduceEqDiff, reduceCtorEq, Nat.reduceAdd, Nat.reduceSub, Nat.reduceMul, Int.reduceToNat, Nat.reduceLeDiff])
      | (refine EV.any _ (List.Sublist.refl _) ?_; (conv => (arg 2; whnf)); simp only [push_cast, reduceIte, Nat.reduceEqDiff, reduceCtorEq, Nat.reduceAdd, Nat.reduceSub, Nat.reduceMul, Int.reduceToNat, Nat.reduceLeDiff])
      | assumption
      | (refine condW.merge ?_ (fun hc K' hK => ?_) ?_; rotate_left)
      | (refine condQ.mk ?_ (fun hc => ?_) ?_; rotate_left; (try simp only [decide_eq_true_eq, decide_eq_false_iff_not, Bool.not_eq_true', Bool.not_eq_false', Bool.and_eq_true, Bool.or_eq_true, Bool.and_eq_false_iff, Bool.or_eq_false_iff] at hc))
      | (with_reducible rfl)
      | ((refine EV.cond rfl (fun h => ?_) (fun h => ?_) <;> try simp only [reduceCtorEq, reduceIte, if_true, if_false, Bool.not_eq_true', Bool.not_eq_false', decide_eq_true_eq, decide_eq_false_iff_not, Bool.and_eq_true, Bool.or_eq_true, Bool.and_eq_false_iff, Bool.or_eq_false_iff] at h) <;> try (exfalso; first | exact h True.intro | (exact h; done) | omega))
      | (refine EV.exit rfl ?_)
      | (refine EV.ret R_view_Machine_Over_S1_ok ?_; simp only [push_cast, reduceIte, Nat.reduceEqDiff, reduceCtorEq, Nat.reduceAdd, Nat.reduceSub, Nat.reduceMul, Int.reduceToNat, Nat.reduceLeDiff, R_view_Machine_Over_S1])
      | (with_reducible intro b; try simp only [push_cast, reduceIte, Nat.reduceEqDiff, reduceCtorEq, Nat.reduceAdd, Nat.reduceSub, Nat.reduceMul, Int.reduceToNat, Nat.reduceLeDiff])
      | with_reducible intro b
      | (refine And.intro (by omega) ?_)
      | (refine Exists.intro _ (And.intro (rd_M (by assumption)) ?_); try simp only [push_cast, reduceIte, Nat.reduceEqDiff, reduceCtorEq, Nat.reduceAdd, Nat.reduceSub, Nat.reduceMul, Int.reduceToNat, Nat.reduceLeDiff])
      | (refine Exists.intro _ (Exists.intro _ (Exists.intro _ (And.intro (rd_M (by assumption)) ?_))); try simp only [push_cast, reduceIte, Nat.reduceEqDiff, reduceCtorEq, Nat.reduceAdd, Nat.reduceSub, Nat.reduceMul, Int.reduceToNat, Nat.reduceLeDiff])
      | (refine Exists.intro _ (And.intro (by assumption) ?_); try simp only [push_cast, reduceIte, Nat.reduceEqDiff, reduceCtorEq, Nat.reduceAdd, Nat.reduceSub, Nat.reduceMul, Int.reduceToNat, Nat.reduceLeDiff])
      | (refine Exists.intro _ (Exists.intro _ (Exists.intro _ (And.intro (by assumption) ?_))); try simp only [push_cast, reduceIte, Nat.reduceEqDiff, reduceCtorEq, Nat.reduceAdd, Nat.reduceSub, Nat.reduceMul, Int.reduceToNat, Nat.reduceLeDiff])
      | (refine xr rfl (by simp only [List.length_cons, List.length_nil]; omega) ?_; try simp only [push_cast, reduceIte, Nat.reduceEqDiff, reduceCtorEq, Nat.reduceAdd, Nat.reduceSub, Nat.reduceMul, Int.reduceToNat, Nat.reduceLeDiff])
      | (refine xi rfl (by simp only [List.length_cons, List.length_nil]; omega) ?_; try simp only [push_cast, reduceIte, Nat.reduceEqDiff, reduceCtorEq, Nat.reduceAdd, Nat.reduceSub, Nat.reduceMul, Int.reduceToNat, Nat.reduceLeDiff])
      | (refine xs rfl (by simp only [List.length_cons, List.length_nil]; omega) ?_; try simp only [push_cast, reduceIte, Nat.reduceEqDiff, reduceCtorEq, Nat.reduceAdd, Nat.reduceSub, Nat.reduceMul, Int.reduceToNat, Nat.reduceLeDiff])
      | (refine xw ?_; simp only [push_cast, reduceIte, Nat.reduceEqDiff, reduceCtorEq, Nat.reduceAdd, Nat.reduceSub, Nat.reduceMul, Int.reduceToNat, Nat.reduceLeDiff])
      | (refine And.intro (PHeap.le_refl _) (And.intro (fun p hp => hp) ?_))
      | (refine And.intro (PHeap.le_refl _) (And.intro (fun p hp => List.mem_cons_of_mem _ hp) ?_))
      | (refine And.intro (PHeap.le_refl _) (And.intro (fun p hp => List.mem_cons_of_mem _ (List.mem_cons_of_mem _ hp)) ?_))
      | (refine And.intro (PHeap.le_refl _) (And.intro (mem_of_sub ?_) ?_); focus ((repeat' first | exact List.Sublist.refl _ | exact List.nil_sublist _ | exact List.sublist_append_left _ _ | refine List.Sublist.cons_cons _ ?_ | refine List.Sublist.append_left ?_ _ | refine List.sublist_append_of_sublist_right ?_ | refine List.Sublist.cons _ ?_); done); try simp only [push_cast, reduceIte, Nat.reduceEqDiff, reduceCtorEq, Nat.reduceAdd, Nat.reduceSub, Nat.reduceMul, Int.reduceToNat, Nat.reduceLeDiff])
      | (exfalso; simp at hc; done)
      | (exfalso; omega)
      | exact false
      | fail "stuck"

theorem slices_IndexFunc_c (l : List Int) (a : Option Addr) (c : Nat) (hrow : rdS M 1 a l.length (l.map vi)) (hb : l.length < 1000000) : Con Try.prog 78 #[.slice a l.length c, .func (.func 58) #[] #[]] M [] fun v _ _ => ∃ n, v = vi n ∧ (0 ≤ n ↔ l.any (fun x => decide (0 < x)) = true) := by
  refine Con.enter R_slices_IndexFunc_Lint_int_ok (args := [.slice a l.length c, .func (.func 58) #[] #[]]) (by simp [R_slices_IndexFunc_Lint_int]) fun w0 => ?_
  simp only [R_slices_IndexFunc_Lint_int, argE]
  repeat' first
      | refine EV.seq ?_
      | refine EV.skip ?_
      | refine EV.block ?_
      | refine EV.inBlock ?_
      | (refine EV.reg ?_; (conv => (arg 2; whnf)); simp only [push_cast, reduceIte, Nat.reduceEqDiff, reduceCtorEq, Nat.reduceAdd, Nat.reduceSub, Nat.reduceMul, Int.reduceToNat, Nat.reduceLeDiff])
      | (refine EV.any _ (List.Sublist.refl _) ?_; (conv => (arg 2; whnf)); simp only [push_cast, reduceIte, Nat.reduceEqDiff, reduceCtorEq, Nat.reduceAdd, Nat.reduceSub, Nat.reduceMul, Int.reduceToNat, Nat.reduceLeDiff])
      | assumption
      | (refine condW.merge ?_ (fun hc K' hK => ?_) ?_; rotate_left)
      | (refine condQ.mk ?_ (fun hc => ?_) ?_; rotate_left; (try simp only [decide_eq_true_eq, decide_eq_false_iff_not, Bool.not_eq_true', Bool.not_eq_false', Bool.and_eq_true, Bool.or_eq_true, Bool.and_eq_false_iff, Bool.or_eq_false_iff] at hc))
      | (with_reducible rfl)
      | ((refine EV.cond rfl (fun h => ?_) (fun h => ?_) <;> try simp only [reduceCtorEq, reduceIte, if_true, if_false, Bool.not_eq_true', Bool.not_eq_false', decide_eq_true_eq, decide_eq_false_iff_not, Bool.and_eq_true, Bool.or_eq_true, Bool.and_eq_false_iff, Bool.or_eq_false_iff] at h) <;> try (exfalso; first | exact h True.intro | (exact h; done) | omega))
      | (refine EV.exit rfl ?_)
      | (refine EV.ret R_slices_IndexFunc_Lint_int_ok ?_; simp only [push_cast, reduceIte, Nat.reduceEqDiff, reduceCtorEq, Nat.reduceAdd, Nat.reduceSub, Nat.reduceMul, Int.reduceToNat, Nat.reduceLeDiff, R_slices_IndexFunc_Lint_int])
      | (with_reducible intro b; try simp only [push_cast, reduceIte, Nat.reduceEqDiff, reduceCtorEq, Nat.reduceAdd, Nat.reduceSub, Nat.reduceMul, Int.reduceToNat, Nat.reduceLeDiff])
      | with_reducible intro b
      | (refine And.intro (by omega) ?_)
      | (refine Exists.intro _ (And.intro (rd_M (by assumption)) ?_); try simp only [push_cast, reduceIte, Nat.reduceEqDiff, reduceCtorEq, Nat.reduceAdd, Nat.reduceSub, Nat.reduceMul, Int.reduceToNat, Nat.reduceLeDiff])
      | (refine Exists.intro _ (Exists.intro _ (Exists.intro _ (And.intro (rd_M (by assumption)) ?_))); try simp only [push_cast, reduceIte, Nat.reduceEqDiff, reduceCtorEq, Nat.reduceAdd, Nat.reduceSub, Nat.reduceMul, Int.reduceToNat, Nat.reduceLeDiff])
      | (refine Exists.intro _ (And.intro (by assumption) ?_); try simp only [push_cast, reduceIte, Nat.reduceEqDiff, reduceCtorEq, Nat.reduceAdd, Nat.reduceSub, Nat.reduceMul, Int.reduceToNat, Nat.reduceLeDiff])
      | (refine Exists.intro _ (Exists.intro _ (Exists.intro _ (And.intro (by assumption) ?_))); try simp only [push_cast, reduceIte, Nat.reduceEqDiff, reduceCtorEq, Nat.reduceAdd, Nat.reduceSub, Nat.reduceMul, Int.reduceToNat, Nat.reduceLeDiff])
      | (refine xr rfl (by simp only [List.length_cons, List.length_nil]; omega) ?_; try simp only [push_cast, reduceIte, Nat.reduceEqDiff, reduceCtorEq, Nat.reduceAdd, Nat.reduceSub, Nat.reduceMul, Int.reduceToNat, Nat.reduceLeDiff])
      | (refine xi rfl (by simp only [List.length_cons, List.length_nil]; omega) ?_; try simp only [push_cast, reduceIte, Nat.reduceEqDiff, reduceCtorEq, Nat.reduceAdd, Nat.reduceSub, Nat.reduceMul, Int.reduceToNat, Nat.reduceLeDiff])
      | (refine xs rfl (by simp only [List.length_cons, List.length_nil]; omega) ?_; try simp only [push_cast, reduceIte, Nat.reduceEqDiff, reduceCtorEq, Nat.reduceAdd, Nat.reduceSub, Nat.reduceMul, Int.reduceToNat, Nat.reduceLeDiff])
      | (refine xw ?_; simp only [push_cast, reduceIte, Nat.reduceEqDiff, reduceCtorEq, Nat.reduceAdd, Nat.reduceSub, Nat.reduceMul, Int.reduceToNat, Nat.reduceLeDiff])
      | (refine And.intro (PHeap.le_refl _) (And.intro (fun p hp => hp) ?_))
      | (refine And.intro (PHeap.le_refl _) (And.intro (fun p hp => List.mem_cons_of_mem _ hp) ?_))
      | (refine And.intro (PHeap.le_refl _) (And.intro (fun p hp => List.mem_cons_of_mem _ (List.mem_cons_of_mem _ hp)) ?_))
      | (refine And.intro (PHeap.le_refl _) (And.intro (mem_of_sub ?_) ?_); focus ((repeat' first | exact List.Sublist.refl _ | exact List.nil_sublist _ | exact List.sublist_append_left _ _ | refine List.Sublist.cons_cons _ ?_ | refine List.Sublist.append_left ?_ _ | refine List.sublist_append_of_sublist_right ?_ | refine List.Sublist.cons _ ?_); done); try simp only [push_cast, reduceIte, Nat.reduceEqDiff, reduceCtorEq, Nat.reduceAdd, Nat.reduceSub, Nat.reduceMul, Int.reduceToNat, Nat.reduceLeDiff])
      | (exfalso; simp at hc; done)
      | (exfalso; omega)
      | exact false
      | fail "stuck"
  refine EV.to (ρ' := [(0, .slice a l.length c), (1, .func (.func 58) #[] #[]), (7, vi l.length), (8, vi (0 : Nat))]) (G' := []) ?_ ?env0 (by simp)
  case env0 =>
    repeat' first
      | (refine List.forall_mem_cons.2 (And.intro ?_ ?_))
      | (intro _ hnil; cases hnil; done)
      | rfl
      | (refine env_w64 rfl (by first | rfl | (push_cast; first | rfl | omega)) (by omega) (by omega); done)
      | (simp (disch := omega) only [get_cons, get_nil, reduceIte, Nat.reduceEqDiff, Option.some.injEq, Value.int.injEq, w64, Int.natCast_add, Int.natCast_one, Int.cast_ofNat_Int, Int.natCast_zero]; done)
  refine EV.loop (fun i : Nat => ([(0, .slice a l.length c), (1, .func (.func 58) #[] #[]), (7, vi l.length), (8, vi i)], M, [])) (fun i => i ≤ l.length ∧ (l.take i).any (fun x => decide (0 < x)) = false) (fun i => l.length - i) 0 (by simp) ?_
  intro i ⟨hi, hok⟩ ih
  dsimp only at ih ⊢
  repeat' first
      | refine EV.seq ?_
      | refine EV.skip ?_
      | refine EV.block ?_
      | refine EV.inBlock ?_
      | (refine EV.reg ?_; (conv => (arg 2; whnf)); simp only [push_cast, reduceIte, Nat.reduceEqDiff, reduceCtorEq, Nat.reduceAdd, Nat.reduceSub, Nat.reduceMul, Int.reduceToNat, Nat.reduceLeDiff])
      | (refine EV.any _ (List.Sublist.refl _) ?_; (conv => (arg 2; whnf)); simp only [push_cast, reduceIte, Nat.reduceEqDiff, reduceCtorEq, Nat.reduceAdd, Nat.reduceSub, Nat.reduceMul, Int.reduceToNat, Nat.reduceLeDiff])
      | assumption
      | (refine condW.merge ?_ (fun hc K' hK => ?_) ?_; rotate_left)
      | (refine condQ.mk ?_ (fun hc => ?_) ?_; rotate_left; (try simp only [decide_eq_true_eq, decide_eq_false_iff_not, Bool.not_eq_true', Bool.not_eq_false', Bool.and_eq_true, Bool.or_eq_true, Bool.and_eq_false_iff, Bool.or_eq_false_iff] at hc))
      | (with_reducible rfl)
      | ((refine EV.cond rfl (fun h => ?_) (fun h => ?_) <;> try simp only [reduceCtorEq, reduceIte, if_true, if_false, Bool.not_eq_true', Bool.not_eq_false', decide_eq_true_eq, decide_eq_false_iff_not, Bool.and_eq_true, Bool.or_eq_true, Bool.and_eq_false_iff, Bool.or_eq_false_iff] at h) <;> try (exfalso; first | exact h True.intro | (exact h; done) | omega))
      | (refine EV.exit rfl ?_)
      | (with_reducible intro b; try simp only [push_cast, reduceIte, Nat.reduceEqDiff, reduceCtorEq, Nat.reduceAdd, Nat.reduceSub, Nat.reduceMul, Int.reduceToNat, Nat.reduceLeDiff])
      | with_reducible intro b
      | (refine And.intro (by omega) ?_)
      | (refine Exists.intro _ (And.intro (rd_M (by assumption)) ?_); try simp only [push_cast, reduceIte, Nat.reduceEqDiff, reduceCtorEq, Nat.reduceAdd, Nat.reduceSub, Nat.reduceMul, Int.reduceToNat, Nat.reduceLeDiff])
      | (refine Exists.intro _ (Exists.intro _ (Exists.intro _ (And.intro (rd_M (by assumption)) ?_))); try simp only [push_cast, reduceIte, Nat.reduceEqDiff, reduceCtorEq, Nat.reduceAdd, Nat.reduceSub, Nat.reduceMul, Int.reduceToNat, Nat.reduceLeDiff])
      | (refine Exists.intro _ (And.intro (by assumption) ?_); try simp only [push_cast, reduceIte, Nat.reduceEqDiff, reduceCtorEq, Nat.reduceAdd, Nat.reduceSub, Nat.reduceMul, Int.reduceToNat, Nat.reduceLeDiff])
      | (refine Exists.intro _ (Exists.intro _ (Exists.intro _ (And.intro (by assumption) ?_))); try simp only [push_cast, reduceIte, Nat.reduceEqDiff, reduceCtorEq, Nat.reduceAdd, Nat.reduceSub, Nat.reduceMul, Int.reduceToNat, Nat.reduceLeDiff])
      | (refine xr rfl (by simp only [List.length_cons, List.length_nil]; omega) ?_; try simp only [push_cast, reduceIte, Nat.reduceEqDiff, reduceCtorEq, Nat.reduceAdd, Nat.reduceSub, Nat.reduceMul, Int.reduceToNat, Nat.reduceLeDiff])
      | (refine xi rfl (by simp only [List.length_cons, List.length_nil]; omega) ?_; try simp only [push_cast, reduceIte, Nat.reduceEqDiff, reduceCtorEq, Nat.reduceAdd, Nat.reduceSub, Nat.reduceMul, Int.reduceToNat, Nat.reduceLeDiff])
      | (refine xs rfl (by simp only [List.length_cons, List.length_nil]; omega) ?_; try simp only [push_cast, reduceIte, Nat.reduceEqDiff, reduceCtorEq, Nat.reduceAdd, Nat.reduceSub, Nat.reduceMul, Int.reduceToNat, Nat.reduceLeDiff])
      | (refine xw ?_; simp only [push_cast, reduceIte, Nat.reduceEqDiff, reduceCtorEq, Nat.reduceAdd, Nat.reduceSub, Nat.reduceMul, Int.reduceToNat, Nat.reduceLeDiff])
      | (refine And.intro (PHeap.le_refl _) (And.intro (fun p hp => hp) ?_))
      | (refine And.intro (PHeap.le_refl _) (And.intro (fun p hp => List.mem_cons_of_mem _ hp) ?_))
      | (refine And.intro (PHeap.le_refl _) (And.intro (fun p hp => List.mem_cons_of_mem _ (List.mem_cons_of_mem _ hp)) ?_))
      | (refine And.intro (PHeap.le_refl _) (And.intro (mem_of_sub ?_) ?_); focus ((repeat' first | exact List.Sublist.refl _ | exact List.nil_sublist _ | exact List.sublist_append_left _ _ | refine List.Sublist.cons_cons _ ?_ | refine List.Sublist.append_left ?_ _ | refine List.sublist_append_of_sublist_right ?_ | refine List.Sublist.cons _ ?_); done); try simp only [push_cast, reduceIte, Nat.reduceEqDiff, reduceCtorEq, Nat.reduceAdd, Nat.reduceSub, Nat.reduceMul, Int.reduceToNat, Nat.reduceLeDiff])
      | (exfalso; simp at hc; done)
      | (exfalso; omega)
      | exact false
      | fail "stuck"
  · have hi' : i < l.length := by omega
    obtain ⟨lb, lo, rfl, hat⟩ : ∃ lb lo, a = some ⟨lb, lo, none⟩ ∧ rd M lb (lo + i) 1 [vi l[i]] := by
      rcases hrow with ⟨h0, _⟩ | ⟨lb, lo, e, hr⟩
      · omega
      · refine ⟨lb, lo, e, ?_⟩
        have := hr.part' i 1 (by omega) (map_part vi l hi')
        rwa [getB hi'] at this
    repeat' first
        | refine EV.seq ?_
        | refine EV.skip ?_
        | refine EV.block ?_
        | refine EV.inBlock ?_
        | (refine EV.reg ?_; (conv => (arg 2; whnf)); simp only [push_cast, reduceIte, Nat.reduceEqDiff, reduceCtorEq, Nat.reduceAdd, Nat.reduceSub, Nat.reduceMul, Int.reduceToNat, Nat.reduceLeDiff])
        | (refine EV.any _ (List.Sublist.refl _) ?_; (conv => (arg 2; whnf)); simp only [push_cast, reduceIte, Nat.reduceEqDiff, reduceCtorEq, Nat.reduceAdd, Nat.reduceSub, Nat.reduceMul, Int.reduceToNat, Nat.reduceLeDiff])
        | (refine ConQ.call (view_Over_S1_q _) ?_; try simp only [push_cast, reduceIte, Nat.reduceEqDiff, reduceCtorEq, Nat.reduceAdd, Nat.reduceSub, Nat.reduceMul, Int.reduceToNat, Nat.reduceLeDiff])
        | (refine Exists.intro _ (And.intro (view_Over_S1_q _) ?_); try simp only [push_cast, reduceIte, Nat.reduceEqDiff, reduceCtorEq, Nat.reduceAdd, Nat.reduceSub, Nat.reduceMul, Int.reduceToNat, Nat.reduceLeDiff])
        | assumption
        | (refine condW.merge ?_ (fun hc K' hK => ?_) ?_; rotate_left)
        | (refine condQ.mk ?_ (fun hc => ?_) ?_; rotate_left; (try simp only [decide_eq_true_eq, decide_eq_false_iff_not, Bool.not_eq_true', Bool.not_eq_false', Bool.and_eq_true, Bool.or_eq_true, Bool.and_eq_false_iff, Bool.or_eq_false_iff] at hc))
        | (with_reducible rfl)
        | ((refine EV.cond rfl (fun h => ?_) (fun h => ?_) <;> try simp only [reduceCtorEq, reduceIte, if_true, if_false, Bool.not_eq_true', Bool.not_eq_false', decide_eq_true_eq, decide_eq_false_iff_not, Bool.and_eq_true, Bool.or_eq_true, Bool.and_eq_false_iff, Bool.or_eq_false_iff] at h) <;> try (exfalso; first | exact h True.intro | (exact h; done) | omega))
        | (refine EV.exit rfl ?_)
        | (refine EV.ret R_slices_IndexFunc_Lint_int_ok ?_; simp only [push_cast, reduceIte, Nat.reduceEqDiff, reduceCtorEq, Nat.reduceAdd, Nat.reduceSub, Nat.reduceMul, Int.reduceToNat, Nat.reduceLeDiff, R_slices_IndexFunc_Lint_int])
        | (with_reducible intro b; try simp only [push_cast, reduceIte, Nat.reduceEqDiff, reduceCtorEq, Nat.reduceAdd, Nat.reduceSub, Nat.reduceMul, Int.reduceToNat, Nat.reduceLeDiff])
        | with_reducible intro b
        | (refine And.intro (by omega) ?_)
        | (refine Exists.intro _ (And.intro (rd_M (by assumption)) ?_); try simp only [push_cast, reduceIte, Nat.reduceEqDiff, reduceCtorEq, Nat.reduceAdd, Nat.reduceSub, Nat.reduceMul, Int.reduceToNat, Nat.reduceLeDiff])
        | (refine Exists.intro _ (Exists.intro _ (Exists.intro _ (And.intro (rd_M (by assumption)) ?_))); try simp only [push_cast, reduceIte, Nat.reduceEqDiff, reduceCtorEq, Nat.reduceAdd, Nat.reduceSub, Nat.reduceMul, Int.reduceToNat, Nat.reduceLeDiff])
        | (refine Exists.intro _ (And.intro (by assumption) ?_); try simp only [push_cast, reduceIte, Nat.reduceEqDiff, reduceCtorEq, Nat.reduceAdd, Nat.reduceSub, Nat.reduceMul, Int.reduceToNat, Nat.reduceLeDiff])
        | (refine Exists.intro _ (Exists.intro _ (Exists.intro _ (And.intro (by assumption) ?_))); try simp only [push_cast, reduceIte, Nat.reduceEqDiff, reduceCtorEq, Nat.reduceAdd, Nat.reduceSub, Nat.reduceMul, Int.reduceToNat, Nat.reduceLeDiff])
        | (refine xr rfl (by simp only [List.length_cons, List.length_nil]; omega) ?_; try simp only [push_cast, reduceIte, Nat.reduceEqDiff, reduceCtorEq, Nat.reduceAdd, Nat.reduceSub, Nat.reduceMul, Int.reduceToNat, Nat.reduceLeDiff])
        | (refine xi rfl (by simp only [List.length_cons, List.length_nil]; omega) ?_; try simp only [push_cast, reduceIte, Nat.reduceEqDiff, reduceCtorEq, Nat.reduceAdd, Nat.reduceSub, Nat.reduceMul, Int.reduceToNat, Nat.reduceLeDiff])
        | (refine xs rfl (by simp only [List.length_cons, List.length_nil]; omega) ?_; try simp only [push_cast, reduceIte, Nat.reduceEqDiff, reduceCtorEq, Nat.reduceAdd, Nat.reduceSub, Nat.reduceMul, Int.reduceToNat, Nat.reduceLeDiff])
        | (refine xw ?_; simp only [push_cast, reduceIte, Nat.reduceEqDiff, reduceCtorEq, Nat.reduceAdd, Nat.reduceSub, Nat.reduceMul, Int.reduceToNat, Nat.reduceLeDiff])
        | (refine And.intro (PHeap.le_refl _) (And.intro (fun p hp => hp) ?_))
        | (refine And.intro (PHeap.le_refl _) (And.intro (fun p hp => List.mem_cons_of_mem _ hp) ?_))
        | (refine And.intro (PHeap.le_refl _) (And.intro (fun p hp => List.mem_cons_of_mem _ (List.mem_cons_of_mem _ hp)) ?_))
        | (refine And.intro (PHeap.le_refl _) (And.intro (mem_of_sub ?_) ?_); focus ((repeat' first | exact List.Sublist.refl _ | exact List.nil_sublist _ | exact List.sublist_append_left _ _ | refine List.Sublist.cons_cons _ ?_ | refine List.Sublist.append_left ?_ _ | refine List.sublist_append_of_sublist_right ?_ | refine List.Sublist.cons _ ?_); done); try simp only [push_cast, reduceIte, Nat.reduceEqDiff, reduceCtorEq, Nat.reduceAdd, Nat.reduceSub, Nat.reduceMul, Int.reduceToNat, Nat.reduceLeDiff])
        | (exfalso; simp at hc; done)
        | (exfalso; omega)
        | exact false
        | fail "stuck"
    · refine ⟨_, rfl, ?_⟩
      simp only [List.any_eq_true]
      exact ⟨fun _ => ⟨l[i], List.getElem_mem _, by simpa using h⟩, fun _ => by omega⟩
    · refine EV.to (ih (i + 1) ⟨by omega, ?_⟩ (by omega)) ?_ (by simp)
      · rw [List.take_succ_eq_append_getElem hi', List.any_append, hok]
        simpa using h
      · repeat' first
          | (refine List.forall_mem_cons.2 (And.intro ?_ ?_))
          | (intro _ hnil; cases hnil; done)
          | rfl
          | (refine env_w64 rfl (by first | rfl | (push_cast; first | rfl | omega)) (by omega) (by omega); done)
          | (simp (disch := omega) only [get_cons, get_nil, reduceIte, Nat.reduceEqDiff, Option.some.injEq, Value.int.injEq, w64, Int.natCast_add, Int.natCast_one, Int.cast_ofNat_Int, Int.natCast_zero]; done)
  · repeat' first
      | refine EV.seq ?_
      | refine EV.skip ?_
      | refine EV.block ?_
      | refine EV.inBlock ?_
      | (refine EV.reg ?_; (conv => (arg 2; whnf)); simp only [push_cast, reduceIte, Nat.reduceEqDiff, reduceCtorEq, Nat.reduceAdd, Nat.reduceSub, Nat.reduceMul, Int.reduceToNat, Nat.reduceLeDiff])
      | (refine EV.any _ (List.Sublist.refl _) ?_; (conv => (arg 2; whnf)); simp only [push_cast, reduceIte, Nat.reduceEqDiff, reduceCtorEq, Nat.reduceAdd, Nat.reduceSub, Nat.reduceMul, Int.reduceToNat, Nat.reduceLeDiff])
      | assumption
      | (refine condW.merge ?_ (fun hc K' hK => ?_) ?_; rotate_left)
      | (refine condQ.mk ?_ (fun hc => ?_) ?_; rotate_left; (try simp only [decide_eq_true_eq, decide_eq_false_iff_not, Bool.not_eq_true', Bool.not_eq_false', Bool.and_eq_true, Bool.or_eq_true, Bool.and_eq_false_iff, Bool.or_eq_false_iff] at hc))
      | (with_reducible rfl)
      | ((refine EV.cond rfl (fun h => ?_) (fun h => ?_) <;> try simp only [reduceCtorEq, reduceIte, if_true, if_false, Bool.not_eq_true', Bool.not_eq_false', decide_eq_true_eq, decide_eq_false_iff_not, Bool.and_eq_true, Bool.or_eq_true, Bool.and_eq_false_iff, Bool.or_eq_false_iff] at h) <;> try (exfalso; first | exact h True.intro | (exact h; done) | omega))
      | (refine EV.exit rfl ?_)
      | (refine EV.ret R_slices_IndexFunc_Lint_int_ok ?_; simp only [push_cast, reduceIte, Nat.reduceEqDiff, reduceCtorEq, Nat.reduceAdd, Nat.reduceSub, Nat.reduceMul, Int.reduceToNat, Nat.reduceLeDiff, R_slices_IndexFunc_Lint_int])
      | (with_reducible intro b; try simp only [push_cast, reduceIte, Nat.reduceEqDiff, reduceCtorEq, Nat.reduceAdd, Nat.reduceSub, Nat.reduceMul, Int.reduceToNat, Nat.reduceLeDiff])
      | with_reducible intro b
      | (refine And.intro (by omega) ?_)
      | (refine Exists.intro _ (And.intro (rd_M (by assumption)) ?_); try simp only [push_cast, reduceIte, Nat.reduceEqDiff, reduceCtorEq, Nat.reduceAdd, Nat.reduceSub, Nat.reduceMul, Int.reduceToNat, Nat.reduceLeDiff])
      | (refine Exists.intro _ (Exists.intro _ (Exists.intro _ (And.intro (rd_M (by assumption)) ?_))); try simp only [push_cast, reduceIte, Nat.reduceEqDiff, reduceCtorEq, Nat.reduceAdd, Nat.reduceSub, Nat.reduceMul, Int.reduceToNat, Nat.reduceLeDiff])
      | (refine Exists.intro _ (And.intro (by assumption) ?_); try simp only [push_cast, reduceIte, Nat.reduceEqDiff, reduceCtorEq, Nat.reduceAdd, Nat.reduceSub, Nat.reduceMul, Int.reduceToNat, Nat.reduceLeDiff])
      | (refine Exists.intro _ (Exists.intro _ (Exists.intro _ (And.intro (by assumption) ?_))); try simp only [push_cast, reduceIte, Nat.reduceEqDiff, reduceCtorEq, Nat.reduceAdd, Nat.reduceSub, Nat.reduceMul, Int.reduceToNat, Nat.reduceLeDiff])
      | (refine xr rfl (by simp only [List.length_cons, List.length_nil]; omega) ?_; try simp only [push_cast, reduceIte, Nat.reduceEqDiff, reduceCtorEq, Nat.reduceAdd, Nat.reduceSub, Nat.reduceMul, Int.reduceToNat, Nat.reduceLeDiff])
      | (refine xi rfl (by simp only [List.length_cons, List.length_nil]; omega) ?_; try simp only [push_cast, reduceIte, Nat.reduceEqDiff, reduceCtorEq, Nat.reduceAdd, Nat.reduceSub, Nat.reduceMul, Int.reduceToNat, Nat.reduceLeDiff])
      | (refine xs rfl (by simp only [List.length_cons, List.length_nil]; omega) ?_; try simp only [push_cast, reduceIte, Nat.reduceEqDiff, reduceCtorEq, Nat.reduceAdd, Nat.reduceSub, Nat.reduceMul, Int.reduceToNat, Nat.reduceLeDiff])
      | (refine xw ?_; simp only [push_cast, reduceIte, Nat.reduceEqDiff, reduceCtorEq, Nat.reduceAdd, Nat.reduceSub, Nat.reduceMul, Int.reduceToNat, Nat.reduceLeDiff])
      | (refine And.intro (PHeap.le_refl _) (And.intro (fun p hp => hp) ?_))
      | (refine And.intro (PHeap.le_refl _) (And.intro (fun p hp => List.mem_cons_of_mem _ hp) ?_))
      | (refine And.intro (PHeap.le_refl _) (And.intro (fun p hp => List.mem_cons_of_mem _ (List.mem_cons_of_mem _ hp)) ?_))
      | (refine And.intro (PHeap.le_refl _) (And.intro (mem_of_sub ?_) ?_); focus ((repeat' first | exact List.Sublist.refl _ | exact List.nil_sublist _ | exact List.sublist_append_left _ _ | refine List.Sublist.cons_cons _ ?_ | refine List.Sublist.append_left ?_ _ | refine List.sublist_append_of_sublist_right ?_ | refine List.Sublist.cons _ ?_); done); try simp only [push_cast, reduceIte, Nat.reduceEqDiff, reduceCtorEq, Nat.reduceAdd, Nat.reduceSub, Nat.reduceMul, Int.reduceToNat, Nat.reduceLeDiff])
      | (exfalso; simp at hc; done)
      | (exfalso; omega)
      | exact false
      | fail "stuck"
    have hi3 : i = l.length := by omega
    subst hi3
    rw [List.take_length] at hok
    refine ⟨_, rfl, ?_⟩
    simp [hok]

theorem slices_ContainsFunc_q (l : List Int) (a : Option Addr) (c : Nat) (hrow : rdS M 1 a l.length (l.map vi)) (hb : l.length < 1000000) : ConQ Try.prog 57 #[.slice a l.length c, .func (.func 58) #[] #[]] M (vb (l.any fun x => decide (0 < x))) := by
  refine Con.enter R_slices_ContainsFunc_Lint_int_ok (args := [.slice a l.length c, .func (.func 58) #[] #[]]) (by simp [R_slices_ContainsFunc_Lint_int]) fun w0 => ?_
  simp only [R_slices_ContainsFunc_Lint_int, argE]
  repeat' first
      | refine EV.seq ?_
      | refine EV.skip ?_
      | refine EV.block ?_
      | refine EV.inBlock ?_
      | (refine EV.reg ?_; (conv => (arg 2; whnf)); simp only [push_cast, reduceIte, Nat.reduceEqDiff, reduceCtorEq, Nat.reduceAdd, Nat.reduceSub, Nat.reduceMul, Int.reduceToNat, Nat.reduceLeDiff])
      | (refine EV.any _ (List.Sublist.refl _) ?_; (conv => (arg 2; whnf)); simp only [push_cast, reduceIte, Nat.reduceEqDiff, reduceCtorEq, Nat.reduceAdd, Nat.reduceSub, Nat.reduceMul, Int.reduceToNat, Nat.reduceLeDiff])
      | assumption
      | (refine condW.merge ?_ (fun hc K' hK => ?_) ?_; rotate_left)
      | (refine condQ.mk ?_ (fun hc => ?_) ?_; rotate_left; (try simp only [decide_eq_true_eq, decide_eq_false_iff_not, Bool.not_eq_true', Bool.not_eq_false', Bool.and_eq_true, Bool.or_eq_true, Bool.and_eq_false_iff, Bool.or_eq_false_iff] at hc))
      | (with_reducible rfl)
      | ((refine EV.cond rfl (fun h => ?_) (fun h => ?_) <;> try simp only [reduceCtorEq, reduceIte, if_true, if_false, Bool.not_eq_true', Bool.not_eq_false', decide_eq_true_eq, decide_eq_false_iff_not, Bool.and_eq_true, Bool.or_eq_true, Bool.and_eq_false_iff, Bool.or_eq_false_iff] at h) <;> try (exfalso; first | exact h True.intro | (exact h; done) | omega))
      | (refine EV.exit rfl ?_)
      | (refine EV.ret R_slices_ContainsFunc_Lint_int_ok ?_; simp only [push_cast, reduceIte, Nat.reduceEqDiff, reduceCtorEq, Nat.reduceAdd, Nat.reduceSub, Nat.reduceMul, Int.reduceToNat, Nat.reduceLeDiff, R_slices_ContainsFunc_Lint_int])
      | (with_reducible intro b; try simp only [push_cast, reduceIte, Nat.reduceEqDiff, reduceCtorEq, Nat.reduceAdd, Nat.reduceSub, Nat.reduceMul, Int.reduceToNat, Nat.reduceLeDiff])
      | with_reducible intro b
      | (refine And.intro (by omega) ?_)
      | (refine Exists.intro _ (And.intro (rd_M (by assumption)) ?_); try simp only [push_cast, reduceIte, Nat.reduceEqDiff, reduceCtorEq, Nat.reduceAdd, Nat.reduceSub, Nat.reduceMul, Int.reduceToNat, Nat.reduceLeDiff])
      | (refine Exists.intro _ (Exists.intro _ (Exists.intro _ (And.intro (rd_M (by assumption)) ?_))); try simp only [push_cast, reduceIte, Nat.reduceEqDiff, reduceCtorEq, Nat.reduceAdd, Nat.reduceSub, Nat.reduceMul, Int.reduceToNat, Nat.reduceLeDiff])
      | (refine Exists.intro _ (And.intro (by assumption) ?_); try simp only [push_cast, reduceIte, Nat.reduceEqDiff, reduceCtorEq, Nat.reduceAdd, Nat.reduceSub, Nat.reduceMul, Int.reduceToNat, Nat.reduceLeDiff])
      | (refine Exists.intro _ (Exists.intro _ (Exists.intro _ (And.intro (by assumption) ?_))); try simp only [push_cast, reduceIte, Nat.reduceEqDiff, reduceCtorEq, Nat.reduceAdd, Nat.reduceSub, Nat.reduceMul, Int.reduceToNat, Nat.reduceLeDiff])
      | (refine xr rfl (by simp only [List.length_cons, List.length_nil]; omega) ?_; try simp only [push_cast, reduceIte, Nat.reduceEqDiff, reduceCtorEq, Nat.reduceAdd, Nat.reduceSub, Nat.reduceMul, Int.reduceToNat, Nat.reduceLeDiff])
      | (refine xi rfl (by simp only [List.length_cons, List.length_nil]; omega) ?_; try simp only [push_cast, reduceIte, Nat.reduceEqDiff, reduceCtorEq, Nat.reduceAdd, Nat.reduceSub, Nat.reduceMul, Int.reduceToNat, Nat.reduceLeDiff])
      | (refine xs rfl (by simp only [List.length_cons, List.length_nil]; omega) ?_; try simp only [push_cast, reduceIte, Nat.reduceEqDiff, reduceCtorEq, Nat.reduceAdd, Nat.reduceSub, Nat.reduceMul, Int.reduceToNat, Nat.reduceLeDiff])
      | (refine xw ?_; simp only [push_cast, reduceIte, Nat.reduceEqDiff, reduceCtorEq, Nat.reduceAdd, Nat.reduceSub, Nat.reduceMul, Int.reduceToNat, Nat.reduceLeDiff])
      | (refine And.intro (PHeap.le_refl _) (And.intro (fun p hp => hp) ?_))
      | (refine And.intro (PHeap.le_refl _) (And.intro (fun p hp => List.mem_cons_of_mem _ hp) ?_))
      | (refine And.intro (PHeap.le_refl _) (And.intro (fun p hp => List.mem_cons_of_mem _ (List.mem_cons_of_mem _ hp)) ?_))
      | (refine And.intro (PHeap.le_refl _) (And.intro (mem_of_sub ?_) ?_); focus ((repeat' first | exact List.Sublist.refl _ | exact List.nil_sublist _ | exact List.sublist_append_left _ _ | refine List.Sublist.cons_cons _ ?_ | refine List.Sublist.append_left ?_ _ | refine List.sublist_append_of_sublist_right ?_ | refine List.Sublist.cons _ ?_); done); try simp only [push_cast, reduceIte, Nat.reduceEqDiff, reduceCtorEq, Nat.reduceAdd, Nat.reduceSub, Nat.reduceMul, Int.reduceToNat, Nat.reduceLeDiff])
      | (exfalso; simp at hc; done)
      | (exfalso; omega)
      | exact false
      | fail "stuck"
  refine Con.callA (G1 := []) (slices_IndexFunc_c l a c hrow hb) (List.Perm.refl _) ?_
  rintro v M' G' _ ⟨n, rfl, hn⟩
  repeat' first
      | refine EV.seq ?_
      | refine EV.skip ?_
      | refine EV.block ?_
      | refine EV.inBlock ?_
      | (refine EV.reg ?_; (conv => (arg 2; whnf)); simp only [push_cast, reduceIte, Nat.reduceEqDiff, reduceCtorEq, Nat.reduceAdd, Nat.reduceSub, Nat.reduceMul, Int.reduceToNat, Nat.reduceLeDiff])
      | (refine EV.any _ (List.Sublist.refl _) ?_; (conv => (arg 2; whnf)); simp only [push_cast, reduceIte, Nat.reduceEqDiff, reduceCtorEq, Nat.reduceAdd, Nat.reduceSub, Nat.reduceMul, Int.reduceToNat, Nat.reduceLeDiff])
      | assumption
      | (refine condW.merge ?_ (fun hc K' hK => ?_) ?_; rotate_left)
      | (refine condQ.mk ?_ (fun hc => ?_) ?_; rotate_left; (try simp only [decide_eq_true_eq, decide_eq_false_iff_not, Bool.not_eq_true', Bool.not_eq_false', Bool.and_eq_true, Bool.or_eq_true, Bool.and_eq_false_iff, Bool.or_eq_false_iff] at hc))
      | (with_reducible rfl)
      | ((refine EV.cond rfl (fun h => ?_) (fun h => ?_) <;> try simp only [reduceCtorEq, reduceIte, if_true, if_false, Bool.not_eq_true', Bool.not_eq_false', decide_eq_true_eq, decide_eq_false_iff_not, Bool.and_eq_true, Bool.or_eq_true, Bool.and_eq_false_iff, Bool.or_eq_false_iff] at h) <;> try (exfalso; first | exact h True.intro | (exact h; done) | omega))
      | (refine EV.exit rfl ?_)
      | (refine EV.ret R_slices_ContainsFunc_Lint_int_ok ?_; simp only [push_cast, reduceIte, Nat.reduceEqDiff, reduceCtorEq, Nat.reduceAdd, Nat.reduceSub, Nat.reduceMul, Int.reduceToNat, Nat.reduceLeDiff, R_slices_ContainsFunc_Lint_int])
      | (with_reducible intro b; try simp only [push_cast, reduceIte, Nat.reduceEqDiff, reduceCtorEq, Nat.reduceAdd, Nat.reduceSub, Nat.reduceMul, Int.reduceToNat, Nat.reduceLeDiff])
      | with_reducible intro b
      | (refine And.intro (by omega) ?_)
      | (refine Exists.intro _ (And.intro (rd_M (by assumption)) ?_); try simp only [push_cast, reduceIte, Nat.reduceEqDiff, reduceCtorEq, Nat.reduceAdd, Nat.reduceSub, Nat.reduceMul, Int.reduceToNat, Nat.reduceLeDiff])
      | (refine Exists.intro _ (Exists.intro _ (Exists.intro _ (And.intro (rd_M (by assumption)) ?_))); try simp only [push_cast, reduceIte, Nat.reduceEqDiff, reduceCtorEq, Nat.reduceAdd, Nat.reduceSub, Nat.reduceMul, Int.reduceToNat, Nat.reduceLeDiff])
      | (refine Exists.intro _ (And.intro (by assumption) ?_); try simp only [push_cast, reduceIte, Nat.reduceEqDiff, reduceCtorEq, Nat.reduceAdd, Nat.reduceSub, Nat.reduceMul, Int.reduceToNat, Nat.reduceLeDiff])
      | (refine Exists.intro _ (Exists.intro _ (Exists.intro _ (And.intro (by assumption) ?_))); try simp only [push_cast, reduceIte, Nat.reduceEqDiff, reduceCtorEq, Nat.reduceAdd, Nat.reduceSub, Nat.reduceMul, Int.reduceToNat, Nat.reduceLeDiff])
      | (refine xr rfl (by simp only [List.length_cons, List.length_nil]; omega) ?_; try simp only [push_cast, reduceIte, Nat.reduceEqDiff, reduceCtorEq, Nat.reduceAdd, Nat.reduceSub, Nat.reduceMul, Int.reduceToNat, Nat.reduceLeDiff])
      | (refine xi rfl (by simp only [List.length_cons, List.length_nil]; omega) ?_; try simp only [push_cast, reduceIte, Nat.reduceEqDiff, reduceCtorEq, Nat.reduceAdd, Nat.reduceSub, Nat.reduceMul, Int.reduceToNat, Nat.reduceLeDiff])
      | (refine xs rfl (by simp only [List.length_cons, List.length_nil]; omega) ?_; try simp only [push_cast, reduceIte, Nat.reduceEqDiff, reduceCtorEq, Nat.reduceAdd, Nat.reduceSub, Nat.reduceMul, Int.reduceToNat, Nat.reduceLeDiff])
      | (refine xw ?_; simp only [push_cast, reduceIte, Nat.reduceEqDiff, reduceCtorEq, Nat.reduceAdd, Nat.reduceSub, Nat.reduceMul, Int.reduceToNat, Nat.reduceLeDiff])
      | (refine And.intro (PHeap.le_refl _) (And.intro (fun p hp => hp) ?_))
      | (refine And.intro (PHeap.le_refl _) (And.intro (fun p hp => List.mem_cons_of_mem _ hp) ?_))
      | (refine And.intro (PHeap.le_refl _) (And.intro (fun p hp => List.mem_cons_of_mem _ (List.mem_cons_of_mem _ hp)) ?_))
      | (refine And.intro (PHeap.le_refl _) (And.intro (mem_of_sub ?_) ?_); focus ((repeat' first | exact List.Sublist.refl _ | exact List.nil_sublist _ | exact List.sublist_append_left _ _ | refine List.Sublist.cons_cons _ ?_ | refine List.Sublist.append_left ?_ _ | refine List.sublist_append_of_sublist_right ?_ | refine List.Sublist.cons _ ?_); done); try simp only [push_cast, reduceIte, Nat.reduceEqDiff, reduceCtorEq, Nat.reduceAdd, Nat.reduceSub, Nat.reduceMul, Int.reduceToNat, Nat.reduceLeDiff])
      | (exfalso; simp at hc; done)
      | (exfalso; omega)
      | exact false
      | fail "stuck"
  rw [Value.bool.injEq, Bool.eq_iff_iff, decide_eq_true_eq]
  exact hn

def VM.over (m : VM) : Bool := !((m.lefts m.thr.length).any fun x => decide (0 < x))

theorem view_Over_q (r : RdM M mp ad m) (wf : m.Wf B) : ConQ Try.prog 26 #[pv mp 0] M (vb m.over) := by
  have ht3 := wf.t3
  have hll : (m.lefts m.thr.length).length = m.thr.length := by simp [VM.lefts]
  refine Con.enter R_view_Machine_Over_ok (args := [pv mp 0]) (by simp [R_view_Machine_Over]) fun w0 => ?_
  simp only [R_view_Machine_Over, argE]
  repeat' first
      | refine EV.seq ?_
      | refine EV.skip ?_
      | refine EV.block ?_
      | refine EV.inBlock ?_
      | (refine EV.reg ?_; (conv => (arg 2; whnf)); simp only [push_cast, reduceIte, Nat.reduceEqDiff, reduceCtorEq, Nat.reduceAdd, Nat.reduceSub, Nat.reduceMul, Int.reduceToNat, Nat.reduceLeDiff])
      | (refine EV.any _ (List.Sublist.refl _) ?_; (conv => (arg 2; whnf)); simp only [push_cast, reduceIte, Nat.reduceEqDiff, reduceCtorEq, Nat.reduceAdd, Nat.reduceSub, Nat.reduceMul, Int.reduceToNat, Nat.reduceLeDiff])
      | (refine ConQ.call (view_there_q (r.mono (PHeap.le_add _ _)) wf) ?_; try simp only [push_cast, reduceIte, Nat.reduceEqDiff, reduceCtorEq, Nat.reduceAdd, Nat.reduceSub, Nat.reduceMul, Int.reduceToNat, Nat.reduceLeDiff])
      | (refine Exists.intro _ (And.intro (view_there_q (r.mono (PHeap.le_add _ _)) wf) ?_); try simp only [push_cast, reduceIte, Nat.reduceEqDiff, reduceCtorEq, Nat.reduceAdd, Nat.reduceSub, Nat.reduceMul, Int.reduceToNat, Nat.reduceLeDiff])
      | (refine condW.intro (fun hc => ?_) (fun hc => ?_) <;> try simp only [ne_eq, Bool.not_true, Bool.not_false, not_true_eq_false, not_false_eq_true, reduceCtorEq] at hc <;> try (exfalso; first | exact hc | omega | (simp at hc; done)))
      | assumption
      | (refine condQ.mk ?_ (fun hc => ?_) ?_; rotate_left; (try simp only [decide_eq_true_eq, decide_eq_false_iff_not, Bool.not_eq_true', Bool.not_eq_false', Bool.and_eq_true, Bool.or_eq_true, Bool.and_eq_false_iff, Bool.or_eq_false_iff] at hc))
      | (with_reducible rfl)
      | ((refine EV.cond rfl (fun h => ?_) (fun h => ?_) <;> try simp only [reduceCtorEq, reduceIte, if_true, if_false, Bool.not_eq_true', Bool.not_eq_false', decide_eq_true_eq, decide_eq_false_iff_not, Bool.and_eq_true, Bool.or_eq_true, Bool.and_eq_false_iff, Bool.or_eq_false_iff] at h) <;> try (exfalso; first | exact h True.intro | (exact h; done) | omega))
      | (refine EV.exit rfl ?_)
      | (with_reducible intro b; try simp only [push_cast, reduceIte, Nat.reduceEqDiff, reduceCtorEq, Nat.reduceAdd, Nat.reduceSub, Nat.reduceMul, Int.reduceToNat, Nat.reduceLeDiff])
      | with_reducible intro b
      | (refine And.intro (by omega) ?_)
      | (refine Exists.intro _ (And.intro (rd_M (by assumption)) ?_); try simp only [push_cast, reduceIte, Nat.reduceEqDiff, reduceCtorEq, Nat.reduceAdd, Nat.reduceSub, Nat.reduceMul, Int.reduceToNat, Nat.reduceLeDiff])
      | (refine Exists.intro _ (Exists.intro _ (Exists.intro _ (And.intro (rd_M (by assumption)) ?_))); try simp only [push_cast, reduceIte, Nat.reduceEqDiff, reduceCtorEq, Nat.reduceAdd, Nat.reduceSub, Nat.reduceMul, Int.reduceToNat, Nat.reduceLeDiff])
      | (refine Exists.intro _ (And.intro (by assumption) ?_); try simp only [push_cast, reduceIte, Nat.reduceEqDiff, reduceCtorEq, Nat.reduceAdd, Nat.reduceSub, Nat.reduceMul, Int.reduceToNat, Nat.reduceLeDiff])
      | (refine Exists.intro _ (Exists.intro _ (Exists.intro _ (And.intro (by assumption) ?_))); try simp only [push_cast, reduceIte, Nat.reduceEqDiff, reduceCtorEq, Nat.reduceAdd, Nat.reduceSub, Nat.reduceMul, Int.reduceToNat, Nat.reduceLeDiff])
      | (refine xr rfl (by simp only [List.length_cons, List.length_nil]; omega) ?_; try simp only [push_cast, reduceIte, Nat.reduceEqDiff, reduceCtorEq, Nat.reduceAdd, Nat.reduceSub, Nat.reduceMul, Int.reduceToNat, Nat.reduceLeDiff])
      | (refine xi rfl (by simp only [List.length_cons, List.length_nil]; omega) ?_; try simp only [push_cast, reduceIte, Nat.reduceEqDiff, reduceCtorEq, Nat.reduceAdd, Nat.reduceSub, Nat.reduceMul, Int.reduceToNat, Nat.reduceLeDiff])
      | (refine xs rfl (by simp only [List.length_cons, List.length_nil]; omega) ?_; try simp only [push_cast, reduceIte, Nat.reduceEqDiff, reduceCtorEq, Nat.reduceAdd, Nat.reduceSub, Nat.reduceMul, Int.reduceToNat, Nat.reduceLeDiff])
      | (refine xw ?_; simp only [push_cast, reduceIte, Nat.reduceEqDiff, reduceCtorEq, Nat.reduceAdd, Nat.reduceSub, Nat.reduceMul, Int.reduceToNat, Nat.reduceLeDiff])
      | (refine And.intro (PHeap.le_refl _) (And.intro (fun p hp => hp) ?_))
      | (refine And.intro (PHeap.le_refl _) (And.intro (fun p hp => List.mem_cons_of_mem _ hp) ?_))
      | (refine And.intro (PHeap.le_refl _) (And.intro (fun p hp => List.mem_cons_of_mem _ (List.mem_cons_of_mem _ hp)) ?_))
      | (refine And.intro (PHeap.le_refl _) (And.intro (mem_of_sub ?_) ?_); focus ((repeat' first | exact List.Sublist.refl _ | exact List.nil_sublist _ | exact List.sublist_append_left _ _ | refine List.Sublist.cons_cons _ ?_ | refine List.Sublist.append_left ?_ _ | refine List.sublist_append_of_sublist_right ?_ | refine List.Sublist.cons _ ?_); done); try simp only [push_cast, reduceIte, Nat.reduceEqDiff, reduceCtorEq, Nat.reduceAdd, Nat.reduceSub, Nat.reduceMul, Int.reduceToNat, Nat.reduceLeDiff])
      | (exfalso; simp at hc; done)
      | (exfalso; omega)
      | exact false
      | fail "stuck"
  refine Con.callB (G1 := []) (view_left_c (r.mono (PHeap.le_add _ _)) wf) (PHeap.le_refl _) (List.Perm.refl _) ?_
  rintro v M' G' ⟨ov, rfl, hov, rfl⟩
  repeat' first
      | refine EV.seq ?_
      | refine EV.skip ?_
      | refine EV.block ?_
      | refine EV.inBlock ?_
      | (refine EV.reg ?_; (conv => (arg 2; whnf)); simp only [push_cast, reduceIte, Nat.reduceEqDiff, reduceCtorEq, Nat.reduceAdd, Nat.reduceSub, Nat.reduceMul, Int.reduceToNat, Nat.reduceLeDiff])
      | (refine EV.any _ (List.Sublist.refl _) ?_; (conv => (arg 2; whnf)); simp only [push_cast, reduceIte, Nat.reduceEqDiff, reduceCtorEq, Nat.reduceAdd, Nat.reduceSub, Nat.reduceMul, Int.reduceToNat, Nat.reduceLeDiff])
      | (refine ConQ.call (slices_ContainsFunc_q _ _ _ (rd_osg (T := 3) hov (fun p hp => by simpa using hp)) (by omega)) ?_; try simp only [push_cast, reduceIte, Nat.reduceEqDiff, reduceCtorEq, Nat.reduceAdd, Nat.reduceSub, Nat.reduceMul, Int.reduceToNat, Nat.reduceLeDiff])
      | (refine Exists.intro _ (And.intro (slices_ContainsFunc_q _ _ _ (rd_osg (T := 3) hov (fun p hp => by simpa using hp)) (by omega)) ?_); try simp only [push_cast, reduceIte, Nat.reduceEqDiff, reduceCtorEq, Nat.reduceAdd, Nat.reduceSub, Nat.reduceMul, Int.reduceToNat, Nat.reduceLeDiff])
      | assumption
      | (refine condW.merge ?_ (fun hc K' hK => ?_) ?_; rotate_left)
      | (refine condQ.mk ?_ (fun hc => ?_) ?_; rotate_left; (try simp only [decide_eq_true_eq, decide_eq_false_iff_not, Bool.not_eq_true', Bool.not_eq_false', Bool.and_eq_true, Bool.or_eq_true, Bool.and_eq_false_iff, Bool.or_eq_false_iff] at hc))
      | (with_reducible rfl)
      | ((refine EV.cond rfl (fun h => ?_) (fun h => ?_) <;> try simp only [reduceCtorEq, reduceIte, if_true, if_false, Bool.not_eq_true', Bool.not_eq_false', decide_eq_true_eq, decide_eq_false_iff_not, Bool.and_eq_true, Bool.or_eq_true, Bool.and_eq_false_iff, Bool.or_eq_false_iff] at h) <;> try (exfalso; first | exact h True.intro | (exact h; done) | omega))
      | (refine EV.exit rfl ?_)
      | (refine EV.ret R_view_Machine_Over_ok ?_; simp only [push_cast, reduceIte, Nat.reduceEqDiff, reduceCtorEq, Nat.reduceAdd, Nat.reduceSub, Nat.reduceMul, Int.reduceToNat, Nat.reduceLeDiff, R_view_Machine_Over])
      | (with_reducible intro b; try simp only [push_cast, reduceIte, Nat.reduceEqDiff, reduceCtorEq, Nat.reduceAdd, Nat.reduceSub, Nat.reduceMul, Int.reduceToNat, Nat.reduceLeDiff])
      | with_reducible intro b
      | (refine And.intro (by omega) ?_)
      | (refine Exists.intro _ (And.intro (rd_M (by assumption)) ?_); try simp only [push_cast, reduceIte, Nat.reduceEqDiff, reduceCtorEq, Nat.reduceAdd, Nat.reduceSub, Nat.reduceMul, Int.reduceToNat, Nat.reduceLeDiff])
      | (refine Exists.intro _ (Exists.intro _ (Exists.intro _ (And.intro (rd_M (by assumption)) ?_))); try simp only [push_cast, reduceIte, Nat.reduceEqDiff, reduceCtorEq, Nat.reduceAdd, Nat.reduceSub, Nat.reduceMul, Int.reduceToNat, Nat.reduceLeDiff])
      | (refine Exists.intro _ (And.intro (by assumption) ?_); try simp only [push_cast, reduceIte, Nat.reduceEqDiff, reduceCtorEq, Nat.reduceAdd, Nat.reduceSub, Nat.reduceMul, Int.reduceToNat, Nat.reduceLeDiff])
      | (refine Exists.intro _ (Exists.intro _ (Exists.intro _ (And.intro (by assumption) ?_))); try simp only [push_cast, reduceIte, Nat.reduceEqDiff, reduceCtorEq, Nat.reduceAdd, Nat.reduceSub, Nat.reduceMul, Int.reduceToNat, Nat.reduceLeDiff])
      | (refine xr rfl (by simp only [List.length_cons, List.length_nil]; omega) ?_; try simp only [push_cast, reduceIte, Nat.reduceEqDiff, reduceCtorEq, Nat.reduceAdd, Nat.reduceSub, Nat.reduceMul, Int.reduceToNat, Nat.reduceLeDiff])
      | (refine xi rfl (by simp only [List.length_cons, List.length_nil]; omega) ?_; try simp only [push_cast, reduceIte, Nat.reduceEqDiff, reduceCtorEq, Nat.reduceAdd, Nat.reduceSub, Nat.reduceMul, Int.reduceToNat, Nat.reduceLeDiff])
      | (refine xs rfl (by simp only [List.length_cons, List.length_nil]; omega) ?_; try simp only [push_cast, reduceIte, Nat.reduceEqDiff, reduceCtorEq, Nat.reduceAdd, Nat.reduceSub, Nat.reduceMul, Int.reduceToNat, Nat.reduceLeDiff])
      | (refine xw ?_; simp only [push_cast, reduceIte, Nat.reduceEqDiff, reduceCtorEq, Nat.reduceAdd, Nat.reduceSub, Nat.reduceMul, Int.reduceToNat, Nat.reduceLeDiff])
      | (refine And.intro (PHeap.le_refl _) (And.intro (fun p hp => hp) ?_))
      | (refine And.intro (PHeap.le_refl _) (And.intro (fun p hp => List.mem_cons_of_mem _ hp) ?_))
      | (refine And.intro (PHeap.le_refl _) (And.intro (fun p hp => List.mem_cons_of_mem _ (List.mem_cons_of_mem _ hp)) ?_))
      | (refine And.intro (PHeap.le_refl _) (And.intro (mem_of_sub ?_) ?_); focus ((repeat' first | exact List.Sublist.refl _ | exact List.nil_sublist _ | exact List.sublist_append_left _ _ | refine List.Sublist.cons_cons _ ?_ | refine List.Sublist.append_left ?_ _ | refine List.sublist_append_of_sublist_right ?_ | refine List.Sublist.cons _ ?_); done); try simp only [push_cast, reduceIte, Nat.reduceEqDiff, reduceCtorEq, Nat.reduceAdd, Nat.reduceSub, Nat.reduceMul, Int.reduceToNat, Nat.reduceLeDiff])
      | (exfalso; simp at hc; done)
      | (exfalso; omega)
      | exact false
      | fail "stuck"
  rfl

theorem view_Over_nil_q : ConQ Try.prog 26 #[.pointer none] M (vb true) := by
  refine Con.enter R_view_Machine_Over_ok (args := [.pointer none]) (by simp [R_view_Machine_Over]) fun w0 => ?_
  simp only [R_view_Machine_Over, argE]
  repeat' first
      | refine EV.seq ?_
      | refine EV.skip ?_
      | refine EV.block ?_
      | refine EV.inBlock ?_
      | (refine EV.reg ?_; (conv => (arg 2; whnf)); simp only [push_cast, reduceIte, Nat.reduceEqDiff, reduceCtorEq, Nat.reduceAdd, Nat.reduceSub, Nat.reduceMul, Int.reduceToNat, Nat.reduceLeDiff])
      | (refine EV.any _ (List.Sublist.refl _) ?_; (conv => (arg 2; whnf)); simp only [push_cast, reduceIte, Nat.reduceEqDiff, reduceCtorEq, Nat.reduceAdd, Nat.reduceSub, Nat.reduceMul, Int.reduceToNat, Nat.reduceLeDiff])
      | (refine ConQ.call (view_there_nil_q) ?_; try simp only [push_cast, reduceIte, Nat.reduceEqDiff, reduceCtorEq, Nat.reduceAdd, Nat.reduceSub, Nat.reduceMul, Int.reduceToNat, Nat.reduceLeDiff])
      | (refine Exists.intro _ (And.intro (view_there_nil_q) ?_); try simp only [push_cast, reduceIte, Nat.reduceEqDiff, reduceCtorEq, Nat.reduceAdd, Nat.reduceSub, Nat.reduceMul, Int.reduceToNat, Nat.reduceLeDiff])
      | (refine condW.intro (fun hc => ?_) (fun hc => ?_) <;> try simp only [ne_eq, Bool.not_true, Bool.not_false, not_true_eq_false, not_false_eq_true, reduceCtorEq] at hc <;> try (exfalso; first | exact hc | omega | (simp at hc; done)))
      | assumption
      | (refine condQ.mk ?_ (fun hc => ?_) ?_; rotate_left; (try simp only [decide_eq_true_eq, decide_eq_false_iff_not, Bool.not_eq_true', Bool.not_eq_false', Bool.and_eq_true, Bool.or_eq_true, Bool.and_eq_false_iff, Bool.or_eq_false_iff] at hc))
      | (with_reducible rfl)
      | ((refine EV.cond rfl (fun h => ?_) (fun h => ?_) <;> try simp only [reduceCtorEq, reduceIte, if_true, if_false, Bool.not_eq_true', Bool.not_eq_false', decide_eq_true_eq, decide_eq_false_iff_not, Bool.and_eq_true, Bool.or_eq_true, Bool.and_eq_false_iff, Bool.or_eq_false_iff] at h) <;> try (exfalso; first | exact h True.intro | (exact h; done) | omega))
      | (refine EV.exit rfl ?_)
      | (refine EV.ret R_view_Machine_Over_ok ?_; simp only [push_cast, reduceIte, Nat.reduceEqDiff, reduceCtorEq, Nat.reduceAdd, Nat.reduceSub, Nat.reduceMul, Int.reduceToNat, Nat.reduceLeDiff, R_view_Machine_Over])
      | (with_reducible intro b; try simp only [push_cast, reduceIte, Nat.reduceEqDiff, reduceCtorEq, Nat.reduceAdd, Nat.reduceSub, Nat.reduceMul, Int.reduceToNat, Nat.reduceLeDiff])
      | with_reducible intro b
      | (refine And.intro (by omega) ?_)
      | (refine Exists.intro _ (And.intro (rd_M (by assumption)) ?_); try simp only [push_cast, reduceIte, Nat.reduceEqDiff, reduceCtorEq, Nat.reduceAdd, Nat.reduceSub, Nat.reduceMul, Int.reduceToNat, Nat.reduceLeDiff])
      | (refine Exists.intro _ (Exists.intro _ (Exists.intro _ (And.intro (rd_M (by assumption)) ?_))); try simp only [push_cast, reduceIte, Nat.reduceEqDiff, reduceCtorEq, Nat.reduceAdd, Nat.reduceSub, Nat.reduceMul, Int.reduceToNat, Nat.reduceLeDiff])
      | (refine Exists.intro _ (And.intro (by assumption) ?_); try simp only [push_cast, reduceIte, Nat.reduceEqDiff, reduceCtorEq, Nat.reduceAdd, Nat.reduceSub, Nat.reduceMul, Int.reduceToNat, Nat.reduceLeDiff])
      | (refine Exists.intro _ (Exists.intro _ (Exists.intro _ (And.intro (by assumption) ?_))); try simp only [push_cast, reduceIte, Nat.reduceEqDiff, reduceCtorEq, Nat.reduceAdd, Nat.reduceSub, Nat.reduceMul, Int.reduceToNat, Nat.reduceLeDiff])
      | (refine xr rfl (by simp only [List.length_cons, List.length_nil]; omega) ?_; try simp only [push_cast, reduceIte, Nat.reduceEqDiff, reduceCtorEq, Nat.reduceAdd, Nat.reduceSub, Nat.reduceMul, Int.reduceToNat, Nat.reduceLeDiff])
      | (refine xi rfl (by simp only [List.length_cons, List.length_nil]; omega) ?_; try simp only [push_cast, reduceIte, Nat.reduceEqDiff, reduceCtorEq, Nat.reduceAdd, Nat.reduceSub, Nat.reduceMul, Int.reduceToNat, Nat.reduceLeDiff])
      | (refine xs rfl (by simp only [List.length_cons, List.length_nil]; omega) ?_; try simp only [push_cast, reduceIte, Nat.reduceEqDiff, reduceCtorEq, Nat.reduceAdd, Nat.reduceSub, Nat.reduceMul, Int.reduceToNat, Nat.reduceLeDiff])
      | (refine xw ?_; simp only [push_cast, reduceIte, Nat.reduceEqDiff, reduceCtorEq, Nat.reduceAdd, Nat.reduceSub, Nat.reduceMul, Int.reduceToNat, Nat.reduceLeDiff])
      | (refine And.intro (PHeap.le_refl _) (And.intro (fun p hp => hp) ?_))
      | (refine And.intro (PHeap.le_refl _) (And.intro (fun p hp => List.mem_cons_of_mem _ hp) ?_))
      | (refine And.intro (PHeap.le_refl _) (And.intro (fun p hp => List.mem_cons_of_mem _ (List.mem_cons_of_mem _ hp)) ?_))
      | (refine And.intro (PHeap.le_refl _) (And.intro (mem_of_sub ?_) ?_); focus ((repeat' first | exact List.Sublist.refl _ | exact List.nil_sublist _ | exact List.sublist_append_left _ _ | refine List.Sublist.cons_cons _ ?_ | refine List.Sublist.append_left ?_ _ | refine List.sublist_append_of_sublist_right ?_ | refine List.Sublist.cons _ ?_); done); try simp only [push_cast, reduceIte, Nat.reduceEqDiff, reduceCtorEq, Nat.reduceAdd, Nat.reduceSub, Nat.reduceMul, Int.reduceToNat, Nat.reduceLeDiff])
      | (exfalso; simp at hc; done)
      | (exfalso; omega)
      | exact false
      | fail "stuck"
  rfl

end
end Go.EV

namespace Go.EV
open Go.Proofs
section
variable {M : PHeap} {mp : Nat} {ad : Ad} {m : VM} {B : Nat}

def VM.bad (m : VM) (who : Int) : Bool := decide (who < 0) || decide ((m.thr.length : Int) ≤ who)
def VM.leftR (m : VM) (who : Int) : Int × Int := if m.bad who then (0, 1) else (m.leftOf who.toNat, 0)
def VM.reachR (m : VM) (who loc : Int) : Int × Int :=
  if m.bad who || decide (loc < 0) || decide (3 ≤ loc) then (0, 1) else (place m.line loc.toNat (m.thr[who.toNat]!.now loc.toNat), 0)
def VM.choicesR (m : VM) (who : Int) : Int × Int :=
  if (m.turn who).2 ≠ 0 then (0, (m.turn who).2) else ((m.choices who.toNat (m.turn who).1).length, 0)

abbrev ie (p : Int × Int) : Value := .tuple #[vi p.1, vi p.2]

theorem bad_no {who : Int} (h : ¬ m.bad who = true) : ∃ w : Nat, who = w ∧ w < m.thr.length := by
  simp [VM.bad] at h
  exact ⟨who.toNat, by omega, by omega⟩
theorem bad_ok {w : Nat} (h : w < m.thr.length) : m.bad w = false := by
  simp [VM.bad]; omega

theorem view_Left_q (r : RdM M mp ad m) (wf : m.Wf B) (who : Int) : ConQ Try.prog 23 #[pv mp 0, vi who] M (ie (m.leftR who)) := by
  have h5 := r.f5
  refine Con.enter R_view_Machine_Left_ok (args := [pv mp 0, vi who]) (by simp [R_view_Machine_Left]) fun w0 => ?_
  simp only [R_view_Machine_Left, argE]
  by_cases hb : m.bad who = true
  · have hb2 : who < 0 ∨ (m.thr.length : Int) ≤ who := by simpa [VM.bad] using hb
    repeat' first
        | refine EV.seq ?_
        | refine EV.skip ?_
        | refine EV.block ?_
        | refine EV.inBlock ?_
        | (refine EV.reg ?_; (conv => (arg 2; whnf)); simp only [push_cast, reduceIte, Nat.reduceEqDiff, reduceCtorEq, Nat.reduceAdd, Nat.reduceSub, Nat.reduceMul, Int.reduceToNat, Nat.reduceLeDiff])
        | (refine EV.any _ (List.Sublist.refl _) ?_; (conv => (arg 2; whnf)); simp only [push_cast, reduceIte, Nat.reduceEqDiff, reduceCtorEq, Nat.reduceAdd, Nat.reduceSub, Nat.reduceMul, Int.reduceToNat, Nat.reduceLeDiff])
        | (refine ConQ.call (view_there_q (r.mono (PHeap.le_add _ _)) wf) ?_; try simp only [push_cast, reduceIte, Nat.reduceEqDiff, reduceCtorEq, Nat.reduceAdd, Nat.reduceSub, Nat.reduceMul, Int.reduceToNat, Nat.reduceLeDiff])
        | (refine Exists.intro _ (And.intro (view_there_q (r.mono (PHeap.le_add _ _)) wf) ?_); try simp only [push_cast, reduceIte, Nat.reduceEqDiff, reduceCtorEq, Nat.reduceAdd, Nat.reduceSub, Nat.reduceMul, Int.reduceToNat, Nat.reduceLeDiff])
        | assumption
        | (refine condW.merge ?_ (fun hc K' hK => ?_) ?_; rotate_left)
        | (refine condQ.mk ?_ (fun hc => ?_) ?_; rotate_left; (try simp only [decide_eq_true_eq, decide_eq_false_iff_not, Bool.not_eq_true', Bool.not_eq_false', Bool.and_eq_true, Bool.or_eq_true, Bool.and_eq_false_iff, Bool.or_eq_false_iff] at hc))
        | (with_reducible rfl)
        | ((refine EV.cond rfl (fun h => ?_) (fun h => ?_) <;> try simp only [reduceCtorEq, reduceIte, if_true, if_false, Bool.not_eq_true', Bool.not_eq_false', decide_eq_true_eq, decide_eq_false_iff_not, Bool.and_eq_true, Bool.or_eq_true, Bool.and_eq_false_iff, Bool.or_eq_false_iff] at h) <;> try (exfalso; first | exact h True.intro | (exact h; done) | omega))
        | (refine EV.exit rfl ?_)
        | (refine EV.ret R_view_Machine_Left_ok ?_; simp only [push_cast, reduceIte, Nat.reduceEqDiff, reduceCtorEq, Nat.reduceAdd, Nat.reduceSub, Nat.reduceMul, Int.reduceToNat, Nat.reduceLeDiff, R_view_Machine_Left])
        | (with_reducible intro b; try simp only [push_cast, reduceIte, Nat.reduceEqDiff, reduceCtorEq, Nat.reduceAdd, Nat.reduceSub, Nat.reduceMul, Int.reduceToNat, Nat.reduceLeDiff])
        | with_reducible intro b
        | (refine And.intro (by omega) ?_)
        | (refine Exists.intro _ (And.intro (rd_M (by assumption)) ?_); try simp only [push_cast, reduceIte, Nat.reduceEqDiff, reduceCtorEq, Nat.reduceAdd, Nat.reduceSub, Nat.reduceMul, Int.reduceToNat, Nat.reduceLeDiff])
        | (refine Exists.intro _ (Exists.intro _ (Exists.intro _ (And.intro (rd_M (by assumption)) ?_))); try simp only [push_cast, reduceIte, Nat.reduceEqDiff, reduceCtorEq, Nat.reduceAdd, Nat.reduceSub, Nat.reduceMul, Int.reduceToNat, Nat.reduceLeDiff])
        | (refine Exists.intro _ (And.intro (by assumption) ?_); try simp only [push_cast, reduceIte, Nat.reduceEqDiff, reduceCtorEq, Nat.reduceAdd, Nat.reduceSub, Nat.reduceMul, Int.reduceToNat, Nat.reduceLeDiff])
        | (refine Exists.intro _ (Exists.intro _ (Exists.intro _ (And.intro (by assumption) ?_))); try simp only [push_cast, reduceIte, Nat.reduceEqDiff, reduceCtorEq, Nat.reduceAdd, Nat.reduceSub, Nat.reduceMul, Int.reduceToNat, Nat.reduceLeDiff])
        | (refine xr rfl (by simp only [List.length_cons, List.length_nil]; omega) ?_; try simp only [push_cast, reduceIte, Nat.reduceEqDiff, reduceCtorEq, Nat.reduceAdd, Nat.reduceSub, Nat.reduceMul, Int.reduceToNat, Nat.reduceLeDiff])
        | (refine xi rfl (by simp only [List.length_cons, List.length_nil]; omega) ?_; try simp only [push_cast, reduceIte, Nat.reduceEqDiff, reduceCtorEq, Nat.reduceAdd, Nat.reduceSub, Nat.reduceMul, Int.reduceToNat, Nat.reduceLeDiff])
        | (refine xs rfl (by simp only [List.length_cons, List.length_nil]; omega) ?_; try simp only [push_cast, reduceIte, Nat.reduceEqDiff, reduceCtorEq, Nat.reduceAdd, Nat.reduceSub, Nat.reduceMul, Int.reduceToNat, Nat.reduceLeDiff])
        | (refine xw ?_; simp only [push_cast, reduceIte, Nat.reduceEqDiff, reduceCtorEq, Nat.reduceAdd, Nat.reduceSub, Nat.reduceMul, Int.reduceToNat, Nat.reduceLeDiff])
        | (refine And.intro (PHeap.le_refl _) (And.intro (fun p hp => hp) ?_))
        | (refine And.intro (PHeap.le_refl _) (And.intro (fun p hp => List.mem_cons_of_mem _ hp) ?_))
        | (refine And.intro (PHeap.le_refl _) (And.intro (fun p hp => List.mem_cons_of_mem _ (List.mem_cons_of_mem _ hp)) ?_))
        | (refine And.intro (PHeap.le_refl _) (And.intro (mem_of_sub ?_) ?_); focus ((repeat' first | exact List.Sublist.refl _ | exact List.nil_sublist _ | exact List.sublist_append_left _ _ | refine List.Sublist.cons_cons _ ?_ | refine List.Sublist.append_left ?_ _ | refine List.sublist_append_of_sublist_right ?_ | refine List.Sublist.cons _ ?_); done); try simp only [push_cast, reduceIte, Nat.reduceEqDiff, reduceCtorEq, Nat.reduceAdd, Nat.reduceSub, Nat.reduceMul, Int.reduceToNat, Nat.reduceLeDiff])
        | (exfalso; simp at hc; done)
        | (exfalso; omega)
        | exact false
        | fail "stuck"
    · simp [VM.leftR, hb]
  · obtain ⟨w, rfl, hw⟩ := bad_no hb
    repeat' first
        | refine EV.seq ?_
        | refine EV.skip ?_
        | refine EV.block ?_
        | refine EV.inBlock ?_
        | (refine EV.reg ?_; (conv => (arg 2; whnf)); simp only [push_cast, reduceIte, Nat.reduceEqDiff, reduceCtorEq, Nat.reduceAdd, Nat.reduceSub, Nat.reduceMul, Int.reduceToNat, Nat.reduceLeDiff])
        | (refine EV.any _ (List.Sublist.refl _) ?_; (conv => (arg 2; whnf)); simp only [push_cast, reduceIte, Nat.reduceEqDiff, reduceCtorEq, Nat.reduceAdd, Nat.reduceSub, Nat.reduceMul, Int.reduceToNat, Nat.reduceLeDiff])
        | (refine ConQ.call (view_there_q (r.mono (PHeap.le_add _ _)) wf) ?_; try simp only [push_cast, reduceIte, Nat.reduceEqDiff, reduceCtorEq, Nat.reduceAdd, Nat.reduceSub, Nat.reduceMul, Int.reduceToNat, Nat.reduceLeDiff])
        | (refine Exists.intro _ (And.intro (view_there_q (r.mono (PHeap.le_add _ _)) wf) ?_); try simp only [push_cast, reduceIte, Nat.reduceEqDiff, reduceCtorEq, Nat.reduceAdd, Nat.reduceSub, Nat.reduceMul, Int.reduceToNat, Nat.reduceLeDiff])
        | assumption
        | (refine condW.merge ?_ (fun hc K' hK => ?_) ?_; rotate_left)
        | (refine condQ.mk ?_ (fun hc => ?_) ?_; rotate_left; (try simp only [decide_eq_true_eq, decide_eq_false_iff_not, Bool.not_eq_true', Bool.not_eq_false', Bool.and_eq_true, Bool.or_eq_true, Bool.and_eq_false_iff, Bool.or_eq_false_iff] at hc))
        | (with_reducible rfl)
        | ((refine EV.cond rfl (fun h => ?_) (fun h => ?_) <;> try simp only [reduceCtorEq, reduceIte, if_true, if_false, Bool.not_eq_true', Bool.not_eq_false', decide_eq_true_eq, decide_eq_false_iff_not, Bool.and_eq_true, Bool.or_eq_true, Bool.and_eq_false_iff, Bool.or_eq_false_iff] at h) <;> try (exfalso; first | exact h True.intro | (exact h; done) | omega))
        | (refine EV.exit rfl ?_)
        | (with_reducible intro b; try simp only [push_cast, reduceIte, Nat.reduceEqDiff, reduceCtorEq, Nat.reduceAdd, Nat.reduceSub, Nat.reduceMul, Int.reduceToNat, Nat.reduceLeDiff])
        | with_reducible intro b
        | (refine And.intro (by omega) ?_)
        | (refine Exists.intro _ (And.intro (rd_M (by assumption)) ?_); try simp only [push_cast, reduceIte, Nat.reduceEqDiff, reduceCtorEq, Nat.reduceAdd, Nat.reduceSub, Nat.reduceMul, Int.reduceToNat, Nat.reduceLeDiff])
        | (refine Exists.intro _ (Exists.intro _ (Exists.intro _ (And.intro (rd_M (by assumption)) ?_))); try simp only [push_cast, reduceIte, Nat.reduceEqDiff, reduceCtorEq, Nat.reduceAdd, Nat.reduceSub, Nat.reduceMul, Int.reduceToNat, Nat.reduceLeDiff])
        | (refine Exists.intro _ (And.intro (by assumption) ?_); try simp only [push_cast, reduceIte, Nat.reduceEqDiff, reduceCtorEq, Nat.reduceAdd, Nat.reduceSub, Nat.reduceMul, Int.reduceToNat, Nat.reduceLeDiff])
        | (refine Exists.intro _ (Exists.intro _ (Exists.intro _ (And.intro (by assumption) ?_))); try simp only [push_cast, reduceIte, Nat.reduceEqDiff, reduceCtorEq, Nat.reduceAdd, Nat.reduceSub, Nat.reduceMul, Int.reduceToNat, Nat.reduceLeDiff])
        | (refine xr rfl (by simp only [List.length_cons, List.length_nil]; omega) ?_; try simp only [push_cast, reduceIte, Nat.reduceEqDiff, reduceCtorEq, Nat.reduceAdd, Nat.reduceSub, Nat.reduceMul, Int.reduceToNat, Nat.reduceLeDiff])
        | (refine xi rfl (by simp only [List.length_cons, List.length_nil]; omega) ?_; try simp only [push_cast, reduceIte, Nat.reduceEqDiff, reduceCtorEq, Nat.reduceAdd, Nat.reduceSub, Nat.reduceMul, Int.reduceToNat, Nat.reduceLeDiff])
        | (refine xs rfl (by simp only [List.length_cons, List.length_nil]; omega) ?_; try simp only [push_cast, reduceIte, Nat.reduceEqDiff, reduceCtorEq, Nat.reduceAdd, Nat.reduceSub, Nat.reduceMul, Int.reduceToNat, Nat.reduceLeDiff])
        | (refine xw ?_; simp only [push_cast, reduceIte, Nat.reduceEqDiff, reduceCtorEq, Nat.reduceAdd, Nat.reduceSub, Nat.reduceMul, Int.reduceToNat, Nat.reduceLeDiff])
        | (refine And.intro (PHeap.le_refl _) (And.intro (fun p hp => hp) ?_))
        | (refine And.intro (PHeap.le_refl _) (And.intro (fun p hp => List.mem_cons_of_mem _ hp) ?_))
        | (refine And.intro (PHeap.le_refl _) (And.intro (fun p hp => List.mem_cons_of_mem _ (List.mem_cons_of_mem _ hp)) ?_))
        | (refine And.intro (PHeap.le_refl _) (And.intro (mem_of_sub ?_) ?_); focus ((repeat' first | exact List.Sublist.refl _ | exact List.nil_sublist _ | exact List.sublist_append_left _ _ | refine List.Sublist.cons_cons _ ?_ | refine List.Sublist.append_left ?_ _ | refine List.sublist_append_of_sublist_right ?_ | refine List.Sublist.cons _ ?_); done); try simp only [push_cast, reduceIte, Nat.reduceEqDiff, reduceCtorEq, Nat.reduceAdd, Nat.reduceSub, Nat.reduceMul, Int.reduceToNat, Nat.reduceLeDiff])
        | (exfalso; simp at hc; done)
        | (exfalso; omega)
        | exact false
        | fail "stuck"
    · exfalso; simp only [false_or, Bool.not_true, reduceCtorEq] at h; omega
    refine Con.callB (G1 := []) (view_left_c (r.mono (PHeap.le_add _ _)) wf) (PHeap.le_refl _) (List.Perm.refl _) ?_
    rintro v M' G' ⟨ov, rfl, hov, rfl⟩
    have hll : (m.lefts m.thr.length).length = m.thr.length := by simp [VM.lefts]
    obtain ⟨⟨ob, oc, os⟩, rfl⟩ : ∃ x, ov = some x := by
      cases ov with
      | none => exfalso; have := hov.1; omega
      | some x => exact ⟨x, rfl⟩
    have hrd : rd (M.add (osg 3 (some (ob, oc, os)) ((m.lefts m.thr.length).map vi))) ob w 1 [vi (m.leftOf w)] := by
      have hr := rd_osg (M := M) (T := 3) hov (fun p hp => hp)
      rcases hr with ⟨h0, _⟩ | ⟨lb, lo, e, hr⟩
      · omega
      · simp only [oad_some, Option.some.injEq, Addr.mk.injEq] at e
        obtain ⟨rfl, rfl, _⟩ := e
        have h3 := hr.part0 w 1 (by omega) (map_part vi (m.lefts m.thr.length) (by omega))
        have h4 : (m.lefts m.thr.length)[w]! = m.leftOf w := by rw [getB (by omega)]; simp [VM.lefts]
        rwa [h4] at h3
    rw [hll] at *
    simp only [push_cast, reduceIte, Nat.reduceEqDiff, reduceCtorEq, Nat.reduceAdd, Nat.reduceSub, Nat.reduceMul, Int.reduceToNat, Nat.reduceLeDiff]
    repeat' first
        | refine EV.seq ?_
        | refine EV.skip ?_
        | refine EV.block ?_
        | refine EV.inBlock ?_
        | (refine EV.reg ?_; (conv => (arg 2; whnf)); simp only [push_cast, reduceIte, Nat.reduceEqDiff, reduceCtorEq, Nat.reduceAdd, Nat.reduceSub, Nat.reduceMul, Int.reduceToNat, Nat.reduceLeDiff])
        | (refine EV.any _ (List.Sublist.refl _) ?_; (conv => (arg 2; whnf)); simp only [push_cast, reduceIte, Nat.reduceEqDiff, reduceCtorEq, Nat.reduceAdd, Nat.reduceSub, Nat.reduceMul, Int.reduceToNat, Nat.reduceLeDiff])
        | assumption
        | (refine condW.merge ?_ (fun hc K' hK => ?_) ?_; rotate_left)
        | (refine condQ.mk ?_ (fun hc => ?_) ?_; rotate_left; (try simp only [decide_eq_true_eq, decide_eq_false_iff_not, Bool.not_eq_true', Bool.not_eq_false', Bool.and_eq_true, Bool.or_eq_true, Bool.and_eq_false_iff, Bool.or_eq_false_iff] at hc))
        | (with_reducible rfl)
        | ((refine EV.cond rfl (fun h => ?_) (fun h => ?_) <;> try simp only [reduceCtorEq, reduceIte, if_true, if_false, Bool.not_eq_true', Bool.not_eq_false', decide_eq_true_eq, decide_eq_false_iff_not, Bool.and_eq_true, Bool.or_eq_true, Bool.and_eq_false_iff, Bool.or_eq_false_iff] at h) <;> try (exfalso; first | exact h True.intro | (exact h; done) | omega))
        | (refine EV.exit rfl ?_)
        | (refine EV.ret R_view_Machine_Left_ok ?_; simp only [push_cast, reduceIte, Nat.reduceEqDiff, reduceCtorEq, Nat.reduceAdd, Nat.reduceSub, Nat.reduceMul, Int.reduceToNat, Nat.reduceLeDiff, R_view_Machine_Left])
        | (with_reducible intro b; try simp only [push_cast, reduceIte, Nat.reduceEqDiff, reduceCtorEq, Nat.reduceAdd, Nat.reduceSub, Nat.reduceMul, Int.reduceToNat, Nat.reduceLeDiff])
        | with_reducible intro b
        | (refine And.intro (by omega) ?_)
        | (refine Exists.intro _ (And.intro (rd_M (by assumption)) ?_); try simp only [push_cast, reduceIte, Nat.reduceEqDiff, reduceCtorEq, Nat.reduceAdd, Nat.reduceSub, Nat.reduceMul, Int.reduceToNat, Nat.reduceLeDiff])
        | (refine Exists.intro _ (Exists.intro _ (Exists.intro _ (And.intro (rd_M (by assumption)) ?_))); try simp only [push_cast, reduceIte, Nat.reduceEqDiff, reduceCtorEq, Nat.reduceAdd, Nat.reduceSub, Nat.reduceMul, Int.reduceToNat, Nat.reduceLeDiff])
        | (refine Exists.intro _ (And.intro (by assumption) ?_); try simp only [push_cast, reduceIte, Nat.reduceEqDiff, reduceCtorEq, Nat.reduceAdd, Nat.reduceSub, Nat.reduceMul, Int.reduceToNat, Nat.reduceLeDiff])
        | (refine Exists.intro _ (Exists.intro _ (Exists.intro _ (And.intro (by assumption) ?_))); try simp only [push_cast, reduceIte, Nat.reduceEqDiff, reduceCtorEq, Nat.reduceAdd, Nat.reduceSub, Nat.reduceMul, Int.reduceToNat, Nat.reduceLeDiff])
        | (refine xr rfl (by simp only [List.length_cons, List.length_nil]; omega) ?_; try simp only [push_cast, reduceIte, Nat.reduceEqDiff, reduceCtorEq, Nat.reduceAdd, Nat.reduceSub, Nat.reduceMul, Int.reduceToNat, Nat.reduceLeDiff])
        | (refine xi rfl (by simp only [List.length_cons, List.length_nil]; omega) ?_; try simp only [push_cast, reduceIte, Nat.reduceEqDiff, reduceCtorEq, Nat.reduceAdd, Nat.reduceSub, Nat.reduceMul, Int.reduceToNat, Nat.reduceLeDiff])
        | (refine xs rfl (by simp only [List.length_cons, List.length_nil]; omega) ?_; try simp only [push_cast, reduceIte, Nat.reduceEqDiff, reduceCtorEq, Nat.reduceAdd, Nat.reduceSub, Nat.reduceMul, Int.reduceToNat, Nat.reduceLeDiff])
        | (refine xw ?_; simp only [push_cast, reduceIte, Nat.reduceEqDiff, reduceCtorEq, Nat.reduceAdd, Nat.reduceSub, Nat.reduceMul, Int.reduceToNat, Nat.reduceLeDiff])
        | (refine And.intro (PHeap.le_refl _) (And.intro (fun p hp => hp) ?_))
        | (refine And.intro (PHeap.le_refl _) (And.intro (fun p hp => List.mem_cons_of_mem _ hp) ?_))
        | (refine And.intro (PHeap.le_refl _) (And.intro (fun p hp => List.mem_cons_of_mem _ (List.mem_cons_of_mem _ hp)) ?_))
        | (refine And.intro (PHeap.le_refl _) (And.intro (mem_of_sub ?_) ?_); focus ((repeat' first | exact List.Sublist.refl _ | exact List.nil_sublist _ | exact List.sublist_append_left _ _ | refine List.Sublist.cons_cons _ ?_ | refine List.Sublist.append_left ?_ _ | refine List.sublist_append_of_sublist_right ?_ | refine List.Sublist.cons _ ?_); done); try simp only [push_cast, reduceIte, Nat.reduceEqDiff, reduceCtorEq, Nat.reduceAdd, Nat.reduceSub, Nat.reduceMul, Int.reduceToNat, Nat.reduceLeDiff])
        | (exfalso; simp at hc; done)
        | (exfalso; omega)
        | exact false
        | fail "stuck"
    all_goals (first | (simp [VM.leftR, bad_ok hw]; done) | fail)

theorem view_Left_nil_q (who : Int) : ConQ Try.prog 23 #[.pointer none, vi who] M (ie (0, 1)) := by
  refine Con.enter R_view_Machine_Left_ok (args := [.pointer none, vi who]) (by simp [R_view_Machine_Left]) fun w0 => ?_
  simp only [R_view_Machine_Left, argE]
  repeat' first
      | refine EV.seq ?_
      | refine EV.skip ?_
      | refine EV.block ?_
      | refine EV.inBlock ?_
      | (refine EV.reg ?_; (conv => (arg 2; whnf)); simp only [push_cast, reduceIte, Nat.reduceEqDiff, reduceCtorEq, Nat.reduceAdd, Nat.reduceSub, Nat.reduceMul, Int.reduceToNat, Nat.reduceLeDiff])
      | (refine EV.any _ (List.Sublist.refl _) ?_; (conv => (arg 2; whnf)); simp only [push_cast, reduceIte, Nat.reduceEqDiff, reduceCtorEq, Nat.reduceAdd, Nat.reduceSub, Nat.reduceMul, Int.reduceToNat, Nat.reduceLeDiff])
      | (refine ConQ.call (view_there_nil_q) ?_; try simp only [push_cast, reduceIte, Nat.reduceEqDiff, reduceCtorEq, Nat.reduceAdd, Nat.reduceSub, Nat.reduceMul, Int.reduceToNat, Nat.reduceLeDiff])
      | (refine Exists.intro _ (And.intro (view_there_nil_q) ?_); try simp only [push_cast, reduceIte, Nat.reduceEqDiff, reduceCtorEq, Nat.reduceAdd, Nat.reduceSub, Nat.reduceMul, Int.reduceToNat, Nat.reduceLeDiff])
      | (refine condW.intro (fun hc => ?_) (fun hc => ?_) <;> try simp only [ne_eq, Bool.not_true, Bool.not_false, not_true_eq_false, not_false_eq_true, reduceCtorEq] at hc <;> try (exfalso; first | exact hc | omega | (simp at hc; done)))
      | assumption
      | (refine condQ.mk ?_ (fun hc => ?_) ?_; rotate_left; (try simp only [decide_eq_true_eq, decide_eq_false_iff_not, Bool.not_eq_true', Bool.not_eq_false', Bool.and_eq_true, Bool.or_eq_true, Bool.and_eq_false_iff, Bool.or_eq_false_iff] at hc))
      | (with_reducible rfl)
      | ((refine EV.cond rfl (fun h => ?_) (fun h => ?_) <;> try simp only [reduceCtorEq, reduceIte, if_true, if_false, Bool.not_eq_true', Bool.not_eq_false', decide_eq_true_eq, decide_eq_false_iff_not, Bool.and_eq_true, Bool.or_eq_true, Bool.and_eq_false_iff, Bool.or_eq_false_iff] at h) <;> try (exfalso; first | exact h True.intro | (exact h; done) | omega))
      | (refine EV.exit rfl ?_)
      | (refine EV.ret R_view_Machine_Left_ok ?_; simp only [push_cast, reduceIte, Nat.reduceEqDiff, reduceCtorEq, Nat.reduceAdd, Nat.reduceSub, Nat.reduceMul, Int.reduceToNat, Nat.reduceLeDiff, R_view_Machine_Left])
      | (with_reducible intro b; try simp only [push_cast, reduceIte, Nat.reduceEqDiff, reduceCtorEq, Nat.reduceAdd, Nat.reduceSub, Nat.reduceMul, Int.reduceToNat, Nat.reduceLeDiff])
      | with_reducible intro b
      | (refine And.intro (by omega) ?_)
      | (refine Exists.intro _ (And.intro (rd_M (by assumption)) ?_); try simp only [push_cast, reduceIte, Nat.reduceEqDiff, reduceCtorEq, Nat.reduceAdd, Nat.reduceSub, Nat.reduceMul, Int.reduceToNat, Nat.reduceLeDiff])
      | (refine Exists.intro _ (Exists.intro _ (Exists.intro _ (And.intro (rd_M (by assumption)) ?_))); try simp only [push_cast, reduceIte, Nat.reduceEqDiff, reduceCtorEq, Nat.reduceAdd, Nat.reduceSub, Nat.reduceMul, Int.reduceToNat, Nat.reduceLeDiff])
      | (refine Exists.intro _ (And.intro (by assumption) ?_); try simp only [push_cast, reduceIte, Nat.reduceEqDiff, reduceCtorEq, Nat.reduceAdd, Nat.reduceSub, Nat.reduceMul, Int.reduceToNat, Nat.reduceLeDiff])
      | (refine Exists.intro _ (Exists.intro _ (Exists.intro _ (And.intro (by assumption) ?_))); try simp only [push_cast, reduceIte, Nat.reduceEqDiff, reduceCtorEq, Nat.reduceAdd, Nat.reduceSub, Nat.reduceMul, Int.reduceToNat, Nat.reduceLeDiff])
      | (refine xr rfl (by simp only [List.length_cons, List.length_nil]; omega) ?_; try simp only [push_cast, reduceIte, Nat.reduceEqDiff, reduceCtorEq, Nat.reduceAdd, Nat.reduceSub, Nat.reduceMul, Int.reduceToNat, Nat.reduceLeDiff])
      | (refine xi rfl (by simp only [List.length_cons, List.length_nil]; omega) ?_; try simp only [push_cast, reduceIte, Nat.reduceEqDiff, reduceCtorEq, Nat.reduceAdd, Nat.reduceSub, Nat.reduceMul, Int.reduceToNat, Nat.reduceLeDiff])
      | (refine xs rfl (by simp only [List.length_cons, List.length_nil]; omega) ?_; try simp only [push_cast, reduceIte, Nat.reduceEqDiff, reduceCtorEq, Nat.reduceAdd, Nat.reduceSub, Nat.reduceMul, Int.reduceToNat, Nat.reduceLeDiff])
      | (refine xw ?_; simp only [push_cast, reduceIte, Nat.reduceEqDiff, reduceCtorEq, Nat.reduceAdd, Nat.reduceSub, Nat.reduceMul, Int.reduceToNat, Nat.reduceLeDiff])
      | (refine And.intro (PHeap.le_refl _) (And.intro (fun p hp => hp) ?_))
      | (refine And.intro (PHeap.le_refl _) (And.intro (fun p hp => List.mem_cons_of_mem _ hp) ?_))
      | (refine And.intro (PHeap.le_refl _) (And.intro (fun p hp => List.mem_cons_of_mem _ (List.mem_cons_of_mem _ hp)) ?_))
      | (refine And.intro (PHeap.le_refl _) (And.intro (mem_of_sub ?_) ?_); focus ((repeat' first | exact List.Sublist.refl _ | exact List.nil_sublist _ | exact List.sublist_append_left _ _ | refine List.Sublist.cons_cons _ ?_ | refine List.Sublist.append_left ?_ _ | refine List.sublist_append_of_sublist_right ?_ | refine List.Sublist.cons _ ?_); done); try simp only [push_cast, reduceIte, Nat.reduceEqDiff, reduceCtorEq, Nat.reduceAdd, Nat.reduceSub, Nat.reduceMul, Int.reduceToNat, Nat.reduceLeDiff])
      | (exfalso; simp at hc; done)
      | (exfalso; omega)
      | exact false
      | fail "stuck"

theorem view_Reach_q (r : RdM M mp ad m) (wf : m.Wf B) (who loc : Int) : ConQ Try.prog 12 #[pv mp 0, vi who, vi loc] M (ie (m.reachR who loc)) := by
  have h5 := r.f5
  refine Con.enter R_view_Machine_Reach_ok (args := [pv mp 0, vi who, vi loc]) (by simp [R_view_Machine_Reach]) fun w0 => ?_
  simp only [R_view_Machine_Reach, argE]
  by_cases hb : (m.bad who || decide (loc < 0) || decide (3 ≤ loc)) = true
  · have hb2 : ((who < 0 ∨ (m.thr.length : Int) ≤ who) ∨ loc < 0) ∨ 3 ≤ loc := by simpa [VM.bad] using hb
    repeat' first
        | refine EV.seq ?_
        | refine EV.skip ?_
        | refine EV.block ?_
        | refine EV.inBlock ?_
        | (refine EV.reg ?_; (conv => (arg 2; whnf)); simp only [push_cast, reduceIte, Nat.reduceEqDiff, reduceCtorEq, Nat.reduceAdd, Nat.reduceSub, Nat.reduceMul, Int.reduceToNat, Nat.reduceLeDiff])
        | (refine EV.any _ (List.Sublist.refl _) ?_; (conv => (arg 2; whnf)); simp only [push_cast, reduceIte, Nat.reduceEqDiff, reduceCtorEq, Nat.reduceAdd, Nat.reduceSub, Nat.reduceMul, Int.reduceToNat, Nat.reduceLeDiff])
        | (refine ConQ.call (view_there_q (r.mono (PHeap.le_add _ _)) wf) ?_; try simp only [push_cast, reduceIte, Nat.reduceEqDiff, reduceCtorEq, Nat.reduceAdd, Nat.reduceSub, Nat.reduceMul, Int.reduceToNat, Nat.reduceLeDiff])
        | (refine Exists.intro _ (And.intro (view_there_q (r.mono (PHeap.le_add _ _)) wf) ?_); try simp only [push_cast, reduceIte, Nat.reduceEqDiff, reduceCtorEq, Nat.reduceAdd, Nat.reduceSub, Nat.reduceMul, Int.reduceToNat, Nat.reduceLeDiff])
        | assumption
        | (refine condW.merge ?_ (fun hc K' hK => ?_) ?_; rotate_left)
        | (refine condQ.mk ?_ (fun hc => ?_) ?_; rotate_left; (try simp only [decide_eq_true_eq, decide_eq_false_iff_not, Bool.not_eq_true', Bool.not_eq_false', Bool.and_eq_true, Bool.or_eq_true, Bool.and_eq_false_iff, Bool.or_eq_false_iff] at hc))
        | (with_reducible rfl)
        | ((refine EV.cond rfl (fun h => ?_) (fun h => ?_) <;> try simp only [reduceCtorEq, reduceIte, if_true, if_false, Bool.not_eq_true', Bool.not_eq_false', decide_eq_true_eq, decide_eq_false_iff_not, Bool.and_eq_true, Bool.or_eq_true, Bool.and_eq_false_iff, Bool.or_eq_false_iff] at h) <;> try (exfalso; first | exact h True.intro | (exact h; done) | omega))
        | (refine EV.exit rfl ?_)
        | (refine EV.ret R_view_Machine_Reach_ok ?_; simp only [push_cast, reduceIte, Nat.reduceEqDiff, reduceCtorEq, Nat.reduceAdd, Nat.reduceSub, Nat.reduceMul, Int.reduceToNat, Nat.reduceLeDiff, R_view_Machine_Reach])
        | (with_reducible intro b; try simp only [push_cast, reduceIte, Nat.reduceEqDiff, reduceCtorEq, Nat.reduceAdd, Nat.reduceSub, Nat.reduceMul, Int.reduceToNat, Nat.reduceLeDiff])
        | with_reducible intro b
        | (refine And.intro (by omega) ?_)
        | (refine Exists.intro _ (And.intro (rd_M (by assumption)) ?_); try simp only [push_cast, reduceIte, Nat.reduceEqDiff, reduceCtorEq, Nat.reduceAdd, Nat.reduceSub, Nat.reduceMul, Int.reduceToNat, Nat.reduceLeDiff])
        | (refine Exists.intro _ (Exists.intro _ (Exists.intro _ (And.intro (rd_M (by assumption)) ?_))); try simp only [push_cast, reduceIte, Nat.reduceEqDiff, reduceCtorEq, Nat.reduceAdd, Nat.reduceSub, Nat.reduceMul, Int.reduceToNat, Nat.reduceLeDiff])
        | (refine Exists.intro _ (And.intro (by assumption) ?_); try simp only [push_cast, reduceIte, Nat.reduceEqDiff, reduceCtorEq, Nat.reduceAdd, Nat.reduceSub, Nat.reduceMul, Int.reduceToNat, Nat.reduceLeDiff])
        | (refine Exists.intro _ (Exists.intro _ (Exists.intro _ (And.intro (by assumption) ?_))); try simp only [push_cast, reduceIte, Nat.reduceEqDiff, reduceCtorEq, Nat.reduceAdd, Nat.reduceSub, Nat.reduceMul, Int.reduceToNat, Nat.reduceLeDiff])
        | (refine xr rfl (by simp only [List.length_cons, List.length_nil]; omega) ?_; try simp only [push_cast, reduceIte, Nat.reduceEqDiff, reduceCtorEq, Nat.reduceAdd, Nat.reduceSub, Nat.reduceMul, Int.reduceToNat, Nat.reduceLeDiff])
        | (refine xi rfl (by simp only [List.length_cons, List.length_nil]; omega) ?_; try simp only [push_cast, reduceIte, Nat.reduceEqDiff, reduceCtorEq, Nat.reduceAdd, Nat.reduceSub, Nat.reduceMul, Int.reduceToNat, Nat.reduceLeDiff])
        | (refine xs rfl (by simp only [List.length_cons, List.length_nil]; omega) ?_; try simp only [push_cast, reduceIte, Nat.reduceEqDiff, reduceCtorEq, Nat.reduceAdd, Nat.reduceSub, Nat.reduceMul, Int.reduceToNat, Nat.reduceLeDiff])
        | (refine xw ?_; simp only [push_cast, reduceIte, Nat.reduceEqDiff, reduceCtorEq, Nat.reduceAdd, Nat.reduceSub, Nat.reduceMul, Int.reduceToNat, Nat.reduceLeDiff])
        | (refine And.intro (PHeap.le_refl _) (And.intro (fun p hp => hp) ?_))
        | (refine And.intro (PHeap.le_refl _) (And.intro (fun p hp => List.mem_cons_of_mem _ hp) ?_))
        | (refine And.intro (PHeap.le_refl _) (And.intro (fun p hp => List.mem_cons_of_mem _ (List.mem_cons_of_mem _ hp)) ?_))
        | (refine And.intro (PHeap.le_refl _) (And.intro (mem_of_sub ?_) ?_); focus ((repeat' first | exact List.Sublist.refl _ | exact List.nil_sublist _ | exact List.sublist_append_left _ _ | refine List.Sublist.cons_cons _ ?_ | refine List.Sublist.append_left ?_ _ | refine List.sublist_append_of_sublist_right ?_ | refine List.Sublist.cons _ ?_); done); try simp only [push_cast, reduceIte, Nat.reduceEqDiff, reduceCtorEq, Nat.reduceAdd, Nat.reduceSub, Nat.reduceMul, Int.reduceToNat, Nat.reduceLeDiff])
        | (exfalso; simp at hc; done)
        | (exfalso; omega)
        | exact false
        | fail "stuck"
    · simp [VM.reachR, hb]
  · have hb2 : m.bad who = false ∧ ¬ loc < 0 ∧ ¬ 3 ≤ loc := by simpa [and_assoc] using hb
    obtain ⟨w, rfl, hw⟩ := bad_no (m := m) (who := who) (by rw [hb2.1]; simp)
    obtain ⟨l, rfl⟩ : ∃ l : Nat, loc = l := ⟨loc.toNat, by omega⟩
    have hl : l < 3 := by omega
    have hn := r.nowAt hw hl
    repeat' first
        | refine EV.seq ?_
        | refine EV.skip ?_
        | refine EV.block ?_
        | refine EV.inBlock ?_
        | (refine EV.reg ?_; (conv => (arg 2; whnf)); simp only [push_cast, reduceIte, Nat.reduceEqDiff, reduceCtorEq, Nat.reduceAdd, Nat.reduceSub, Nat.reduceMul, Int.reduceToNat, Nat.reduceLeDiff])
        | (refine EV.any _ (List.Sublist.refl _) ?_; (conv => (arg 2; whnf)); simp only [push_cast, reduceIte, Nat.reduceEqDiff, reduceCtorEq, Nat.reduceAdd, Nat.reduceSub, Nat.reduceMul, Int.reduceToNat, Nat.reduceLeDiff])
        | (refine ConQ.call (view_place_q (r.mono (PHeap.le_add _ _)) wf hl _) ?_; try simp only [push_cast, reduceIte, Nat.reduceEqDiff, reduceCtorEq, Nat.reduceAdd, Nat.reduceSub, Nat.reduceMul, Int.reduceToNat, Nat.reduceLeDiff])
        | (refine Exists.intro _ (And.intro (view_place_q (r.mono (PHeap.le_add _ _)) wf hl _) ?_); try simp only [push_cast, reduceIte, Nat.reduceEqDiff, reduceCtorEq, Nat.reduceAdd, Nat.reduceSub, Nat.reduceMul, Int.reduceToNat, Nat.reduceLeDiff])
        | (refine ConQ.call (view_there_q (r.mono (PHeap.le_add _ _)) wf) ?_; try simp only [push_cast, reduceIte, Nat.reduceEqDiff, reduceCtorEq, Nat.reduceAdd, Nat.reduceSub, Nat.reduceMul, Int.reduceToNat, Nat.reduceLeDiff])
        | (refine Exists.intro _ (And.intro (view_there_q (r.mono (PHeap.le_add _ _)) wf) ?_); try simp only [push_cast, reduceIte, Nat.reduceEqDiff, reduceCtorEq, Nat.reduceAdd, Nat.reduceSub, Nat.reduceMul, Int.reduceToNat, Nat.reduceLeDiff])
        | assumption
        | (refine condW.merge ?_ (fun hc K' hK => ?_) ?_; rotate_left)
        | (refine condQ.mk ?_ (fun hc => ?_) ?_; rotate_left; (try simp only [decide_eq_true_eq, decide_eq_false_iff_not, Bool.not_eq_true', Bool.not_eq_false', Bool.and_eq_true, Bool.or_eq_true, Bool.and_eq_false_iff, Bool.or_eq_false_iff] at hc))
        | (with_reducible rfl)
        | ((refine EV.cond rfl (fun h => ?_) (fun h => ?_) <;> try simp only [reduceCtorEq, reduceIte, if_true, if_false, Bool.not_eq_true', Bool.not_eq_false', decide_eq_true_eq, decide_eq_false_iff_not, Bool.and_eq_true, Bool.or_eq_true, Bool.and_eq_false_iff, Bool.or_eq_false_iff] at h) <;> try (exfalso; first | exact h True.intro | (exact h; done) | omega))
        | (refine EV.exit rfl ?_)
        | (refine EV.ret R_view_Machine_Reach_ok ?_; simp only [push_cast, reduceIte, Nat.reduceEqDiff, reduceCtorEq, Nat.reduceAdd, Nat.reduceSub, Nat.reduceMul, Int.reduceToNat, Nat.reduceLeDiff, R_view_Machine_Reach])
        | (with_reducible intro b; try simp only [push_cast, reduceIte, Nat.reduceEqDiff, reduceCtorEq, Nat.reduceAdd, Nat.reduceSub, Nat.reduceMul, Int.reduceToNat, Nat.reduceLeDiff])
        | with_reducible intro b
        | (refine And.intro (by omega) ?_)
        | (refine Exists.intro _ (And.intro (rd_M (by assumption)) ?_); try simp only [push_cast, reduceIte, Nat.reduceEqDiff, reduceCtorEq, Nat.reduceAdd, Nat.reduceSub, Nat.reduceMul, Int.reduceToNat, Nat.reduceLeDiff])
        | (refine Exists.intro _ (Exists.intro _ (Exists.intro _ (And.intro (rd_M (by assumption)) ?_))); try simp only [push_cast, reduceIte, Nat.reduceEqDiff, reduceCtorEq, Nat.reduceAdd, Nat.reduceSub, Nat.reduceMul, Int.reduceToNat, Nat.reduceLeDiff])
        | (refine Exists.intro _ (And.intro (by assumption) ?_); try simp only [push_cast, reduceIte, Nat.reduceEqDiff, reduceCtorEq, Nat.reduceAdd, Nat.reduceSub, Nat.reduceMul, Int.reduceToNat, Nat.reduceLeDiff])
        | (refine Exists.intro _ (Exists.intro _ (Exists.intro _ (And.intro (by assumption) ?_))); try simp only [push_cast, reduceIte, Nat.reduceEqDiff, reduceCtorEq, Nat.reduceAdd, Nat.reduceSub, Nat.reduceMul, Int.reduceToNat, Nat.reduceLeDiff])
        | (refine xr rfl (by simp only [List.length_cons, List.length_nil]; omega) ?_; try simp only [push_cast, reduceIte, Nat.reduceEqDiff, reduceCtorEq, Nat.reduceAdd, Nat.reduceSub, Nat.reduceMul, Int.reduceToNat, Nat.reduceLeDiff])
        | (refine xi rfl (by simp only [List.length_cons, List.length_nil]; omega) ?_; try simp only [push_cast, reduceIte, Nat.reduceEqDiff, reduceCtorEq, Nat.reduceAdd, Nat.reduceSub, Nat.reduceMul, Int.reduceToNat, Nat.reduceLeDiff])
        | (refine xs rfl (by simp only [List.length_cons, List.length_nil]; omega) ?_; try simp only [push_cast, reduceIte, Nat.reduceEqDiff, reduceCtorEq, Nat.reduceAdd, Nat.reduceSub, Nat.reduceMul, Int.reduceToNat, Nat.reduceLeDiff])
        | (refine xw ?_; simp only [push_cast, reduceIte, Nat.reduceEqDiff, reduceCtorEq, Nat.reduceAdd, Nat.reduceSub, Nat.reduceMul, Int.reduceToNat, Nat.reduceLeDiff])
        | (refine And.intro (PHeap.le_refl _) (And.intro (fun p hp => hp) ?_))
        | (refine And.intro (PHeap.le_refl _) (And.intro (fun p hp => List.mem_cons_of_mem _ hp) ?_))
        | (refine And.intro (PHeap.le_refl _) (And.intro (fun p hp => List.mem_cons_of_mem _ (List.mem_cons_of_mem _ hp)) ?_))
        | (refine And.intro (PHeap.le_refl _) (And.intro (mem_of_sub ?_) ?_); focus ((repeat' first | exact List.Sublist.refl _ | exact List.nil_sublist _ | exact List.sublist_append_left _ _ | refine List.Sublist.cons_cons _ ?_ | refine List.Sublist.append_left ?_ _ | refine List.sublist_append_of_sublist_right ?_ | refine List.Sublist.cons _ ?_); done); try simp only [push_cast, reduceIte, Nat.reduceEqDiff, reduceCtorEq, Nat.reduceAdd, Nat.reduceSub, Nat.reduceMul, Int.reduceToNat, Nat.reduceLeDiff])
        | (exfalso; simp at hc; done)
        | (exfalso; omega)
        | exact false
        | fail "stuck"
    · exfalso; simp only [false_or, Bool.not_true, reduceCtorEq] at h; omega
    all_goals (first | (simp only [VM.reachR, if_neg hb, Int.toNat_natCast]; done) | fail)

theorem view_Reach_nil_q (who loc : Int) : ConQ Try.prog 12 #[.pointer none, vi who, vi loc] M (ie (0, 1)) := by
  refine Con.enter R_view_Machine_Reach_ok (args := [.pointer none, vi who, vi loc]) (by simp [R_view_Machine_Reach]) fun w0 => ?_
  simp only [R_view_Machine_Reach, argE]
  repeat' first
      | refine EV.seq ?_
      | refine EV.skip ?_
      | refine EV.block ?_
      | refine EV.inBlock ?_
      | (refine EV.reg ?_; (conv => (arg 2; whnf)); simp only [push_cast, reduceIte, Nat.reduceEqDiff, reduceCtorEq, Nat.reduceAdd, Nat.reduceSub, Nat.reduceMul, Int.reduceToNat, Nat.reduceLeDiff])
      | (refine EV.any _ (List.Sublist.refl _) ?_; (conv => (arg 2; whnf)); simp only [push_cast, reduceIte, Nat.reduceEqDiff, reduceCtorEq, Nat.reduceAdd, Nat.reduceSub, Nat.reduceMul, Int.reduceToNat, Nat.reduceLeDiff])
      | (refine ConQ.call (view_there_nil_q) ?_; try simp only [push_cast, reduceIte, Nat.reduceEqDiff, reduceCtorEq, Nat.reduceAdd, Nat.reduceSub, Nat.reduceMul, Int.reduceToNat, Nat.reduceLeDiff])
      | (refine Exists.intro _ (And.intro (view_there_nil_q) ?_); try simp only [push_cast, reduceIte, Nat.reduceEqDiff, reduceCtorEq, Nat.reduceAdd, Nat.reduceSub, Nat.reduceMul, Int.reduceToNat, Nat.reduceLeDiff])
      | (refine condW.intro (fun hc => ?_) (fun hc => ?_) <;> try simp only [ne_eq, Bool.not_true, Bool.not_false, not_true_eq_false, not_false_eq_true, reduceCtorEq] at hc <;> try (exfalso; first | exact hc | omega | (simp at hc; done)))
      | assumption
      | (refine condQ.mk ?_ (fun hc => ?_) ?_; rotate_left; (try simp only [decide_eq_true_eq, decide_eq_false_iff_not, Bool.not_eq_true', Bool.not_eq_false', Bool.and_eq_true, Bool.or_eq_true, Bool.and_eq_false_iff, Bool.or_eq_false_iff] at hc))
      | (with_reducible rfl)
      | ((refine EV.cond rfl (fun h => ?_) (fun h => ?_) <;> try simp only [reduceCtorEq, reduceIte, if_true, if_false, Bool.not_eq_true', Bool.not_eq_false', decide_eq_true_eq, decide_eq_false_iff_not, Bool.and_eq_true, Bool.or_eq_true, Bool.and_eq_false_iff, Bool.or_eq_false_iff] at h) <;> try (exfalso; first | exact h True.intro | (exact h; done) | omega))
      | (refine EV.exit rfl ?_)
      | (refine EV.ret R_view_Machine_Reach_ok ?_; simp only [push_cast, reduceIte, Nat.reduceEqDiff, reduceCtorEq, Nat.reduceAdd, Nat.reduceSub, Nat.reduceMul, Int.reduceToNat, Nat.reduceLeDiff, R_view_Machine_Reach])
      | (with_reducible intro b; try simp only [push_cast, reduceIte, Nat.reduceEqDiff, reduceCtorEq, Nat.reduceAdd, Nat.reduceSub, Nat.reduceMul, Int.reduceToNat, Nat.reduceLeDiff])
      | with_reducible intro b
      | (refine And.intro (by omega) ?_)
      | (refine Exists.intro _ (And.intro (rd_M (by assumption)) ?_); try simp only [push_cast, reduceIte, Nat.reduceEqDiff, reduceCtorEq, Nat.reduceAdd, Nat.reduceSub, Nat.reduceMul, Int.reduceToNat, Nat.reduceLeDiff])
      | (refine Exists.intro _ (Exists.intro _ (Exists.intro _ (And.intro (rd_M (by assumption)) ?_))); try simp only [push_cast, reduceIte, Nat.reduceEqDiff, reduceCtorEq, Nat.reduceAdd, Nat.reduceSub, Nat.reduceMul, Int.reduceToNat, Nat.reduceLeDiff])
      | (refine Exists.intro _ (And.intro (by assumption) ?_); try simp only [push_cast, reduceIte, Nat.reduceEqDiff, reduceCtorEq, Nat.reduceAdd, Nat.reduceSub, Nat.reduceMul, Int.reduceToNat, Nat.reduceLeDiff])
      | (refine Exists.intro _ (Exists.intro _ (Exists.intro _ (And.intro (by assumption) ?_))); try simp only [push_cast, reduceIte, Nat.reduceEqDiff, reduceCtorEq, Nat.reduceAdd, Nat.reduceSub, Nat.reduceMul, Int.reduceToNat, Nat.reduceLeDiff])
      | (refine xr rfl (by simp only [List.length_cons, List.length_nil]; omega) ?_; try simp only [push_cast, reduceIte, Nat.reduceEqDiff, reduceCtorEq, Nat.reduceAdd, Nat.reduceSub, Nat.reduceMul, Int.reduceToNat, Nat.reduceLeDiff])
      | (refine xi rfl (by simp only [List.length_cons, List.length_nil]; omega) ?_; try simp only [push_cast, reduceIte, Nat.reduceEqDiff, reduceCtorEq, Nat.reduceAdd, Nat.reduceSub, Nat.reduceMul, Int.reduceToNat, Nat.reduceLeDiff])
      | (refine xs rfl (by simp only [List.length_cons, List.length_nil]; omega) ?_; try simp only [push_cast, reduceIte, Nat.reduceEqDiff, reduceCtorEq, Nat.reduceAdd, Nat.reduceSub, Nat.reduceMul, Int.reduceToNat, Nat.reduceLeDiff])
      | (refine xw ?_; simp only [push_cast, reduceIte, Nat.reduceEqDiff, reduceCtorEq, Nat.reduceAdd, Nat.reduceSub, Nat.reduceMul, Int.reduceToNat, Nat.reduceLeDiff])
      | (refine And.intro (PHeap.le_refl _) (And.intro (fun p hp => hp) ?_))
      | (refine And.intro (PHeap.le_refl _) (And.intro (fun p hp => List.mem_cons_of_mem _ hp) ?_))
      | (refine And.intro (PHeap.le_refl _) (And.intro (fun p hp => List.mem_cons_of_mem _ (List.mem_cons_of_mem _ hp)) ?_))
      | (refine And.intro (PHeap.le_refl _) (And.intro (mem_of_sub ?_) ?_); focus ((repeat' first | exact List.Sublist.refl _ | exact List.nil_sublist _ | exact List.sublist_append_left _ _ | refine List.Sublist.cons_cons _ ?_ | refine List.Sublist.append_left ?_ _ | refine List.sublist_append_of_sublist_right ?_ | refine List.Sublist.cons _ ?_); done); try simp only [push_cast, reduceIte, Nat.reduceEqDiff, reduceCtorEq, Nat.reduceAdd, Nat.reduceSub, Nat.reduceMul, Int.reduceToNat, Nat.reduceLeDiff])
      | (exfalso; simp at hc; done)
      | (exfalso; omega)
      | exact false
      | fail "stuck"

theorem view_turn_nil_q (who : Int) : ConQ Try.prog 29 #[.pointer none, vi who] M (.tuple #[vop opZ, vi 1]) := by
  refine Con.enter R_view_Machine_turn_ok (args := [.pointer none, vi who]) (by simp [R_view_Machine_turn]) fun w0 => ?_
  simp only [R_view_Machine_turn, argE]
  repeat' first
      | refine EV.seq ?_
      | refine EV.skip ?_
      | refine EV.block ?_
      | refine EV.inBlock ?_
      | (refine EV.reg ?_; (conv => (arg 2; whnf)); simp only [push_cast, reduceIte, Nat.reduceEqDiff, reduceCtorEq, Nat.reduceAdd, Nat.reduceSub, Nat.reduceMul, Int.reduceToNat, Nat.reduceLeDiff])
      | (refine EV.any _ (List.Sublist.refl _) ?_; (conv => (arg 2; whnf)); simp only [push_cast, reduceIte, Nat.reduceEqDiff, reduceCtorEq, Nat.reduceAdd, Nat.reduceSub, Nat.reduceMul, Int.reduceToNat, Nat.reduceLeDiff])
      | (refine ConQ.call (view_there_nil_q) ?_; try simp only [push_cast, reduceIte, Nat.reduceEqDiff, reduceCtorEq, Nat.reduceAdd, Nat.reduceSub, Nat.reduceMul, Int.reduceToNat, Nat.reduceLeDiff])
      | (refine Exists.intro _ (And.intro (view_there_nil_q) ?_); try simp only [push_cast, reduceIte, Nat.reduceEqDiff, reduceCtorEq, Nat.reduceAdd, Nat.reduceSub, Nat.reduceMul, Int.reduceToNat, Nat.reduceLeDiff])
      | (refine condW.intro (fun hc => ?_) (fun hc => ?_) <;> try simp only [ne_eq, Bool.not_true, Bool.not_false, not_true_eq_false, not_false_eq_true, reduceCtorEq] at hc <;> try (exfalso; first | exact hc | omega | (simp at hc; done)))
      | assumption
      | (refine condQ.mk ?_ (fun hc => ?_) ?_; rotate_left; (try simp only [decide_eq_true_eq, decide_eq_false_iff_not, Bool.not_eq_true', Bool.not_eq_false', Bool.and_eq_true, Bool.or_eq_true, Bool.and_eq_false_iff, Bool.or_eq_false_iff] at hc))
      | (with_reducible rfl)
      | ((refine EV.cond rfl (fun h => ?_) (fun h => ?_) <;> try simp only [reduceCtorEq, reduceIte, if_true, if_false, Bool.not_eq_true', Bool.not_eq_false', decide_eq_true_eq, decide_eq_false_iff_not, Bool.and_eq_true, Bool.or_eq_true, Bool.and_eq_false_iff, Bool.or_eq_false_iff] at h) <;> try (exfalso; first | exact h True.intro | (exact h; done) | omega))
      | (refine EV.exit rfl ?_)
      | (refine EV.ret R_view_Machine_turn_ok ?_; simp only [push_cast, reduceIte, Nat.reduceEqDiff, reduceCtorEq, Nat.reduceAdd, Nat.reduceSub, Nat.reduceMul, Int.reduceToNat, Nat.reduceLeDiff, R_view_Machine_turn])
      | (with_reducible intro b; try simp only [push_cast, reduceIte, Nat.reduceEqDiff, reduceCtorEq, Nat.reduceAdd, Nat.reduceSub, Nat.reduceMul, Int.reduceToNat, Nat.reduceLeDiff])
      | with_reducible intro b
      | (refine And.intro (by omega) ?_)
      | (refine Exists.intro _ (And.intro (rd_M (by assumption)) ?_); try simp only [push_cast, reduceIte, Nat.reduceEqDiff, reduceCtorEq, Nat.reduceAdd, Nat.reduceSub, Nat.reduceMul, Int.reduceToNat, Nat.reduceLeDiff])
      | (refine Exists.intro _ (Exists.intro _ (Exists.intro _ (And.intro (rd_M (by assumption)) ?_))); try simp only [push_cast, reduceIte, Nat.reduceEqDiff, reduceCtorEq, Nat.reduceAdd, Nat.reduceSub, Nat.reduceMul, Int.reduceToNat, Nat.reduceLeDiff])
      | (refine Exists.intro _ (And.intro (by assumption) ?_); try simp only [push_cast, reduceIte, Nat.reduceEqDiff, reduceCtorEq, Nat.reduceAdd, Nat.reduceSub, Nat.reduceMul, Int.reduceToNat, Nat.reduceLeDiff])
      | (refine Exists.intro _ (Exists.intro _ (Exists.intro _ (And.intro (by assumption) ?_))); try simp only [push_cast, reduceIte, Nat.reduceEqDiff, reduceCtorEq, Nat.reduceAdd, Nat.reduceSub, Nat.reduceMul, Int.reduceToNat, Nat.reduceLeDiff])
      | (refine xr rfl (by simp only [List.length_cons, List.length_nil]; omega) ?_; try simp only [push_cast, reduceIte, Nat.reduceEqDiff, reduceCtorEq, Nat.reduceAdd, Nat.reduceSub, Nat.reduceMul, Int.reduceToNat, Nat.reduceLeDiff])
      | (refine xi rfl (by simp only [List.length_cons, List.length_nil]; omega) ?_; try simp only [push_cast, reduceIte, Nat.reduceEqDiff, reduceCtorEq, Nat.reduceAdd, Nat.reduceSub, Nat.reduceMul, Int.reduceToNat, Nat.reduceLeDiff])
      | (refine xs rfl (by simp only [List.length_cons, List.length_nil]; omega) ?_; try simp only [push_cast, reduceIte, Nat.reduceEqDiff, reduceCtorEq, Nat.reduceAdd, Nat.reduceSub, Nat.reduceMul, Int.reduceToNat, Nat.reduceLeDiff])
      | (refine xw ?_; simp only [push_cast, reduceIte, Nat.reduceEqDiff, reduceCtorEq, Nat.reduceAdd, Nat.reduceSub, Nat.reduceMul, Int.reduceToNat, Nat.reduceLeDiff])
      | (refine And.intro (PHeap.le_refl _) (And.intro (fun p hp => hp) ?_))
      | (refine And.intro (PHeap.le_refl _) (And.intro (fun p hp => List.mem_cons_of_mem _ hp) ?_))
      | (refine And.intro (PHeap.le_refl _) (And.intro (fun p hp => List.mem_cons_of_mem _ (List.mem_cons_of_mem _ hp)) ?_))
      | (refine And.intro (PHeap.le_refl _) (And.intro (mem_of_sub ?_) ?_); focus ((repeat' first | exact List.Sublist.refl _ | exact List.nil_sublist _ | exact List.sublist_append_left _ _ | refine List.Sublist.cons_cons _ ?_ | refine List.Sublist.append_left ?_ _ | refine List.sublist_append_of_sublist_right ?_ | refine List.Sublist.cons _ ?_); done); try simp only [push_cast, reduceIte, Nat.reduceEqDiff, reduceCtorEq, Nat.reduceAdd, Nat.reduceSub, Nat.reduceMul, Int.reduceToNat, Nat.reduceLeDiff])
      | (exfalso; simp at hc; done)
      | (exfalso; omega)
      | exact false
      | fail "stuck"

theorem view_Choices_nil_q (who : Int) : ConQ Try.prog 22 #[.pointer none, vi who] M (ie (0, 1)) := by
  refine Con.enter R_view_Machine_Choices_ok (args := [.pointer none, vi who]) (by simp [R_view_Machine_Choices]) fun w0 => ?_
  simp only [R_view_Machine_Choices, argE]
  repeat' first
      | refine EV.seq ?_
      | refine EV.skip ?_
      | refine EV.block ?_
      | refine EV.inBlock ?_
      | (refine EV.reg ?_; (conv => (arg 2; whnf)); simp only [push_cast, reduceIte, Nat.reduceEqDiff, reduceCtorEq, Nat.reduceAdd, Nat.reduceSub, Nat.reduceMul, Int.reduceToNat, Nat.reduceLeDiff])
      | (refine EV.any _ (List.Sublist.refl _) ?_; (conv => (arg 2; whnf)); simp only [push_cast, reduceIte, Nat.reduceEqDiff, reduceCtorEq, Nat.reduceAdd, Nat.reduceSub, Nat.reduceMul, Int.reduceToNat, Nat.reduceLeDiff])
      | (refine ConQ.call (view_turn_nil_q _) ?_; try simp only [push_cast, reduceIte, Nat.reduceEqDiff, reduceCtorEq, Nat.reduceAdd, Nat.reduceSub, Nat.reduceMul, Int.reduceToNat, Nat.reduceLeDiff])
      | (refine Exists.intro _ (And.intro (view_turn_nil_q _) ?_); try simp only [push_cast, reduceIte, Nat.reduceEqDiff, reduceCtorEq, Nat.reduceAdd, Nat.reduceSub, Nat.reduceMul, Int.reduceToNat, Nat.reduceLeDiff])
      | assumption
      | (refine condW.merge ?_ (fun hc K' hK => ?_) ?_; rotate_left)
      | (refine condQ.mk ?_ (fun hc => ?_) ?_; rotate_left; (try simp only [decide_eq_true_eq, decide_eq_false_iff_not, Bool.not_eq_true', Bool.not_eq_false', Bool.and_eq_true, Bool.or_eq_true, Bool.and_eq_false_iff, Bool.or_eq_false_iff] at hc))
      | (with_reducible rfl)
      | ((refine EV.cond rfl (fun h => ?_) (fun h => ?_) <;> try simp only [reduceCtorEq, reduceIte, if_true, if_false, Bool.not_eq_true', Bool.not_eq_false', decide_eq_true_eq, decide_eq_false_iff_not, Bool.and_eq_true, Bool.or_eq_true, Bool.and_eq_false_iff, Bool.or_eq_false_iff] at h) <;> try (exfalso; first | exact h True.intro | (exact h; done) | omega))
      | (refine EV.exit rfl ?_)
      | (refine EV.ret R_view_Machine_Choices_ok ?_; simp only [push_cast, reduceIte, Nat.reduceEqDiff, reduceCtorEq, Nat.reduceAdd, Nat.reduceSub, Nat.reduceMul, Int.reduceToNat, Nat.reduceLeDiff, R_view_Machine_Choices])
      | (with_reducible intro b; try simp only [push_cast, reduceIte, Nat.reduceEqDiff, reduceCtorEq, Nat.reduceAdd, Nat.reduceSub, Nat.reduceMul, Int.reduceToNat, Nat.reduceLeDiff])
      | with_reducible intro b
      | (refine And.intro (by omega) ?_)
      | (refine Exists.intro _ (And.intro (rd_M (by assumption)) ?_); try simp only [push_cast, reduceIte, Nat.reduceEqDiff, reduceCtorEq, Nat.reduceAdd, Nat.reduceSub, Nat.reduceMul, Int.reduceToNat, Nat.reduceLeDiff])
      | (refine Exists.intro _ (Exists.intro _ (Exists.intro _ (And.intro (rd_M (by assumption)) ?_))); try simp only [push_cast, reduceIte, Nat.reduceEqDiff, reduceCtorEq, Nat.reduceAdd, Nat.reduceSub, Nat.reduceMul, Int.reduceToNat, Nat.reduceLeDiff])
      | (refine Exists.intro _ (And.intro (by assumption) ?_); try simp only [push_cast, reduceIte, Nat.reduceEqDiff, reduceCtorEq, Nat.reduceAdd, Nat.reduceSub, Nat.reduceMul, Int.reduceToNat, Nat.reduceLeDiff])
      | (refine Exists.intro _ (Exists.intro _ (Exists.intro _ (And.intro (by assumption) ?_))); try simp only [push_cast, reduceIte, Nat.reduceEqDiff, reduceCtorEq, Nat.reduceAdd, Nat.reduceSub, Nat.reduceMul, Int.reduceToNat, Nat.reduceLeDiff])
      | (refine xr rfl (by simp only [List.length_cons, List.length_nil]; omega) ?_; try simp only [push_cast, reduceIte, Nat.reduceEqDiff, reduceCtorEq, Nat.reduceAdd, Nat.reduceSub, Nat.reduceMul, Int.reduceToNat, Nat.reduceLeDiff])
      | (refine xi rfl (by simp only [List.length_cons, List.length_nil]; omega) ?_; try simp only [push_cast, reduceIte, Nat.reduceEqDiff, reduceCtorEq, Nat.reduceAdd, Nat.reduceSub, Nat.reduceMul, Int.reduceToNat, Nat.reduceLeDiff])
      | (refine xs rfl (by simp only [List.length_cons, List.length_nil]; omega) ?_; try simp only [push_cast, reduceIte, Nat.reduceEqDiff, reduceCtorEq, Nat.reduceAdd, Nat.reduceSub, Nat.reduceMul, Int.reduceToNat, Nat.reduceLeDiff])
      | (refine xw ?_; simp only [push_cast, reduceIte, Nat.reduceEqDiff, reduceCtorEq, Nat.reduceAdd, Nat.reduceSub, Nat.reduceMul, Int.reduceToNat, Nat.reduceLeDiff])
      | (refine And.intro (PHeap.le_refl _) (And.intro (fun p hp => hp) ?_))
      | (refine And.intro (PHeap.le_refl _) (And.intro (fun p hp => List.mem_cons_of_mem _ hp) ?_))
      | (refine And.intro (PHeap.le_refl _) (And.intro (fun p hp => List.mem_cons_of_mem _ (List.mem_cons_of_mem _ hp)) ?_))
      | (refine And.intro (PHeap.le_refl _) (And.intro (mem_of_sub ?_) ?_); focus ((repeat' first | exact List.Sublist.refl _ | exact List.nil_sublist _ | exact List.sublist_append_left _ _ | refine List.Sublist.cons_cons _ ?_ | refine List.Sublist.append_left ?_ _ | refine List.sublist_append_of_sublist_right ?_ | refine List.Sublist.cons _ ?_); done); try simp only [push_cast, reduceIte, Nat.reduceEqDiff, reduceCtorEq, Nat.reduceAdd, Nat.reduceSub, Nat.reduceMul, Int.reduceToNat, Nat.reduceLeDiff])
      | (exfalso; simp at hc; done)
      | (exfalso; omega)
      | exact false
      | fail "stuck"

theorem turn_zero {who : Int} (h : (m.turn who).2 = 0) : ∃ w : Nat, who = w ∧ w < m.thr.length ∧ m.thr[w]!.next ≠ m.prog[w]!.length ∧ (m.turn who).1 = m.prog[w]![m.thr[w]!.next]! := by
  by_cases hb : who < 0 ∨ (m.thr.length : Int) ≤ who
  · rw [turn_bad hb] at h; cases h
  · obtain ⟨w, rfl⟩ : ∃ w : Nat, who = w := ⟨who.toNat, by omega⟩
    have hw : w < m.thr.length := by omega
    by_cases h2 : m.thr[w]!.next = m.prog[w]!.length
    · rw [turn_over hw h2] at h; cases h
    · exact ⟨w, rfl, hw, h2, by rw [turn_ok hw h2]⟩

theorem turn_okOp (wf : m.Wf B) {w : Nat} (hw : w < m.thr.length) (h2 : m.thr[w]!.next ≠ m.prog[w]!.length) : okOpE (m.prog[w]![m.thr[w]!.next]!) := by
  have hpl := wf.pl
  have hnl := wf.nx w hw
  have hlt : m.thr[w]!.next < m.prog[w]!.length := by omega
  rw [getB hlt]
  exact wf.po _ (by rw [getB (show w < m.prog.length by omega)]; exact List.getElem_mem _) _ (List.getElem_mem _)

theorem view_Choices_q (r : RdM M mp ad m) (wf : m.Wf B) (who : Int) : ConQ Try.prog 22 #[pv mp 0, vi who] M (ie (m.choicesR who)) := by
  refine Con.enter R_view_Machine_Choices_ok (args := [pv mp 0, vi who]) (by simp [R_view_Machine_Choices]) fun w0 => ?_
  simp only [R_view_Machine_Choices, argE]
  repeat' first
      | refine EV.seq ?_
      | refine EV.skip ?_
      | refine EV.block ?_
      | refine EV.inBlock ?_
      | (refine EV.reg ?_; (conv => (arg 2; whnf)); simp only [push_cast, reduceIte, Nat.reduceEqDiff, reduceCtorEq, Nat.reduceAdd, Nat.reduceSub, Nat.reduceMul, Int.reduceToNat, Nat.reduceLeDiff])
      | (refine EV.any _ (List.Sublist.refl _) ?_; (conv => (arg 2; whnf)); simp only [push_cast, reduceIte, Nat.reduceEqDiff, reduceCtorEq, Nat.reduceAdd, Nat.reduceSub, Nat.reduceMul, Int.reduceToNat, Nat.reduceLeDiff])
      | (refine ConQ.call (view_turn_q (r.mono (PHeap.le_add _ _)) wf _) ?_; try simp only [push_cast, reduceIte, Nat.reduceEqDiff, reduceCtorEq, Nat.reduceAdd, Nat.reduceSub, Nat.reduceMul, Int.reduceToNat, Nat.reduceLeDiff])
      | (refine Exists.intro _ (And.intro (view_turn_q (r.mono (PHeap.le_add _ _)) wf _) ?_); try simp only [push_cast, reduceIte, Nat.reduceEqDiff, reduceCtorEq, Nat.reduceAdd, Nat.reduceSub, Nat.reduceMul, Int.reduceToNat, Nat.reduceLeDiff])
      | assumption
      | (refine condW.merge ?_ (fun hc K' hK => ?_) ?_; rotate_left)
      | (refine condQ.mk ?_ (fun hc => ?_) ?_; rotate_left; (try simp only [decide_eq_true_eq, decide_eq_false_iff_not, Bool.not_eq_true', Bool.not_eq_false', Bool.and_eq_true, Bool.or_eq_true, Bool.and_eq_false_iff, Bool.or_eq_false_iff] at hc))
      | (with_reducible rfl)
      | ((refine EV.cond rfl (fun h => ?_) (fun h => ?_) <;> try simp only [reduceCtorEq, reduceIte, if_true, if_false, Bool.not_eq_true', Bool.not_eq_false', decide_eq_true_eq, decide_eq_false_iff_not, Bool.and_eq_true, Bool.or_eq_true, Bool.and_eq_false_iff, Bool.or_eq_false_iff] at h) <;> try (exfalso; first | exact h True.intro | (exact h; done) | omega))
      | (refine EV.exit rfl ?_)
      | (refine EV.ret R_view_Machine_Choices_ok ?_; simp only [push_cast, reduceIte, Nat.reduceEqDiff, reduceCtorEq, Nat.reduceAdd, Nat.reduceSub, Nat.reduceMul, Int.reduceToNat, Nat.reduceLeDiff, R_view_Machine_Choices])
      | (with_reducible intro b; try simp only [push_cast, reduceIte, Nat.reduceEqDiff, reduceCtorEq, Nat.reduceAdd, Nat.reduceSub, Nat.reduceMul, Int.reduceToNat, Nat.reduceLeDiff])
      | with_reducible intro b
      | (refine And.intro (by omega) ?_)
      | (refine Exists.intro _ (And.intro (rd_M (by assumption)) ?_); try simp only [push_cast, reduceIte, Nat.reduceEqDiff, reduceCtorEq, Nat.reduceAdd, Nat.reduceSub, Nat.reduceMul, Int.reduceToNat, Nat.reduceLeDiff])
      | (refine Exists.intro _ (Exists.intro _ (Exists.intro _ (And.intro (rd_M (by assumption)) ?_))); try simp only [push_cast, reduceIte, Nat.reduceEqDiff, reduceCtorEq, Nat.reduceAdd, Nat.reduceSub, Nat.reduceMul, Int.reduceToNat, Nat.reduceLeDiff])
      | (refine Exists.intro _ (And.intro (by assumption) ?_); try simp only [push_cast, reduceIte, Nat.reduceEqDiff, reduceCtorEq, Nat.reduceAdd, Nat.reduceSub, Nat.reduceMul, Int.reduceToNat, Nat.reduceLeDiff])
      | (refine Exists.intro _ (Exists.intro _ (Exists.intro _ (And.intro (by assumption) ?_))); try simp only [push_cast, reduceIte, Nat.reduceEqDiff, reduceCtorEq, Nat.reduceAdd, Nat.reduceSub, Nat.reduceMul, Int.reduceToNat, Nat.reduceLeDiff])
      | (refine xr rfl (by simp only [List.length_cons, List.length_nil]; omega) ?_; try simp only [push_cast, reduceIte, Nat.reduceEqDiff, reduceCtorEq, Nat.reduceAdd, Nat.reduceSub, Nat.reduceMul, Int.reduceToNat, Nat.reduceLeDiff])
      | (refine xi rfl (by simp only [List.length_cons, List.length_nil]; omega) ?_; try simp only [push_cast, reduceIte, Nat.reduceEqDiff, reduceCtorEq, Nat.reduceAdd, Nat.reduceSub, Nat.reduceMul, Int.reduceToNat, Nat.reduceLeDiff])
      | (refine xs rfl (by simp only [List.length_cons, List.length_nil]; omega) ?_; try simp only [push_cast, reduceIte, Nat.reduceEqDiff, reduceCtorEq, Nat.reduceAdd, Nat.reduceSub, Nat.reduceMul, Int.reduceToNat, Nat.reduceLeDiff])
      | (refine xw ?_; simp only [push_cast, reduceIte, Nat.reduceEqDiff, reduceCtorEq, Nat.reduceAdd, Nat.reduceSub, Nat.reduceMul, Int.reduceToNat, Nat.reduceLeDiff])
      | (refine And.intro (PHeap.le_refl _) (And.intro (fun p hp => hp) ?_))
      | (refine And.intro (PHeap.le_refl _) (And.intro (fun p hp => List.mem_cons_of_mem _ hp) ?_))
      | (refine And.intro (PHeap.le_refl _) (And.intro (fun p hp => List.mem_cons_of_mem _ (List.mem_cons_of_mem _ hp)) ?_))
      | (refine And.intro (PHeap.le_refl _) (And.intro (mem_of_sub ?_) ?_); focus ((repeat' first | exact List.Sublist.refl _ | exact List.nil_sublist _ | exact List.sublist_append_left _ _ | refine List.Sublist.cons_cons _ ?_ | refine List.Sublist.append_left ?_ _ | refine List.sublist_append_of_sublist_right ?_ | refine List.Sublist.cons _ ?_); done); try simp only [push_cast, reduceIte, Nat.reduceEqDiff, reduceCtorEq, Nat.reduceAdd, Nat.reduceSub, Nat.reduceMul, Int.reduceToNat, Nat.reduceLeDiff])
      | (exfalso; simp at hc; done)
      | (exfalso; omega)
      | exact false
      | fail "stuck"
  · simp only [VM.choicesR, ne_eq, h, not_false_eq_true, if_true]
  · obtain ⟨w, rfl, hw, hw2, e⟩ := turn_zero h
    have ho := turn_okOp wf hw hw2
    rw [← e] at ho
    refine Con.callB (G1 := []) (view_choices_c (r.mono (PHeap.le_add _ _)) wf hw _ ho) (PHeap.le_refl _) (List.Perm.refl _) ?_
    rintro v M' G' ⟨ov, rfl, hov, rfl⟩
    repeat' first
        | refine EV.seq ?_
        | refine EV.skip ?_
        | refine EV.block ?_
        | refine EV.inBlock ?_
        | (refine EV.reg ?_; (conv => (arg 2; whnf)); simp only [push_cast, reduceIte, Nat.reduceEqDiff, reduceCtorEq, Nat.reduceAdd, Nat.reduceSub, Nat.reduceMul, Int.reduceToNat, Nat.reduceLeDiff])
        | (refine EV.any _ (List.Sublist.refl _) ?_; (conv => (arg 2; whnf)); simp only [push_cast, reduceIte, Nat.reduceEqDiff, reduceCtorEq, Nat.reduceAdd, Nat.reduceSub, Nat.reduceMul, Int.reduceToNat, Nat.reduceLeDiff])
        | assumption
        | (refine condW.merge ?_ (fun hc K' hK => ?_) ?_; rotate_left)
        | (refine condQ.mk ?_ (fun hc => ?_) ?_; rotate_left; (try simp only [decide_eq_true_eq, decide_eq_false_iff_not, Bool.not_eq_true', Bool.not_eq_false', Bool.and_eq_true, Bool.or_eq_true, Bool.and_eq_false_iff, Bool.or_eq_false_iff] at hc))
        | (with_reducible rfl)
        | ((refine EV.cond rfl (fun h => ?_) (fun h => ?_) <;> try simp only [reduceCtorEq, reduceIte, if_true, if_false, Bool.not_eq_true', Bool.not_eq_false', decide_eq_true_eq, decide_eq_false_iff_not, Bool.and_eq_true, Bool.or_eq_true, Bool.and_eq_false_iff, Bool.or_eq_false_iff] at h) <;> try (exfalso; first | exact h True.intro | (exact h; done) | omega))
        | (refine EV.exit rfl ?_)
        | (refine EV.ret R_view_Machine_Choices_ok ?_; simp only [push_cast, reduceIte, Nat.reduceEqDiff, reduceCtorEq, Nat.reduceAdd, Nat.reduceSub, Nat.reduceMul, Int.reduceToNat, Nat.reduceLeDiff, R_view_Machine_Choices])
        | (with_reducible intro b; try simp only [push_cast, reduceIte, Nat.reduceEqDiff, reduceCtorEq, Nat.reduceAdd, Nat.reduceSub, Nat.reduceMul, Int.reduceToNat, Nat.reduceLeDiff])
        | with_reducible intro b
        | (refine And.intro (by omega) ?_)
        | (refine Exists.intro _ (And.intro (rd_M (by assumption)) ?_); try simp only [push_cast, reduceIte, Nat.reduceEqDiff, reduceCtorEq, Nat.reduceAdd, Nat.reduceSub, Nat.reduceMul, Int.reduceToNat, Nat.reduceLeDiff])
        | (refine Exists.intro _ (Exists.intro _ (Exists.intro _ (And.intro (rd_M (by assumption)) ?_))); try simp only [push_cast, reduceIte, Nat.reduceEqDiff, reduceCtorEq, Nat.reduceAdd, Nat.reduceSub, Nat.reduceMul, Int.reduceToNat, Nat.reduceLeDiff])
        | (refine Exists.intro _ (And.intro (by assumption) ?_); try simp only [push_cast, reduceIte, Nat.reduceEqDiff, reduceCtorEq, Nat.reduceAdd, Nat.reduceSub, Nat.reduceMul, Int.reduceToNat, Nat.reduceLeDiff])
        | (refine Exists.intro _ (Exists.intro _ (Exists.intro _ (And.intro (by assumption) ?_))); try simp only [push_cast, reduceIte, Nat.reduceEqDiff, reduceCtorEq, Nat.reduceAdd, Nat.reduceSub, Nat.reduceMul, Int.reduceToNat, Nat.reduceLeDiff])
        | (refine xr rfl (by simp only [List.length_cons, List.length_nil]; omega) ?_; try simp only [push_cast, reduceIte, Nat.reduceEqDiff, reduceCtorEq, Nat.reduceAdd, Nat.reduceSub, Nat.reduceMul, Int.reduceToNat, Nat.reduceLeDiff])
        | (refine xi rfl (by simp only [List.length_cons, List.length_nil]; omega) ?_; try simp only [push_cast, reduceIte, Nat.reduceEqDiff, reduceCtorEq, Nat.reduceAdd, Nat.reduceSub, Nat.reduceMul, Int.reduceToNat, Nat.reduceLeDiff])
        | (refine xs rfl (by simp only [List.length_cons, List.length_nil]; omega) ?_; try simp only [push_cast, reduceIte, Nat.reduceEqDiff, reduceCtorEq, Nat.reduceAdd, Nat.reduceSub, Nat.reduceMul, Int.reduceToNat, Nat.reduceLeDiff])
        | (refine xw ?_; simp only [push_cast, reduceIte, Nat.reduceEqDiff, reduceCtorEq, Nat.reduceAdd, Nat.reduceSub, Nat.reduceMul, Int.reduceToNat, Nat.reduceLeDiff])
        | (refine And.intro (PHeap.le_refl _) (And.intro (fun p hp => hp) ?_))
        | (refine And.intro (PHeap.le_refl _) (And.intro (fun p hp => List.mem_cons_of_mem _ hp) ?_))
        | (refine And.intro (PHeap.le_refl _) (And.intro (fun p hp => List.mem_cons_of_mem _ (List.mem_cons_of_mem _ hp)) ?_))
        | (refine And.intro (PHeap.le_refl _) (And.intro (mem_of_sub ?_) ?_); focus ((repeat' first | exact List.Sublist.refl _ | exact List.nil_sublist _ | exact List.sublist_append_left _ _ | refine List.Sublist.cons_cons _ ?_ | refine List.Sublist.append_left ?_ _ | refine List.sublist_append_of_sublist_right ?_ | refine List.Sublist.cons _ ?_); done); try simp only [push_cast, reduceIte, Nat.reduceEqDiff, reduceCtorEq, Nat.reduceAdd, Nat.reduceSub, Nat.reduceMul, Int.reduceToNat, Nat.reduceLeDiff])
        | (exfalso; simp at hc; done)
        | (exfalso; omega)
        | exact false
        | fail "stuck"
    simp only [VM.choicesR, h, ne_eq, not_true_eq_false, if_false, Int.toNat_natCast]

end
end Go.EV

namespace Go.EV
open Go.Proofs

def encPT (p : Thr × Vec) : List Value := encThr (p.1, oad p.2, ocap p.2)

structure PM where
  pg : Option Addr
  pc : Nat
  mv : Nat × Nat × List Value
  lv : Nat → Nat × Nat × List Value
  tv : Nat × Nat × List Value
  prog : List (List OpV)
  msgs : List Msg
  line : Nat → List Int
  all : Vw
  pt : List (Thr × Vec)

def PM.vm (p : PM) : VM := ⟨p.prog, p.msgs, p.line, p.pt.map (·.1), p.all⟩
def PM.ad (p : PM) : Ad := ⟨p.pg, p.pc, p.mv.1, p.mv.2.1, fun l => (p.lv l).1, fun l => (p.lv l).2.1, p.tv.1, p.tv.2.1, p.pt.map fun q => (oad q.2, ocap q.2)⟩

def rdsG (pt : List (Thr × Vec)) : Own := pt.flatMap fun q => osg 3 q.2 (q.1.read.map vi)
def lnG (line : Nat → List Int) (lv : Nat → Nat × Nat × List Value) : Own :=
  [((lv 0).1, Cl 3 ((line 0).map vi ++ (lv 0).2.2)), ((lv 1).1, Cl 3 ((line 1).map vi ++ (lv 1).2.2)), ((lv 2).1, Cl 3 ((line 2).map vi ++ (lv 2).2.2))]
/-- The cells of a machine itself. -/
def hdL (pg mh : Value) (lh : Nat → Value) (th : Value) (all : Vw) : List Value := pg :: mh :: lh 0 :: lh 1 :: lh 2 :: th :: encV all
def lnH (line : Nat → List Int) (lv : Nat → Nat × Nat × List Value) (l : Nat) : Value := rowV (lv l).1 (line l).length (lv l).2.1
def PM.G (p : PM) (mp : Nat) : Own :=
  (mp, Cl 65 (hdL (.slice p.pg p.prog.length p.pc) (rowV p.mv.1 p.msgs.length p.mv.2.1) (lnH p.line p.lv) (rowV p.tv.1 p.pt.length p.tv.2.1) p.all)) ::
  (p.tv.1, Cl 69 (p.pt.flatMap encPT ++ p.tv.2.2)) :: (p.mv.1, Cl 67 (p.msgs.flatMap encMsg ++ p.mv.2.2)) :: (lnG p.line p.lv ++ rdsG p.pt)

structure PM.Ok (p : PM) : Prop where
  mok : osok 5 (some p.mv) p.msgs.length (p.msgs.flatMap encMsg)
  lk : ∀ l, l < 3 → osok 1 (some (p.lv l)) (p.line l).length ((p.line l).map vi)
  tk : osok 11 (some p.tv) p.pt.length (p.pt.flatMap encPT)
  rk : ∀ q ∈ p.pt, osok 1 q.2 q.1.read.length (q.1.read.map vi)

section
variable {M : PHeap} {G : Own} {mp : Nat}

theorem rd_mem0 {b n : Nat} {T : TypeId} {xs sp : List Value} (h : (b, Cl T (xs ++ sp)) ∈ G) (hn : xs.length = n) : rd (M.add G) b 0 n xs := by
  have := rd_mem (M := M) (off := 0) (n := n) h (by rw [List.length_append]; omega)
  simpa [← hn] using this

theorem PM.rdM {p : PM} (ok : p.Ok) (hpg : SlSl M 5 encOp (.slice p.pg p.prog.length p.pc) p.prog) (hG : ∀ q ∈ p.G mp, q ∈ G) : RdM (M.add G) mp p.ad p.vm := by
  refine ⟨?_, hpg.mono (PHeap.le_add _ _), ?_, ?_, ?_, ?_, ?_⟩
  · have h := hG (mp, _) (List.mem_cons_self ..)
    have := rd_mem (M := M) (off := 0) (n := 9) h (by simp [hdL, encV])
    simpa [hdL, encV, hdr, PM.vm, PM.ad, lnH] using this
  · exact rd_mem0 (T := 67) (sp := p.mv.2.2) (hG (p.mv.1, _) (by simp [PM.G, PM.vm])) ok.mok.1
  · intro l hl
    have hlen : ((p.line l).map vi).length = (p.line l).length := by simp
    refine rd_mem0 (T := 3) (sp := (p.lv l).2.2) (hG _ ?_) hlen
    match l, hl with
    | 0, _ => simp [PM.G, lnG, PM.ad, PM.vm]
    | 1, _ => simp [PM.G, lnG, PM.ad, PM.vm]
    | 2, _ => simp [PM.G, lnG, PM.ad, PM.vm]
  · have e : (p.vm.thr.zip p.ad.ra).flatMap encThr = p.pt.flatMap encPT := by
      have : p.vm.thr.zip p.ad.ra = p.pt.map fun q => (q.1, oad q.2, ocap q.2) := by
        simp only [PM.vm, PM.ad]
        rw [List.zip_map']
      rw [this, List.flatMap_map]; rfl
    rw [e]
    have hl := ok.tk.1
    have e2 : p.vm.thr.length = p.pt.length := by simp [PM.vm]
    rw [e2]
    exact rd_mem0 (T := 69) (sp := p.tv.2.2) (hG (p.tv.1, _) (by simp [PM.G])) hl
  · simp [PM.vm, PM.ad]
  · intro i h h'
    have hi : i < p.pt.length := by simpa [PM.vm] using h
    have h2 := ok.rk p.pt[i] (List.getElem_mem _)
    have h3 := rd_osg (M := M) (G := G) (T := 3) h2 (fun q hq => hG q (by
      simp only [PM.G, List.mem_cons, List.mem_append, rdsG, List.mem_flatMap]
      exact .inr (.inr (.inr (.inr ⟨_, List.getElem_mem hi, hq⟩)))))
    simpa [PM.vm, PM.ad] using h3

/-- The lines, read from what is owned. -/
theorem RdL.of {pg mh th : Value} {all : Vw} {line : Nat → List Int} {lv : Nat → Nat × Nat × List Value} (h0 : (mp, Cl 65 (hdL pg mh (lnH line lv) th all)) ∈ G) (h1 : ∀ q ∈ lnG line lv, q ∈ G) (hb : ∀ l, l < 3 → (line l).length < 1000000) : RdL (M.add G) mp line := by
  intro l hl
  have hlen : ((line l).map vi).length = (line l).length := by simp
  refine ⟨(lv l).1, (lv l).2.1, ?_, ?_, hb l hl⟩
  · have := rd_mem (M := M) (off := 2 + l) (n := 1) h0 (by simp [hdL, encV]; omega)
    match l, hl with
    | 0, _ => simpa [hdL, lnH] using this
    | 1, _ => simpa [hdL, lnH] using this
    | 2, _ => simpa [hdL, lnH] using this
  · refine rd_mem0 (T := 3) (sp := (lv l).2.2) (h1 _ ?_) hlen
    match l, hl with
    | 0, _ => simp [lnG]
    | 1, _ => simp [lnG]
    | 2, _ => simp [lnG]

theorem RdL.of' {pg mh th : Value} {all : Vw} {line : Nat → List Int} {lv : Nat → Nat × Nat × List Value} [h0 : At G mp 65 (hdL pg mh (lnH line lv) th all)] (h1 : ∀ q ∈ lnG line lv, q ∈ G) (hb : ∀ l, l < 3 → (line l).length < 1000000) : RdL (M.add G) mp line :=
  RdL.of h0.mem h1 hb

/-! ### One thread's cells -/

def tc (A : List Value) (n g d : Vw) (r x : Value) (C : List Value) : List Value := A ++ (encV n ++ (encV g ++ (encV d ++ (r :: x :: C))))

theorem tc_of (pt1 pt2 : List (Thr × Vec)) (t : Thr) (ov : Vec) (sp : List Value) :
    (pt1 ++ (t, ov) :: pt2).flatMap encPT ++ sp = tc (pt1.flatMap encPT) t.now t.gained t.given (osv ov t.read.length) (vi t.next) (pt2.flatMap encPT ++ sp) := by
  simp [tc, encPT, encThr, encV]

section
variable {A C : List Value} {n g d : Vw} {r x : Value} {w : Nat} (hA : A.length = w * 11)
include hA

theorem tc_len : (tc A n g d r x C).length = w * 11 + 11 + C.length := by simp [tc, encV, hA]; omega

theorem tc_eq (k : Nat) (cs : List Value) (m : Nat) : (((tc A n g d r x C).drop (w * 11 + k)).take m) = ((encV n ++ (encV g ++ (encV d ++ (r :: x :: C)))).drop k).take m := by
  simp only [tc]
  rw [← hA, List.drop_append, List.drop_eq_nil_of_le (by omega), List.nil_append]
  congr 2
  omega

variable {b : Nat} {T : TypeId}

theorem rd_tc (h : (b, Cl T (tc A n g d r x C)) ∈ G) (k m : Nat) (hk : k + m ≤ 11) {out : List Value} (e : ((encV n ++ (encV g ++ (encV d ++ (r :: x :: C)))).drop k).take m = out) : rd (M.add G) b (w * 11 + k) m out :=
  rd_at h (by rw [tc_eq hA]; exact e; exact []) (by rw [tc_len hA]; omega)

theorem rd_tc_now [h : At G b T (tc A n g d r x C)] : rd (M.add G) b (w * 11) 3 (encV n) := rd_tc hA h.mem 0 3 (by omega) rfl
theorem rd_tc_gained [h : At G b T (tc A n g d r x C)] : rd (M.add G) b (w * 11 + 3) 3 (encV g) := rd_tc hA h.mem 3 3 (by omega) rfl
theorem rd_tc_given [h : At G b T (tc A n g d r x C)] : rd (M.add G) b (w * 11 + 6) 3 (encV d) := rd_tc hA h.mem 6 3 (by omega) rfl
theorem rd_tc_read [h : At G b T (tc A n g d r x C)] : rd (M.add G) b (w * 11 + 9) 1 [r] := rd_tc hA h.mem 9 1 (by omega) rfl
theorem rd_tc_next [h : At G b T (tc A n g d r x C)] : rd (M.add G) b (w * 11 + 10) 1 [x] := rd_tc hA h.mem 10 1 (by omega) rfl

theorem tc_splice (k : Nat) (vs : List Value) : (tc A n g d r x C).take (w * 11 + k) ++ (vs ++ (tc A n g d r x C).drop (w * 11 + k + vs.length)) =
    A ++ ((encV n ++ (encV g ++ (encV d ++ (r :: x :: C)))).take k ++ (vs ++ (encV n ++ (encV g ++ (encV d ++ (r :: x :: C)))).drop (k + vs.length))) := by
  simp only [tc]
  rw [← hA, List.take_length_add_append, Nat.add_assoc, List.drop_length_add_append, List.append_assoc]

theorem tc_st_now (v : Vw) : (tc A n g d r x C).take (w * 11) ++ (encV v ++ (tc A n g d r x C).drop (w * 11 + 3)) = tc A v g d r x C := tc_splice hA 0 (encV v)
theorem tc_st_gained (v : Vw) : (tc A n g d r x C).take (w * 11 + 3) ++ (encV v ++ (tc A n g d r x C).drop (w * 11 + 3 + 3)) = tc A n v d r x C := tc_splice hA 3 (encV v)
theorem tc_st_given (v : Vw) : (tc A n g d r x C).take (w * 11 + 6) ++ (encV v ++ (tc A n g d r x C).drop (w * 11 + 6 + 3)) = tc A n g v r x C := tc_splice hA 6 (encV v)
theorem tc_st_read (v : Value) : (tc A n g d r x C).take (w * 11 + 9) ++ (v :: (tc A n g d r x C).drop (w * 11 + 9 + 1)) = tc A n g d v x C := tc_splice hA 9 [v]
theorem tc_st_next (v : Value) : (tc A n g d r x C).take (w * 11 + 10) ++ (v :: (tc A n g d r x C).drop (w * 11 + 10 + 1)) = tc A n g d r v C := tc_splice hA 10 [v]
theorem tc_st_at {l : Nat} (hl : l < 3) (v : Int) : (tc A n g d r x C).take (w * 11 + l) ++ (vi v :: (tc A n g d r x C).drop (w * 11 + l + 1)) = tc A (upd n l v) g d r x C := by
  match l, hl with
  | 0, _ => exact tc_splice hA 0 [vi v]
  | 1, _ => exact tc_splice hA 1 [vi v]
  | 2, _ => exact tc_splice hA 2 [vi v]

end

theorem rd_box {b : Nat} {T : TypeId} {v : Vw} [h : At G b T (encV v)] : rd (M.add G) b 0 3 (encV v) := rd_at h.mem rfl (by simp [encV])

theorem hd_st_all {pg mh th : Value} {lh : Nat → Value} {all v : Vw} : (hdL pg mh lh th all).take 6 ++ (encV v ++ (hdL pg mh lh th all).drop (6 + 3)) = hdL pg mh lh th v := rfl
theorem hd_st_line {pg mh th v : Value} {lh : Nat → Value} {all : Vw} {l : Nat} (hl : l < 3) : (hdL pg mh lh th all).take (2 + l) ++ (v :: (hdL pg mh lh th all).drop (2 + l + 1)) = hdL pg mh (upd lh l v) th all := by
  match l, hl with
  | 0, _ => rfl
  | 1, _ => rfl
  | 2, _ => rfl
theorem hd_st_ms {pg mh th v : Value} {lh : Nat → Value} {all : Vw} : (hdL pg mh lh th all).take 1 ++ (v :: (hdL pg mh lh th all).drop (1 + 1)) = hdL pg v lh th all := rfl
theorem hd_len {pg mh th : Value} {lh : Nat → Value} {all : Vw} : (hdL pg mh lh th all).length = 9 := rfl
theorem rd_hd_th {b : Nat} {T : TypeId} {pg mh th : Value} {lh : Nat → Value} {all : Vw} [h : At G b T (hdL pg mh lh th all)] : rd (M.add G) b 5 1 [th] := rd_at h.mem rfl (by rw [hd_len]; omega)
theorem rd_hd_ms {b : Nat} {T : TypeId} {pg mh th : Value} {lh : Nat → Value} {all : Vw} [h : At G b T (hdL pg mh lh th all)] : rd (M.add G) b 1 1 [mh] := rd_at h.mem rfl (by rw [hd_len]; omega)
theorem rd_hd_all {b : Nat} {T : TypeId} {pg mh th : Value} {lh : Nat → Value} {all : Vw} [h : At G b T (hdL pg mh lh th all)] : rd (M.add G) b 6 3 (encV all) := rd_at h.mem rfl (by rw [hd_len]; omega)
theorem rd_hd_line {b : Nat} {T : TypeId} {pg mh th : Value} {lh : Nat → Value} {all : Vw} {l : Nat} (hl : l < 3) [h : At G b T (hdL pg mh lh th all)] : rd (M.add G) b (2 + l) 1 [lh l] :=
  rd_at h.mem (by match l, hl with | 0, _ => rfl | 1, _ => rfl | 2, _ => rfl) (by rw [hd_len]; omega)

end
end Go.EV

namespace Go.EV
open Go.Proofs
section
variable {M : PHeap} {mp : Nat} {B : Nat}

theorem PM.split {α : Type} (l : List α) (w : Nat) (h : w < l.length) : ∃ A x C, l = A ++ x :: C ∧ A.length = w :=
  ⟨l.take w, l[w], l.drop (w + 1), by rw [← List.drop_eq_getElem_cons h, List.take_append_drop], by simp; omega⟩

theorem encPT_len (A : List (Thr × Vec)) : (A.flatMap encPT).length = A.length * 11 := flatMap_length (enc := encPT) (sz := 11) (fun _ => rfl) A

theorem thr_at (pA pC : List (Thr × Vec)) (t : Thr) (ov : Vec) : ((pA ++ (t, ov) :: pC).map (·.1))[pA.length]! = t := by
  rw [getB (by simp)]; simp

theorem thr_set (pA pC : List (Thr × Vec)) (t t' : Thr) (ov ov' : Vec) : ((pA ++ (t, ov) :: pC).map (·.1)).set pA.length t' = (pA ++ (t', ov') :: pC).map (·.1) := by
  simp

theorem rdsG_at (pA pC : List (Thr × Vec)) (t : Thr) (ov : Vec) : rdsG (pA ++ (t, ov) :: pC) = rdsG pA ++ (osg 3 ov (t.read.map vi) ++ rdsG pC) := by
  simp [rdsG]

theorem pt_len (pA pC : List (Thr × Vec)) (t : Thr) (ov : Vec) : (pA ++ (t, ov) :: pC).length = pA.length + (pC.length + 1) := by simp

theorem PM.Ok.thr {pg pc mv lv tv prog msgs line all all' pA t ov pC} (t' : Thr) (ov' : Vec) (ok : PM.Ok ⟨pg, pc, mv, lv, tv, prog, msgs, line, all, pA ++ (t, ov) :: pC⟩) (h : osok 1 ov' t'.read.length (t'.read.map vi)) :
    PM.Ok ⟨pg, pc, mv, lv, tv, prog, msgs, line, all', pA ++ (t', ov') :: pC⟩ := by
  refine ⟨ok.mok, ok.lk, ?_, ?_⟩
  · obtain ⟨h1, h2, h3, h4⟩ := ok.tk
    dsimp only at h1 h2 h3 h4
    refine ⟨?_, ?_, ?_, h4⟩
    · dsimp only; rw [encPT_len]
    · dsimp only; rw [List.length_append, encPT_len] at h2 ⊢; rw [← h2, pt_len, pt_len]
    · dsimp only; rw [pt_len] at h3 ⊢; exact h3
  · intro q hq
    rcases List.mem_append.1 hq with hq | hq
    · exact ok.rk q (by simp [hq])
    · rcases List.mem_cons.1 hq with rfl | hq
      · exact h
      · exact ok.rk q (by simp [hq])

def fencedThr (line : Nat → List Int) (all : Vw) (t : Thr) (o : OpV) : Thr × Vw :=
  let now1 := if acqP o.ord then joinV line t.now t.gained else t.now
  let now2 := if o.ord = 4 then joinV line now1 all else now1
  (⟨now2, (if o.ord = 4 then joinV line t.gained now2 else t.gained), (if relP o.ord then now2 else t.given), t.read, t.next⟩, if o.ord = 4 then now2 else all)

set_option maxRecDepth 8000 in
set_option maxHeartbeats 4000000 in
theorem view_fenced_c (p : PM) (ok : p.Ok) (wf : p.vm.Wf B) {w : Nat} (hw : w < p.pt.length) (o : OpV) (ho : isOrderP o.ord = true) : Con Try.prog 66 #[pv mp 0, vi w, vop o] M (p.G mp) fun v _ G' =>
    ∃ p' : PM, G' = p'.G mp ∧ p'.Ok ∧ p'.vm = p.vm.fenced w o ∧ p'.pg = p.pg ∧ p'.pc = p.pc := by
  have hb : ∀ l, l < 3 → (p.line l).length < 1000000 := fun l hl => by have h1 := wf.ll l hl; have h2 := wf.b0; simp only [PM.vm] at h1; omega
  obtain ⟨pg, pc, mv, lv, tv, prog, msgs, line, all, pt⟩ := p
  obtain ⟨pA, ⟨t, ov⟩, pC, rfl, hpA⟩ := PM.split pt w hw
  have hA : (pA.flatMap encPT).length = w * 11 := by rw [encPT_len, hpA]
  dsimp only at hb hw
  refine Con.enter R_view_Machine_fenced_ok (args := [pv mp 0, vi w, vop o]) (by simp [R_view_Machine_fenced]) fun w0 => ?_
  simp only [R_view_Machine_fenced, argE, PM.G]
  rw [tc_of]
  repeat' first
      | refine EV.seq ?_
      | refine EV.skip ?_
      | refine EV.block ?_
      | refine EV.inBlock ?_
      | (refine EV.reg ?_; (conv => (arg 2; whnf)); simp only [push_cast, reduceIte, Nat.reduceEqDiff, reduceCtorEq, Nat.reduceAdd, Nat.reduceSub, Nat.reduceMul, Int.reduceToNat, Nat.reduceLeDiff, tc_len hA, hd_len, encV_len, ok1_encV, tc_st_now hA, tc_st_gained hA, tc_st_given hA, hd_st_all])
      | (refine EV.any _ (List.Sublist.refl _) ?_; (conv => (arg 2; whnf)); simp only [push_cast, reduceIte, Nat.reduceEqDiff, reduceCtorEq, Nat.reduceAdd, Nat.reduceSub, Nat.reduceMul, Int.reduceToNat, Nat.reduceLeDiff, tc_len hA, hd_len, encV_len, ok1_encV, tc_st_now hA, tc_st_gained hA, tc_st_given hA, hd_st_all])
      | (refine ConQ.call (view_join_l (RdL.of' (line := line) (lv := lv) (fun q hq => by simp [hq]) hb) _ _) ?_; try simp only [push_cast, reduceIte, Nat.reduceEqDiff, reduceCtorEq, Nat.reduceAdd, Nat.reduceSub, Nat.reduceMul, Int.reduceToNat, Nat.reduceLeDiff, tc_len hA, hd_len, encV_len, ok1_encV, tc_st_now hA, tc_st_gained hA, tc_st_given hA, hd_st_all])
      | (refine Exists.intro _ (And.intro (view_join_l (RdL.of' (line := line) (lv := lv) (fun q hq => by simp [hq]) hb) _ _) ?_); try simp only [push_cast, reduceIte, Nat.reduceEqDiff, reduceCtorEq, Nat.reduceAdd, Nat.reduceSub, Nat.reduceMul, Int.reduceToNat, Nat.reduceLeDiff, tc_len hA, hd_len, encV_len, ok1_encV, tc_st_now hA, tc_st_gained hA, tc_st_given hA, hd_st_all])
      | (refine ConQ.call (order_Releases_q _ ho) ?_; try simp only [push_cast, reduceIte, Nat.reduceEqDiff, reduceCtorEq, Nat.reduceAdd, Nat.reduceSub, Nat.reduceMul, Int.reduceToNat, Nat.reduceLeDiff, tc_len hA, hd_len, encV_len, ok1_encV, tc_st_now hA, tc_st_gained hA, tc_st_given hA, hd_st_all])
      | (refine Exists.intro _ (And.intro (order_Releases_q _ ho) ?_); try simp only [push_cast, reduceIte, Nat.reduceEqDiff, reduceCtorEq, Nat.reduceAdd, Nat.reduceSub, Nat.reduceMul, Int.reduceToNat, Nat.reduceLeDiff, tc_len hA, hd_len, encV_len, ok1_encV, tc_st_now hA, tc_st_gained hA, tc_st_given hA, hd_st_all])
      | (refine ConQ.call (order_Acquires_q _ ho) ?_; try simp only [push_cast, reduceIte, Nat.reduceEqDiff, reduceCtorEq, Nat.reduceAdd, Nat.reduceSub, Nat.reduceMul, Int.reduceToNat, Nat.reduceLeDiff, tc_len hA, hd_len, encV_len, ok1_encV, tc_st_now hA, tc_st_gained hA, tc_st_given hA, hd_st_all])
      | (refine Exists.intro _ (And.intro (order_Acquires_q _ ho) ?_); try simp only [push_cast, reduceIte, Nat.reduceEqDiff, reduceCtorEq, Nat.reduceAdd, Nat.reduceSub, Nat.reduceMul, Int.reduceToNat, Nat.reduceLeDiff, tc_len hA, hd_len, encV_len, ok1_encV, tc_st_now hA, tc_st_gained hA, tc_st_given hA, hd_st_all])
      | (refine Exists.intro _ (Exists.intro _ (Exists.intro _ (And.intro (rd_hd_all) ?_))); try simp only [push_cast, reduceIte, Nat.reduceEqDiff, reduceCtorEq, Nat.reduceAdd, Nat.reduceSub, Nat.reduceMul, Int.reduceToNat, Nat.reduceLeDiff, tc_len hA, hd_len, encV_len, ok1_encV, tc_st_now hA, tc_st_gained hA, tc_st_given hA, hd_st_all])
      | (refine Exists.intro _ (And.intro (rd_hd_all) ?_); try simp only [push_cast, reduceIte, Nat.reduceEqDiff, reduceCtorEq, Nat.reduceAdd, Nat.reduceSub, Nat.reduceMul, Int.reduceToNat, Nat.reduceLeDiff, tc_len hA, hd_len, encV_len, ok1_encV, tc_st_now hA, tc_st_gained hA, tc_st_given hA, hd_st_all])
      | (refine Exists.intro _ (Exists.intro _ (Exists.intro _ (And.intro (rd_hd_th) ?_))); try simp only [push_cast, reduceIte, Nat.reduceEqDiff, reduceCtorEq, Nat.reduceAdd, Nat.reduceSub, Nat.reduceMul, Int.reduceToNat, Nat.reduceLeDiff, tc_len hA, hd_len, encV_len, ok1_encV, tc_st_now hA, tc_st_gained hA, tc_st_given hA, hd_st_all])
      | (refine Exists.intro _ (And.intro (rd_hd_th) ?_); try simp only [push_cast, reduceIte, Nat.reduceEqDiff, reduceCtorEq, Nat.reduceAdd, Nat.reduceSub, Nat.reduceMul, Int.reduceToNat, Nat.reduceLeDiff, tc_len hA, hd_len, encV_len, ok1_encV, tc_st_now hA, tc_st_gained hA, tc_st_given hA, hd_st_all])
      | (refine Exists.intro _ (Exists.intro _ (Exists.intro _ (And.intro (rd_tc_given hA) ?_))); try simp only [push_cast, reduceIte, Nat.reduceEqDiff, reduceCtorEq, Nat.reduceAdd, Nat.reduceSub, Nat.reduceMul, Int.reduceToNat, Nat.reduceLeDiff, tc_len hA, hd_len, encV_len, ok1_encV, tc_st_now hA, tc_st_gained hA, tc_st_given hA, hd_st_all])
      | (refine Exists.intro _ (And.intro (rd_tc_given hA) ?_); try simp only [push_cast, reduceIte, Nat.reduceEqDiff, reduceCtorEq, Nat.reduceAdd, Nat.reduceSub, Nat.reduceMul, Int.reduceToNat, Nat.reduceLeDiff, tc_len hA, hd_len, encV_len, ok1_encV, tc_st_now hA, tc_st_gained hA, tc_st_given hA, hd_st_all])
      | (refine Exists.intro _ (Exists.intro _ (Exists.intro _ (And.intro (rd_tc_gained hA) ?_))); try simp only [push_cast, reduceIte, Nat.reduceEqDiff, reduceCtorEq, Nat.reduceAdd, Nat.reduceSub, Nat.reduceMul, Int.reduceToNat, Nat.reduceLeDiff, tc_len hA, hd_len, encV_len, ok1_encV, tc_st_now hA, tc_st_gained hA, tc_st_given hA, hd_st_all])
      | (refine Exists.intro _ (And.intro (rd_tc_gained hA) ?_); try simp only [push_cast, reduceIte, Nat.reduceEqDiff, reduceCtorEq, Nat.reduceAdd, Nat.reduceSub, Nat.reduceMul, Int.reduceToNat, Nat.reduceLeDiff, tc_len hA, hd_len, encV_len, ok1_encV, tc_st_now hA, tc_st_gained hA, tc_st_given hA, hd_st_all])
      | (refine Exists.intro _ (Exists.intro _ (Exists.intro _ (And.intro (rd_tc_now hA) ?_))); try simp only [push_cast, reduceIte, Nat.reduceEqDiff, reduceCtorEq, Nat.reduceAdd, Nat.reduceSub, Nat.reduceMul, Int.reduceToNat, Nat.reduceLeDiff, tc_len hA, hd_len, encV_len, ok1_encV, tc_st_now hA, tc_st_gained hA, tc_st_given hA, hd_st_all])
      | (refine Exists.intro _ (And.intro (rd_tc_now hA) ?_); try simp only [push_cast, reduceIte, Nat.reduceEqDiff, reduceCtorEq, Nat.reduceAdd, Nat.reduceSub, Nat.reduceMul, Int.reduceToNat, Nat.reduceLeDiff, tc_len hA, hd_len, encV_len, ok1_encV, tc_st_now hA, tc_st_gained hA, tc_st_given hA, hd_st_all])
      | assumption
      | (refine condW.merge ?_ (fun hc K' hK => ?_) ?_; rotate_left)
      | (refine condQ.mk ?_ (fun hc => ?_) ?_; rotate_left; (try simp only [decide_eq_true_eq, decide_eq_false_iff_not, Bool.not_eq_true', Bool.not_eq_false', Bool.and_eq_true, Bool.or_eq_true, Bool.and_eq_false_iff, Bool.or_eq_false_iff] at hc))
      | (with_reducible rfl)
      | ((refine EV.cond rfl (fun h => ?_) (fun h => ?_) <;> try simp only [reduceCtorEq, reduceIte, if_true, if_false, Bool.not_eq_true', Bool.not_eq_false', decide_eq_true_eq, decide_eq_false_iff_not, Bool.and_eq_true, Bool.or_eq_true, Bool.and_eq_false_iff, Bool.or_eq_false_iff] at h) <;> try (exfalso; first | exact h True.intro | (exact h; done) | omega))
      | (refine EV.exit rfl ?_)
      | (with_reducible intro b; try simp only [push_cast, reduceIte, Nat.reduceEqDiff, reduceCtorEq, Nat.reduceAdd, Nat.reduceSub, Nat.reduceMul, Int.reduceToNat, Nat.reduceLeDiff, tc_len hA, hd_len, encV_len, ok1_encV, tc_st_now hA, tc_st_gained hA, tc_st_given hA, hd_st_all])
      | with_reducible intro b
      | (refine And.intro (by omega) ?_)
      | (refine Exists.intro _ (And.intro (rd_M (by assumption)) ?_); try simp only [push_cast, reduceIte, Nat.reduceEqDiff, reduceCtorEq, Nat.reduceAdd, Nat.reduceSub, Nat.reduceMul, Int.reduceToNat, Nat.reduceLeDiff, tc_len hA, hd_len, encV_len, ok1_encV, tc_st_now hA, tc_st_gained hA, tc_st_given hA, hd_st_all])
      | (refine Exists.intro _ (Exists.intro _ (Exists.intro _ (And.intro (rd_M (by assumption)) ?_))); try simp only [push_cast, reduceIte, Nat.reduceEqDiff, reduceCtorEq, Nat.reduceAdd, Nat.reduceSub, Nat.reduceMul, Int.reduceToNat, Nat.reduceLeDiff, tc_len hA, hd_len, encV_len, ok1_encV, tc_st_now hA, tc_st_gained hA, tc_st_given hA, hd_st_all])
      | (refine Exists.intro _ (And.intro (by assumption) ?_); try simp only [push_cast, reduceIte, Nat.reduceEqDiff, reduceCtorEq, Nat.reduceAdd, Nat.reduceSub, Nat.reduceMul, Int.reduceToNat, Nat.reduceLeDiff, tc_len hA, hd_len, encV_len, ok1_encV, tc_st_now hA, tc_st_gained hA, tc_st_given hA, hd_st_all])
      | (refine Exists.intro _ (Exists.intro _ (Exists.intro _ (And.intro (by assumption) ?_))); try simp only [push_cast, reduceIte, Nat.reduceEqDiff, reduceCtorEq, Nat.reduceAdd, Nat.reduceSub, Nat.reduceMul, Int.reduceToNat, Nat.reduceLeDiff, tc_len hA, hd_len, encV_len, ok1_encV, tc_st_now hA, tc_st_gained hA, tc_st_given hA, hd_st_all])
      | (refine xr rfl (by simp only [List.length_cons, List.length_nil]; omega) ?_; try simp only [push_cast, reduceIte, Nat.reduceEqDiff, reduceCtorEq, Nat.reduceAdd, Nat.reduceSub, Nat.reduceMul, Int.reduceToNat, Nat.reduceLeDiff, tc_len hA, hd_len, encV_len, ok1_encV, tc_st_now hA, tc_st_gained hA, tc_st_given hA, hd_st_all])
      | (refine xi rfl (by simp only [List.length_cons, List.length_nil]; omega) ?_; try simp only [push_cast, reduceIte, Nat.reduceEqDiff, reduceCtorEq, Nat.reduceAdd, Nat.reduceSub, Nat.reduceMul, Int.reduceToNat, Nat.reduceLeDiff, tc_len hA, hd_len, encV_len, ok1_encV, tc_st_now hA, tc_st_gained hA, tc_st_given hA, hd_st_all])
      | (refine xs rfl (by simp only [List.length_cons, List.length_nil]; omega) ?_; try simp only [push_cast, reduceIte, Nat.reduceEqDiff, reduceCtorEq, Nat.reduceAdd, Nat.reduceSub, Nat.reduceMul, Int.reduceToNat, Nat.reduceLeDiff, tc_len hA, hd_len, encV_len, ok1_encV, tc_st_now hA, tc_st_gained hA, tc_st_given hA, hd_st_all])
      | (refine xw ?_; simp only [push_cast, reduceIte, Nat.reduceEqDiff, reduceCtorEq, Nat.reduceAdd, Nat.reduceSub, Nat.reduceMul, Int.reduceToNat, Nat.reduceLeDiff, tc_len hA, hd_len, encV_len, ok1_encV, tc_st_now hA, tc_st_gained hA, tc_st_given hA, hd_st_all])
      | (refine And.intro (PHeap.le_refl _) (And.intro (fun p hp => hp) ?_))
      | (refine And.intro (PHeap.le_refl _) (And.intro (fun p hp => List.mem_cons_of_mem _ hp) ?_))
      | (refine And.intro (PHeap.le_refl _) (And.intro (fun p hp => List.mem_cons_of_mem _ (List.mem_cons_of_mem _ hp)) ?_))
      | (refine And.intro (PHeap.le_refl _) (And.intro (mem_of_sub ?_) ?_); focus ((repeat' first | exact List.Sublist.refl _ | exact List.nil_sublist _ | exact List.sublist_append_left _ _ | refine List.Sublist.cons_cons _ ?_ | refine List.Sublist.append_left ?_ _ | refine List.sublist_append_of_sublist_right ?_ | refine List.Sublist.cons _ ?_); done); try simp only [push_cast, reduceIte, Nat.reduceEqDiff, reduceCtorEq, Nat.reduceAdd, Nat.reduceSub, Nat.reduceMul, Int.reduceToNat, Nat.reduceLeDiff, tc_len hA, hd_len, encV_len, ok1_encV, tc_st_now hA, tc_st_gained hA, tc_st_given hA, hd_st_all])
      | (exfalso; simp at hc; done)
      | (exfalso; omega)
      | exact false
      | fail "stuck"
  all_goals
    rename_i ha h4
    refine EV.to (ρ' := []) (G' := PM.G ⟨pg, pc, mv, lv, tv, prog, msgs, line, (fencedThr line all t o).2, pA ++ ((fencedThr line all t o).1, ov) :: pC⟩ mp) ?_ (by simp) (by simp only [PM.G, tc_of, rdsG_at, pt_len, fencedThr, ha, h, if_true, if_false, reduceCtorEq, reduceIte]; (first | simp only [if_pos h4] | simp only [if_neg h4]); (repeat' first | exact List.Sublist.refl _ | exact List.nil_sublist _ | exact List.sublist_append_left _ _ | refine List.Sublist.cons_cons _ ?_ | refine List.Sublist.append_left ?_ _ | refine List.sublist_append_of_sublist_right ?_ | refine List.Sublist.cons _ ?_))
    refine EV.done R_view_Machine_fenced_ok ?_
    simp only [push_cast, reduceIte, Nat.reduceEqDiff, reduceCtorEq, Nat.reduceAdd, Nat.reduceSub, Nat.reduceMul, Int.reduceToNat, Nat.reduceLeDiff, R_view_Machine_fenced]
    refine ⟨_, rfl, ok.thr _ _ (ok.rk (t, ov) (by simp)), ?_, rfl, rfl⟩
    subst hpA
    simp only [PM.vm, VM.fenced, thr_at, thr_set pA pC t _ ov ov]
    rfl

end
end Go.EV

namespace Go.EV
open Go.Proofs

theorem cat_perm {α : Type} {l1 l2 : List (List α)} (h : l1.Perm l2) : (cat l1).Perm (cat l2) := by
  induction h with
  | nil => exact List.Perm.refl _
  | cons x _ ih => rw [cat_cons, cat_cons]; exact List.Perm.append_left _ ih
  | swap x y l => rw [cat_cons, cat_cons, cat_cons, cat_cons]; exact perm_pull _ _ _
  | trans _ _ h1 h2 => exact h1.trans h2

theorem cat_move {α : Type} (l : List (List α)) (i j : Nat) (hi : i < l.length) (hj : j ≤ (l.eraseIdx i).length) : (cat l).Perm (cat ((l.eraseIdx i).insertIdx j l[i])) :=
  (cat_pull l i hi).trans (by
    have := cat_perm (List.perm_insertIdx l[i] (l.eraseIdx i) hj)
    rw [cat_cons] at this
    exact this.symm)

theorem sub4 {α : Type} {a b c d : α} {l l' : List α} (h : l.Sublist l') : (a :: b :: c :: d :: l).Sublist (a :: b :: c :: d :: l') := by simpa using h

section
variable {M : PHeap} {G : Own} {mp : Nat} {B : Nat}

theorem msg_part (msgs : List Msg) (sp : List Value) {n : Nat} (hn : n < msgs.length) : ((msgs.flatMap encMsg ++ sp).drop (n * 5)).take 5 = encMsg msgs[n]! := by
  have hl : (msgs.flatMap encMsg).length = msgs.length * 5 := flatMap_length (enc := encMsg) (fun _ => rfl) msgs
  rw [List.drop_append_of_le_length (by omega), List.take_append_of_le_length (by rw [List.length_drop]; omega), flatMap_part (enc := encMsg) (fun _ => rfl) hn, getB hn]

theorem rd_ms {b : Nat} {T : TypeId} {msgs : List Msg} {sp : List Value} {n : Nat} (hn : n < msgs.length) [h : At G b T (msgs.flatMap encMsg ++ sp)] : rd (M.add G) b (n * 5) 5 (encMsg msgs[n]!) := by
  have hl : (msgs.flatMap encMsg).length = msgs.length * 5 := flatMap_length (enc := encMsg) (fun _ => rfl) msgs
  exact rd_at h.mem (msg_part msgs sp hn) (by rw [List.length_append]; omega)
theorem rd_ms_word {b : Nat} {T : TypeId} {msgs : List Msg} {sp : List Value} {n : Nat} (hn : n < msgs.length) [h : At G b T (msgs.flatMap encMsg ++ sp)] : rd (M.add G) b (n * 5) 1 [vi msgs[n]!.word] := (rd_ms (T := T) (sp := sp) hn).part' 0 1 (by omega) rfl
theorem rd_ms_view {b : Nat} {T : TypeId} {msgs : List Msg} {sp : List Value} {n : Nat} (hn : n < msgs.length) [h : At G b T (msgs.flatMap encMsg ++ sp)] : rd (M.add G) b (n * 5 + 1) 3 (encV msgs[n]!.view) := (rd_ms (T := T) (sp := sp) hn).part' 1 3 (by omega) rfl

def readsThr (line : Nat → List Int) (s : Msg) (t : Thr) (number : Int) (o : OpV) : Thr :=
  let now1 := upd t.now o.loc.toNat number
  let now2 := if acqP o.ord then joinV line now1 s.view else now1
  ⟨now2, joinV line (joinV line t.gained s.view) now2, t.given, t.read ++ [s.word], t.next⟩

set_option maxRecDepth 8000 in
set_option maxHeartbeats 4000000 in
theorem view_reads_c (p : PM) (ok : p.Ok) (wf : p.vm.Wf B) {w : Nat} (hw : w < p.pt.length) {n : Nat} (hn : n < p.msgs.length) (o : OpV) (ho : okOpE o) : Con Try.prog 67 #[pv mp 0, vi w, vi n, vop o] M (p.G mp) fun v _ G' =>
    ∃ p' : PM, G' = p'.G mp ∧ p'.Ok ∧ p'.vm = p.vm.reads w n o ∧ p'.pg = p.pg ∧ p'.pc = p.pc := by
  have hb : ∀ l, l < 3 → (p.line l).length < 1000000 := fun l hl => by have h1 := wf.ll l hl; have h2 := wf.b0; simp only [PM.vm] at h1; omega
  have hrb := wf.rb
  have hB := wf.b0
  obtain ⟨kd, lo, v, w', od⟩ := o
  obtain ⟨o1, o2, o3, o4, o5⟩ := ho
  dsimp only at o1 o2 o3 o4 o5
  obtain ⟨l, rfl⟩ : ∃ l : Nat, lo = l := ⟨lo.toNat, by omega⟩
  have hl : l < 3 := by omega
  obtain ⟨pg, pc, mv, lv, tv, prog, msgs, line, all, pt⟩ := p
  obtain ⟨pA, ⟨t, ov⟩, pC, rfl, hpA⟩ := PM.split pt w hw
  have hA : (pA.flatMap encPT).length = w * 11 := by rw [encPT_len, hpA]
  dsimp only at hb hw hn
  have hrl : t.read.length ≤ B := hrb t (by simp [PM.vm])
  have hov := ok.rk (t, ov) (by simp)
  refine Con.enter R_view_Machine_reads_ok (args := [pv mp 0, vi w, vi n, vop ⟨kd, l, v, w', od⟩]) (by simp [R_view_Machine_reads]) fun w0 => ?_
  simp only [R_view_Machine_reads, argE, PM.G]
  rw [tc_of, rdsG_at]
  repeat' first
      | refine EV.seq ?_
      | refine EV.skip ?_
      | refine EV.block ?_
      | refine EV.inBlock ?_
      | (refine EV.reg ?_; (conv => (arg 2; whnf)); simp only [push_cast, reduceIte, Nat.reduceEqDiff, reduceCtorEq, Nat.reduceAdd, Nat.reduceSub, Nat.reduceMul, Int.reduceToNat, Nat.reduceLeDiff, tc_len hA, hd_len, encV_len, ok1_encV, tc_st_read hA])
      | assumption
      | (refine Exists.intro _ (Exists.intro _ (Exists.intro _ (And.intro (rd_hd_th) ?_))); try simp only [push_cast, reduceIte, Nat.reduceEqDiff, reduceCtorEq, Nat.reduceAdd, Nat.reduceSub, Nat.reduceMul, Int.reduceToNat, Nat.reduceLeDiff, tc_len hA, hd_len, encV_len, ok1_encV, tc_st_read hA])
      | (refine Exists.intro _ (And.intro (rd_hd_th) ?_); try simp only [push_cast, reduceIte, Nat.reduceEqDiff, reduceCtorEq, Nat.reduceAdd, Nat.reduceSub, Nat.reduceMul, Int.reduceToNat, Nat.reduceLeDiff, tc_len hA, hd_len, encV_len, ok1_encV, tc_st_read hA])
      | (refine condW.merge ?_ (fun hc K' hK => ?_) ?_; rotate_left)
      | (refine condQ.mk ?_ (fun hc => ?_) ?_; rotate_left; (try simp only [decide_eq_true_eq, decide_eq_false_iff_not, Bool.not_eq_true', Bool.not_eq_false', Bool.and_eq_true, Bool.or_eq_true, Bool.and_eq_false_iff, Bool.or_eq_false_iff] at hc))
      | (with_reducible rfl)
      | ((refine EV.cond rfl (fun h => ?_) (fun h => ?_) <;> try simp only [reduceCtorEq, reduceIte, if_true, if_false, Bool.not_eq_true', Bool.not_eq_false', decide_eq_true_eq, decide_eq_false_iff_not, Bool.and_eq_true, Bool.or_eq_true, Bool.and_eq_false_iff, Bool.or_eq_false_iff] at h) <;> try (exfalso; first | exact h True.intro | (exact h; done) | omega))
      | (refine EV.exit rfl ?_)
      | (with_reducible intro b; try simp only [push_cast, reduceIte, Nat.reduceEqDiff, reduceCtorEq, Nat.reduceAdd, Nat.reduceSub, Nat.reduceMul, Int.reduceToNat, Nat.reduceLeDiff, tc_len hA, hd_len, encV_len, ok1_encV, tc_st_read hA])
      | with_reducible intro b
      | (refine And.intro (by omega) ?_)
      | (refine Exists.intro _ (And.intro (rd_M (by assumption)) ?_); try simp only [push_cast, reduceIte, Nat.reduceEqDiff, reduceCtorEq, Nat.reduceAdd, Nat.reduceSub, Nat.reduceMul, Int.reduceToNat, Nat.reduceLeDiff, tc_len hA, hd_len, encV_len, ok1_encV, tc_st_read hA])
      | (refine Exists.intro _ (Exists.intro _ (Exists.intro _ (And.intro (rd_M (by assumption)) ?_))); try simp only [push_cast, reduceIte, Nat.reduceEqDiff, reduceCtorEq, Nat.reduceAdd, Nat.reduceSub, Nat.reduceMul, Int.reduceToNat, Nat.reduceLeDiff, tc_len hA, hd_len, encV_len, ok1_encV, tc_st_read hA])
      | (refine Exists.intro _ (And.intro (by assumption) ?_); try simp only [push_cast, reduceIte, Nat.reduceEqDiff, reduceCtorEq, Nat.reduceAdd, Nat.reduceSub, Nat.reduceMul, Int.reduceToNat, Nat.reduceLeDiff, tc_len hA, hd_len, encV_len, ok1_encV, tc_st_read hA])
      | (refine Exists.intro _ (Exists.intro _ (Exists.intro _ (And.intro (by assumption) ?_))); try simp only [push_cast, reduceIte, Nat.reduceEqDiff, reduceCtorEq, Nat.reduceAdd, Nat.reduceSub, Nat.reduceMul, Int.reduceToNat, Nat.reduceLeDiff, tc_len hA, hd_len, encV_len, ok1_encV, tc_st_read hA])
      | (refine xr rfl (by simp only [List.length_cons, List.length_nil]; omega) ?_; try simp only [push_cast, reduceIte, Nat.reduceEqDiff, reduceCtorEq, Nat.reduceAdd, Nat.reduceSub, Nat.reduceMul, Int.reduceToNat, Nat.reduceLeDiff, tc_len hA, hd_len, encV_len, ok1_encV, tc_st_read hA])
      | (refine xi rfl (by simp only [List.length_cons, List.length_nil]; omega) ?_; try simp only [push_cast, reduceIte, Nat.reduceEqDiff, reduceCtorEq, Nat.reduceAdd, Nat.reduceSub, Nat.reduceMul, Int.reduceToNat, Nat.reduceLeDiff, tc_len hA, hd_len, encV_len, ok1_encV, tc_st_read hA])
      | (refine xs rfl (by simp only [List.length_cons, List.length_nil]; omega) ?_; try simp only [push_cast, reduceIte, Nat.reduceEqDiff, reduceCtorEq, Nat.reduceAdd, Nat.reduceSub, Nat.reduceMul, Int.reduceToNat, Nat.reduceLeDiff, tc_len hA, hd_len, encV_len, ok1_encV, tc_st_read hA])
      | (refine xw ?_; simp only [push_cast, reduceIte, Nat.reduceEqDiff, reduceCtorEq, Nat.reduceAdd, Nat.reduceSub, Nat.reduceMul, Int.reduceToNat, Nat.reduceLeDiff, tc_len hA, hd_len, encV_len, ok1_encV, tc_st_read hA])
      | (refine And.intro (PHeap.le_refl _) (And.intro (fun p hp => hp) ?_))
      | (refine And.intro (PHeap.le_refl _) (And.intro (fun p hp => List.mem_cons_of_mem _ hp) ?_))
      | (refine And.intro (PHeap.le_refl _) (And.intro (fun p hp => List.mem_cons_of_mem _ (List.mem_cons_of_mem _ hp)) ?_))
      | (refine And.intro (PHeap.le_refl _) (And.intro (mem_of_sub ?_) ?_); focus ((repeat' first | exact List.Sublist.refl _ | exact List.nil_sublist _ | exact List.sublist_append_left _ _ | refine List.Sublist.cons_cons _ ?_ | refine List.Sublist.append_left ?_ _ | refine List.sublist_append_of_sublist_right ?_ | refine List.Sublist.cons _ ?_); done); try simp only [push_cast, reduceIte, Nat.reduceEqDiff, reduceCtorEq, Nat.reduceAdd, Nat.reduceSub, Nat.reduceMul, Int.reduceToNat, Nat.reduceLeDiff, tc_len hA, hd_len, encV_len, ok1_encV, tc_st_read hA])
      | (exfalso; simp at hc; done)
      | (exfalso; omega)
      | exact false
      | fail "stuck"
  refine EV.any (t := R_view_Machine_reads_2) _ (sub4 (List.Sublist.append_left (List.Sublist.append_left (List.sublist_append_right _ _) _) _)) ?_
  simp only [push_cast, reduceIte, Nat.reduceEqDiff, reduceCtorEq, Nat.reduceAdd, Nat.reduceSub, Nat.reduceMul, Int.reduceToNat, Nat.reduceLeDiff, R_view_Machine_reads_2]
  repeat' first
      | refine EV.seq ?_
      | refine EV.skip ?_
      | refine EV.block ?_
      | refine EV.inBlock ?_
      | (refine EV.reg ?_; (conv => (arg 2; whnf)); simp only [push_cast, reduceIte, Nat.reduceEqDiff, reduceCtorEq, Nat.reduceAdd, Nat.reduceSub, Nat.reduceMul, Int.reduceToNat, Nat.reduceLeDiff, tc_len hA, hd_len, encV_len, ok1_encV, tc_st_read hA])
      | (refine EV.any _ (List.Sublist.refl _) ?_; (conv => (arg 2; whnf)); simp only [push_cast, reduceIte, Nat.reduceEqDiff, reduceCtorEq, Nat.reduceAdd, Nat.reduceSub, Nat.reduceMul, Int.reduceToNat, Nat.reduceLeDiff, tc_len hA, hd_len, encV_len, ok1_encV, tc_st_read hA])
      | (refine Exists.intro _ (Exists.intro _ (Exists.intro _ (And.intro (rd_ms_word hn) ?_))); try simp only [push_cast, reduceIte, Nat.reduceEqDiff, reduceCtorEq, Nat.reduceAdd, Nat.reduceSub, Nat.reduceMul, Int.reduceToNat, Nat.reduceLeDiff, tc_len hA, hd_len, encV_len, ok1_encV, tc_st_read hA])
      | (refine Exists.intro _ (And.intro (rd_ms_word hn) ?_); try simp only [push_cast, reduceIte, Nat.reduceEqDiff, reduceCtorEq, Nat.reduceAdd, Nat.reduceSub, Nat.reduceMul, Int.reduceToNat, Nat.reduceLeDiff, tc_len hA, hd_len, encV_len, ok1_encV, tc_st_read hA])
      | (refine Exists.intro _ (Exists.intro _ (Exists.intro _ (And.intro (rd_hd_ms) ?_))); try simp only [push_cast, reduceIte, Nat.reduceEqDiff, reduceCtorEq, Nat.reduceAdd, Nat.reduceSub, Nat.reduceMul, Int.reduceToNat, Nat.reduceLeDiff, tc_len hA, hd_len, encV_len, ok1_encV, tc_st_read hA])
      | (refine Exists.intro _ (And.intro (rd_hd_ms) ?_); try simp only [push_cast, reduceIte, Nat.reduceEqDiff, reduceCtorEq, Nat.reduceAdd, Nat.reduceSub, Nat.reduceMul, Int.reduceToNat, Nat.reduceLeDiff, tc_len hA, hd_len, encV_len, ok1_encV, tc_st_read hA])
      | (refine Exists.intro _ (Exists.intro _ (Exists.intro _ (And.intro (rd_hd_th) ?_))); try simp only [push_cast, reduceIte, Nat.reduceEqDiff, reduceCtorEq, Nat.reduceAdd, Nat.reduceSub, Nat.reduceMul, Int.reduceToNat, Nat.reduceLeDiff, tc_len hA, hd_len, encV_len, ok1_encV, tc_st_read hA])
      | (refine Exists.intro _ (And.intro (rd_hd_th) ?_); try simp only [push_cast, reduceIte, Nat.reduceEqDiff, reduceCtorEq, Nat.reduceAdd, Nat.reduceSub, Nat.reduceMul, Int.reduceToNat, Nat.reduceLeDiff, tc_len hA, hd_len, encV_len, ok1_encV, tc_st_read hA])
      | (refine Exists.intro _ (Exists.intro _ (Exists.intro _ (And.intro (rd_tc_read hA) ?_))); try simp only [push_cast, reduceIte, Nat.reduceEqDiff, reduceCtorEq, Nat.reduceAdd, Nat.reduceSub, Nat.reduceMul, Int.reduceToNat, Nat.reduceLeDiff, tc_len hA, hd_len, encV_len, ok1_encV, tc_st_read hA])
      | (refine Exists.intro _ (And.intro (rd_tc_read hA) ?_); try simp only [push_cast, reduceIte, Nat.reduceEqDiff, reduceCtorEq, Nat.reduceAdd, Nat.reduceSub, Nat.reduceMul, Int.reduceToNat, Nat.reduceLeDiff, tc_len hA, hd_len, encV_len, ok1_encV, tc_st_read hA])
      | assumption
      | (refine condW.merge ?_ (fun hc K' hK => ?_) ?_; rotate_left)
      | (refine condQ.mk ?_ (fun hc => ?_) ?_; rotate_left; (try simp only [decide_eq_true_eq, decide_eq_false_iff_not, Bool.not_eq_true', Bool.not_eq_false', Bool.and_eq_true, Bool.or_eq_true, Bool.and_eq_false_iff, Bool.or_eq_false_iff] at hc))
      | (with_reducible rfl)
      | ((refine EV.cond rfl (fun h => ?_) (fun h => ?_) <;> try simp only [reduceCtorEq, reduceIte, if_true, if_false, Bool.not_eq_true', Bool.not_eq_false', decide_eq_true_eq, decide_eq_false_iff_not, Bool.and_eq_true, Bool.or_eq_true, Bool.and_eq_false_iff, Bool.or_eq_false_iff] at h) <;> try (exfalso; first | exact h True.intro | (exact h; done) | omega))
      | (refine EV.exit rfl ?_)
      | (with_reducible intro b; try simp only [push_cast, reduceIte, Nat.reduceEqDiff, reduceCtorEq, Nat.reduceAdd, Nat.reduceSub, Nat.reduceMul, Int.reduceToNat, Nat.reduceLeDiff, tc_len hA, hd_len, encV_len, ok1_encV, tc_st_read hA])
      | with_reducible intro b
      | (refine And.intro (by omega) ?_)
      | (refine Exists.intro _ (And.intro (rd_M (by assumption)) ?_); try simp only [push_cast, reduceIte, Nat.reduceEqDiff, reduceCtorEq, Nat.reduceAdd, Nat.reduceSub, Nat.reduceMul, Int.reduceToNat, Nat.reduceLeDiff, tc_len hA, hd_len, encV_len, ok1_encV, tc_st_read hA])
      | (refine Exists.intro _ (Exists.intro _ (Exists.intro _ (And.intro (rd_M (by assumption)) ?_))); try simp only [push_cast, reduceIte, Nat.reduceEqDiff, reduceCtorEq, Nat.reduceAdd, Nat.reduceSub, Nat.reduceMul, Int.reduceToNat, Nat.reduceLeDiff, tc_len hA, hd_len, encV_len, ok1_encV, tc_st_read hA])
      | (refine Exists.intro _ (And.intro (by assumption) ?_); try simp only [push_cast, reduceIte, Nat.reduceEqDiff, reduceCtorEq, Nat.reduceAdd, Nat.reduceSub, Nat.reduceMul, Int.reduceToNat, Nat.reduceLeDiff, tc_len hA, hd_len, encV_len, ok1_encV, tc_st_read hA])
      | (refine Exists.intro _ (Exists.intro _ (Exists.intro _ (And.intro (by assumption) ?_))); try simp only [push_cast, reduceIte, Nat.reduceEqDiff, reduceCtorEq, Nat.reduceAdd, Nat.reduceSub, Nat.reduceMul, Int.reduceToNat, Nat.reduceLeDiff, tc_len hA, hd_len, encV_len, ok1_encV, tc_st_read hA])
      | (refine xr rfl (by simp only [List.length_cons, List.length_nil]; omega) ?_; try simp only [push_cast, reduceIte, Nat.reduceEqDiff, reduceCtorEq, Nat.reduceAdd, Nat.reduceSub, Nat.reduceMul, Int.reduceToNat, Nat.reduceLeDiff, tc_len hA, hd_len, encV_len, ok1_encV, tc_st_read hA])
      | (refine xi rfl (by simp only [List.length_cons, List.length_nil]; omega) ?_; try simp only [push_cast, reduceIte, Nat.reduceEqDiff, reduceCtorEq, Nat.reduceAdd, Nat.reduceSub, Nat.reduceMul, Int.reduceToNat, Nat.reduceLeDiff, tc_len hA, hd_len, encV_len, ok1_encV, tc_st_read hA])
      | (refine xs rfl (by simp only [List.length_cons, List.length_nil]; omega) ?_; try simp only [push_cast, reduceIte, Nat.reduceEqDiff, reduceCtorEq, Nat.reduceAdd, Nat.reduceSub, Nat.reduceMul, Int.reduceToNat, Nat.reduceLeDiff, tc_len hA, hd_len, encV_len, ok1_encV, tc_st_read hA])
      | (refine xw ?_; simp only [push_cast, reduceIte, Nat.reduceEqDiff, reduceCtorEq, Nat.reduceAdd, Nat.reduceSub, Nat.reduceMul, Int.reduceToNat, Nat.reduceLeDiff, tc_len hA, hd_len, encV_len, ok1_encV, tc_st_read hA])
      | (refine And.intro (PHeap.le_refl _) (And.intro (fun p hp => hp) ?_))
      | (refine And.intro (PHeap.le_refl _) (And.intro (fun p hp => List.mem_cons_of_mem _ hp) ?_))
      | (refine And.intro (PHeap.le_refl _) (And.intro (fun p hp => List.mem_cons_of_mem _ (List.mem_cons_of_mem _ hp)) ?_))
      | (refine And.intro (PHeap.le_refl _) (And.intro (mem_of_sub ?_) ?_); focus ((repeat' first | exact List.Sublist.refl _ | exact List.nil_sublist _ | exact List.sublist_append_left _ _ | refine List.Sublist.cons_cons _ ?_ | refine List.Sublist.append_left ?_ _ | refine List.sublist_append_of_sublist_right ?_ | refine List.Sublist.cons _ ?_); done); try simp only [push_cast, reduceIte, Nat.reduceEqDiff, reduceCtorEq, Nat.reduceAdd, Nat.reduceSub, Nat.reduceMul, Int.reduceToNat, Nat.reduceLeDiff, tc_len hA, hd_len, encV_len, ok1_encV, tc_st_read hA])
      | (exfalso; simp at hc; done)
      | (exfalso; omega)
      | exact false
      | fail "stuck"
  refine ⟨_, Or.inr ⟨_, 0, rfl, rd_own' 0 rfl rfl (by simp)⟩, by simp [ok1_cons, ok1_nil, Value.oneCell'], Or.inl ⟨_, _, rfl, _, hov, _, cat_pull [[_, _, _, _, _], lnG line lv, rdsG pA, osg 3 ov _, rdsG pC] 3 (by simp), ?_, ?_, ?_⟩⟩
  · simp only [maxLen]; omega
  · omega
  intro ov1 hov1 _
  simp only [List.eraseIdx_cons_succ, List.eraseIdx_cons_zero, List.getElem_cons_succ, List.getElem_cons_zero, cat_two, cat_one, cat_nil, List.nil_append, List.cons_append, List.append_assoc, List.append_nil]
  repeat' first
      | refine EV.seq ?_
      | refine EV.skip ?_
      | refine EV.block ?_
      | refine EV.inBlock ?_
      | (refine EV.reg ?_; (conv => (arg 2; whnf)); simp only [push_cast, reduceIte, Nat.reduceEqDiff, reduceCtorEq, Nat.reduceAdd, Nat.reduceSub, Nat.reduceMul, Int.reduceToNat, Nat.reduceLeDiff, tc_len hA, hd_len, encV_len, ok1_encV, tc_st_now hA, tc_st_gained hA, tc_st_read hA, tc_st_at hA hl])
      | (refine EV.any _ (List.Sublist.refl _) ?_; (conv => (arg 2; whnf)); simp only [push_cast, reduceIte, Nat.reduceEqDiff, reduceCtorEq, Nat.reduceAdd, Nat.reduceSub, Nat.reduceMul, Int.reduceToNat, Nat.reduceLeDiff, tc_len hA, hd_len, encV_len, ok1_encV, tc_st_now hA, tc_st_gained hA, tc_st_read hA, tc_st_at hA hl])
      | (refine ConQ.call (view_join_l (RdL.of' (line := line) (lv := lv) (fun q hq => by simp [hq]) hb) _ _) ?_; try simp only [push_cast, reduceIte, Nat.reduceEqDiff, reduceCtorEq, Nat.reduceAdd, Nat.reduceSub, Nat.reduceMul, Int.reduceToNat, Nat.reduceLeDiff, tc_len hA, hd_len, encV_len, ok1_encV, tc_st_now hA, tc_st_gained hA, tc_st_read hA, tc_st_at hA hl])
      | (refine Exists.intro _ (And.intro (view_join_l (RdL.of' (line := line) (lv := lv) (fun q hq => by simp [hq]) hb) _ _) ?_); try simp only [push_cast, reduceIte, Nat.reduceEqDiff, reduceCtorEq, Nat.reduceAdd, Nat.reduceSub, Nat.reduceMul, Int.reduceToNat, Nat.reduceLeDiff, tc_len hA, hd_len, encV_len, ok1_encV, tc_st_now hA, tc_st_gained hA, tc_st_read hA, tc_st_at hA hl])
      | (refine ConQ.call (order_Acquires_q _ o5) ?_; try simp only [push_cast, reduceIte, Nat.reduceEqDiff, reduceCtorEq, Nat.reduceAdd, Nat.reduceSub, Nat.reduceMul, Int.reduceToNat, Nat.reduceLeDiff, tc_len hA, hd_len, encV_len, ok1_encV, tc_st_now hA, tc_st_gained hA, tc_st_read hA, tc_st_at hA hl])
      | (refine Exists.intro _ (And.intro (order_Acquires_q _ o5) ?_); try simp only [push_cast, reduceIte, Nat.reduceEqDiff, reduceCtorEq, Nat.reduceAdd, Nat.reduceSub, Nat.reduceMul, Int.reduceToNat, Nat.reduceLeDiff, tc_len hA, hd_len, encV_len, ok1_encV, tc_st_now hA, tc_st_gained hA, tc_st_read hA, tc_st_at hA hl])
      | (refine Exists.intro _ (Exists.intro _ (Exists.intro _ (And.intro (rd_box) ?_))); try simp only [push_cast, reduceIte, Nat.reduceEqDiff, reduceCtorEq, Nat.reduceAdd, Nat.reduceSub, Nat.reduceMul, Int.reduceToNat, Nat.reduceLeDiff, tc_len hA, hd_len, encV_len, ok1_encV, tc_st_now hA, tc_st_gained hA, tc_st_read hA, tc_st_at hA hl])
      | (refine Exists.intro _ (And.intro (rd_box) ?_); try simp only [push_cast, reduceIte, Nat.reduceEqDiff, reduceCtorEq, Nat.reduceAdd, Nat.reduceSub, Nat.reduceMul, Int.reduceToNat, Nat.reduceLeDiff, tc_len hA, hd_len, encV_len, ok1_encV, tc_st_now hA, tc_st_gained hA, tc_st_read hA, tc_st_at hA hl])
      | (refine Exists.intro _ (Exists.intro _ (Exists.intro _ (And.intro (rd_ms_view hn) ?_))); try simp only [push_cast, reduceIte, Nat.reduceEqDiff, reduceCtorEq, Nat.reduceAdd, Nat.reduceSub, Nat.reduceMul, Int.reduceToNat, Nat.reduceLeDiff, tc_len hA, hd_len, encV_len, ok1_encV, tc_st_now hA, tc_st_gained hA, tc_st_read hA, tc_st_at hA hl])
      | (refine Exists.intro _ (And.intro (rd_ms_view hn) ?_); try simp only [push_cast, reduceIte, Nat.reduceEqDiff, reduceCtorEq, Nat.reduceAdd, Nat.reduceSub, Nat.reduceMul, Int.reduceToNat, Nat.reduceLeDiff, tc_len hA, hd_len, encV_len, ok1_encV, tc_st_now hA, tc_st_gained hA, tc_st_read hA, tc_st_at hA hl])
      | (refine Exists.intro _ (Exists.intro _ (Exists.intro _ (And.intro (rd_hd_ms) ?_))); try simp only [push_cast, reduceIte, Nat.reduceEqDiff, reduceCtorEq, Nat.reduceAdd, Nat.reduceSub, Nat.reduceMul, Int.reduceToNat, Nat.reduceLeDiff, tc_len hA, hd_len, encV_len, ok1_encV, tc_st_now hA, tc_st_gained hA, tc_st_read hA, tc_st_at hA hl])
      | (refine Exists.intro _ (And.intro (rd_hd_ms) ?_); try simp only [push_cast, reduceIte, Nat.reduceEqDiff, reduceCtorEq, Nat.reduceAdd, Nat.reduceSub, Nat.reduceMul, Int.reduceToNat, Nat.reduceLeDiff, tc_len hA, hd_len, encV_len, ok1_encV, tc_st_now hA, tc_st_gained hA, tc_st_read hA, tc_st_at hA hl])
      | (refine Exists.intro _ (Exists.intro _ (Exists.intro _ (And.intro (rd_tc_gained hA) ?_))); try simp only [push_cast, reduceIte, Nat.reduceEqDiff, reduceCtorEq, Nat.reduceAdd, Nat.reduceSub, Nat.reduceMul, Int.reduceToNat, Nat.reduceLeDiff, tc_len hA, hd_len, encV_len, ok1_encV, tc_st_now hA, tc_st_gained hA, tc_st_read hA, tc_st_at hA hl])
      | (refine Exists.intro _ (And.intro (rd_tc_gained hA) ?_); try simp only [push_cast, reduceIte, Nat.reduceEqDiff, reduceCtorEq, Nat.reduceAdd, Nat.reduceSub, Nat.reduceMul, Int.reduceToNat, Nat.reduceLeDiff, tc_len hA, hd_len, encV_len, ok1_encV, tc_st_now hA, tc_st_gained hA, tc_st_read hA, tc_st_at hA hl])
      | (refine Exists.intro _ (Exists.intro _ (Exists.intro _ (And.intro (rd_tc_now hA) ?_))); try simp only [push_cast, reduceIte, Nat.reduceEqDiff, reduceCtorEq, Nat.reduceAdd, Nat.reduceSub, Nat.reduceMul, Int.reduceToNat, Nat.reduceLeDiff, tc_len hA, hd_len, encV_len, ok1_encV, tc_st_now hA, tc_st_gained hA, tc_st_read hA, tc_st_at hA hl])
      | (refine Exists.intro _ (And.intro (rd_tc_now hA) ?_); try simp only [push_cast, reduceIte, Nat.reduceEqDiff, reduceCtorEq, Nat.reduceAdd, Nat.reduceSub, Nat.reduceMul, Int.reduceToNat, Nat.reduceLeDiff, tc_len hA, hd_len, encV_len, ok1_encV, tc_st_now hA, tc_st_gained hA, tc_st_read hA, tc_st_at hA hl])
      | assumption
      | (refine condW.merge ?_ (fun hc K' hK => ?_) ?_; rotate_left)
      | (refine condQ.mk ?_ (fun hc => ?_) ?_; rotate_left; (try simp only [decide_eq_true_eq, decide_eq_false_iff_not, Bool.not_eq_true', Bool.not_eq_false', Bool.and_eq_true, Bool.or_eq_true, Bool.and_eq_false_iff, Bool.or_eq_false_iff] at hc))
      | (with_reducible rfl)
      | ((refine EV.cond rfl (fun h => ?_) (fun h => ?_) <;> try simp only [reduceCtorEq, reduceIte, if_true, if_false, Bool.not_eq_true', Bool.not_eq_false', decide_eq_true_eq, decide_eq_false_iff_not, Bool.and_eq_true, Bool.or_eq_true, Bool.and_eq_false_iff, Bool.or_eq_false_iff] at h) <;> try (exfalso; first | exact h True.intro | (exact h; done) | omega))
      | (refine EV.exit rfl ?_)
      | (with_reducible intro b; try simp only [push_cast, reduceIte, Nat.reduceEqDiff, reduceCtorEq, Nat.reduceAdd, Nat.reduceSub, Nat.reduceMul, Int.reduceToNat, Nat.reduceLeDiff, tc_len hA, hd_len, encV_len, ok1_encV, tc_st_now hA, tc_st_gained hA, tc_st_read hA, tc_st_at hA hl])
      | with_reducible intro b
      | (refine And.intro (by omega) ?_)
      | (refine Exists.intro _ (And.intro (rd_M (by assumption)) ?_); try simp only [push_cast, reduceIte, Nat.reduceEqDiff, reduceCtorEq, Nat.reduceAdd, Nat.reduceSub, Nat.reduceMul, Int.reduceToNat, Nat.reduceLeDiff, tc_len hA, hd_len, encV_len, ok1_encV, tc_st_now hA, tc_st_gained hA, tc_st_read hA, tc_st_at hA hl])
      | (refine Exists.intro _ (Exists.intro _ (Exists.intro _ (And.intro (rd_M (by assumption)) ?_))); try simp only [push_cast, reduceIte, Nat.reduceEqDiff, reduceCtorEq, Nat.reduceAdd, Nat.reduceSub, Nat.reduceMul, Int.reduceToNat, Nat.reduceLeDiff, tc_len hA, hd_len, encV_len, ok1_encV, tc_st_now hA, tc_st_gained hA, tc_st_read hA, tc_st_at hA hl])
      | (refine Exists.intro _ (And.intro (by assumption) ?_); try simp only [push_cast, reduceIte, Nat.reduceEqDiff, reduceCtorEq, Nat.reduceAdd, Nat.reduceSub, Nat.reduceMul, Int.reduceToNat, Nat.reduceLeDiff, tc_len hA, hd_len, encV_len, ok1_encV, tc_st_now hA, tc_st_gained hA, tc_st_read hA, tc_st_at hA hl])
      | (refine Exists.intro _ (Exists.intro _ (Exists.intro _ (And.intro (by assumption) ?_))); try simp only [push_cast, reduceIte, Nat.reduceEqDiff, reduceCtorEq, Nat.reduceAdd, Nat.reduceSub, Nat.reduceMul, Int.reduceToNat, Nat.reduceLeDiff, tc_len hA, hd_len, encV_len, ok1_encV, tc_st_now hA, tc_st_gained hA, tc_st_read hA, tc_st_at hA hl])
      | (refine xr rfl (by simp only [List.length_cons, List.length_nil]; omega) ?_; try simp only [push_cast, reduceIte, Nat.reduceEqDiff, reduceCtorEq, Nat.reduceAdd, Nat.reduceSub, Nat.reduceMul, Int.reduceToNat, Nat.reduceLeDiff, tc_len hA, hd_len, encV_len, ok1_encV, tc_st_now hA, tc_st_gained hA, tc_st_read hA, tc_st_at hA hl])
      | (refine xi rfl (by simp only [List.length_cons, List.length_nil]; omega) ?_; try simp only [push_cast, reduceIte, Nat.reduceEqDiff, reduceCtorEq, Nat.reduceAdd, Nat.reduceSub, Nat.reduceMul, Int.reduceToNat, Nat.reduceLeDiff, tc_len hA, hd_len, encV_len, ok1_encV, tc_st_now hA, tc_st_gained hA, tc_st_read hA, tc_st_at hA hl])
      | (refine xs rfl (by simp only [List.length_cons, List.length_nil]; omega) ?_; try simp only [push_cast, reduceIte, Nat.reduceEqDiff, reduceCtorEq, Nat.reduceAdd, Nat.reduceSub, Nat.reduceMul, Int.reduceToNat, Nat.reduceLeDiff, tc_len hA, hd_len, encV_len, ok1_encV, tc_st_now hA, tc_st_gained hA, tc_st_read hA, tc_st_at hA hl])
      | (refine xw ?_; simp only [push_cast, reduceIte, Nat.reduceEqDiff, reduceCtorEq, Nat.reduceAdd, Nat.reduceSub, Nat.reduceMul, Int.reduceToNat, Nat.reduceLeDiff, tc_len hA, hd_len, encV_len, ok1_encV, tc_st_now hA, tc_st_gained hA, tc_st_read hA, tc_st_at hA hl])
      | (refine And.intro (PHeap.le_refl _) (And.intro (fun p hp => hp) ?_))
      | (refine And.intro (PHeap.le_refl _) (And.intro (fun p hp => List.mem_cons_of_mem _ hp) ?_))
      | (refine And.intro (PHeap.le_refl _) (And.intro (fun p hp => List.mem_cons_of_mem _ (List.mem_cons_of_mem _ hp)) ?_))
      | (refine And.intro (PHeap.le_refl _) (And.intro (mem_of_sub ?_) ?_); focus ((repeat' first | exact List.Sublist.refl _ | exact List.nil_sublist _ | exact List.sublist_append_left _ _ | refine List.Sublist.cons_cons _ ?_ | refine List.Sublist.append_left ?_ _ | refine List.sublist_append_of_sublist_right ?_ | refine List.Sublist.cons _ ?_); done); try simp only [push_cast, reduceIte, Nat.reduceEqDiff, reduceCtorEq, Nat.reduceAdd, Nat.reduceSub, Nat.reduceMul, Int.reduceToNat, Nat.reduceLeDiff, tc_len hA, hd_len, encV_len, ok1_encV, tc_st_now hA, tc_st_gained hA, tc_st_read hA, tc_st_at hA hl])
      | (exfalso; simp at hc; done)
      | (exfalso; omega)
      | exact false
      | fail "stuck"
  all_goals
    refine EV.permG ?_ (cat_move [[_, _, _, _, _, _], lnG line lv, rdsG pA, rdsG pC, osg 3 ov1 _] 4 3 (by simp) (by simp))
    simp only [List.eraseIdx_cons_succ, List.eraseIdx_cons_zero, List.getElem_cons_succ, List.getElem_cons_zero, List.insertIdx_zero, List.insertIdx_succ_cons, cat_two, cat_one, cat_nil, List.nil_append, List.cons_append, List.append_assoc, List.append_nil]
    refine EV.to (ρ' := []) (G' := PM.G ⟨pg, pc, mv, lv, tv, prog, msgs, line, all, pA ++ (readsThr line msgs[n]! t n ⟨kd, l, v, w', od⟩, ov1) :: pC⟩ mp) ?_ (by simp) (by simp only [PM.G, tc_of, rdsG_at, pt_len, readsThr, h, if_true, if_false, reduceCtorEq, reduceIte, List.length_append, List.length_singleton, List.map_append, List.map_cons, List.map_nil, Int.toNat_natCast]; (repeat' first | exact List.Sublist.refl _ | exact List.nil_sublist _ | exact List.sublist_append_left _ _ | refine List.Sublist.cons_cons _ ?_ | refine List.Sublist.append_left ?_ _ | refine List.sublist_append_of_sublist_right ?_ | refine List.Sublist.cons _ ?_))
    refine EV.done R_view_Machine_reads_ok ?_
    simp only [push_cast, reduceIte, Nat.reduceEqDiff, reduceCtorEq, Nat.reduceAdd, Nat.reduceSub, Nat.reduceMul, Int.reduceToNat, Nat.reduceLeDiff, R_view_Machine_reads]
    refine ⟨_, rfl, ok.thr _ _ (by simpa [readsThr] using hov1), ?_, rfl, rfl⟩
    subst hpA
    simp only [PM.vm, VM.reads, VM.setThr, thr_at, thr_set pA pC t _ ov ov1, Int.toNat_natCast]
    rfl

end
end Go.EV

namespace Go.EV
open Go.Proofs
section
variable {M : PHeap}

def insL (xs : List Int) (i : Nat) (x : Int) : List Int := xs.take i ++ x :: xs.drop i

theorem ex_cast1 {p : Nat → Prop} (n : Nat) : (∃ l : Nat, (n : Int) + 1 = l ∧ p l) ↔ p (n + 1) :=
  ⟨fun ⟨l, e, h⟩ => by have : l = n + 1 := by omega
                       exact this ▸ h, fun h => ⟨n + 1, by omega, h⟩⟩

theorem two1 {α : Type} (A Z s1 D : List α) (v : α) {i : Nat} (hA : A.length = i) (hZ : Z.length = D.length + 1) :
    (((A ++ (Z ++ s1)).take i ++ v :: (A ++ (Z ++ s1)).drop (i + 1)).take (i + 1) ++ (D ++ ((A ++ (Z ++ s1)).take i ++ v :: (A ++ (Z ++ s1)).drop (i + 1)).drop (i + 1 + D.length))) = A ++ (v :: (D ++ s1)) := by
  subst hA
  cases Z with
  | nil => simp at hZ
  | cons z Z =>
    have hZ' : Z.length = D.length := by simpa using hZ
    have e1 : (A ++ (z :: Z ++ s1)).take A.length = A := by simp
    have e2 : (A ++ (z :: Z ++ s1)).drop (A.length + 1) = Z ++ s1 := by simp [List.drop_length_add_append]
    rw [e1, e2, List.take_length_add_append, Nat.add_assoc, List.drop_length_add_append]
    simp [← hZ', Nat.add_comm 1]

theorem two2 {α : Type} (P D sp : List α) (s0 v : α) {i : Nat} (hP : P.length = i) :
    (((P ++ (D ++ (s0 :: sp))).take (i + 1) ++ (D ++ (P ++ (D ++ (s0 :: sp))).drop (i + 1 + D.length))).take i ++ v :: ((P ++ (D ++ (s0 :: sp))).take (i + 1) ++ (D ++ (P ++ (D ++ (s0 :: sp))).drop (i + 1 + D.length))).drop (i + 1)) = P ++ (v :: (D ++ sp)) := by
  subst hP
  have e1 : ((P ++ (D ++ (s0 :: sp))).take (P.length + 1)).length = P.length + 1 := by simp; omega
  have e2 : (P ++ (D ++ (s0 :: sp))).drop (P.length + 1 + D.length) = sp := by
    rw [Nat.add_assoc, List.drop_length_add_append, Nat.add_comm 1, List.drop_length_add_append]; simp
  rw [e2, List.take_append_of_le_length (by omega), List.drop_append, List.drop_eq_nil_of_le (by omega), e1]
  simp [List.take_take]

theorem insL_len (xs : List Int) (i : Nat) (x : Int) : (insL xs i x).length = xs.length + 1 := by simp [insL]; omega

theorem ov_fn : ∃ fn, (Try.prog).funcs[(93 : Nat)]? = some fn ∧ (fn.name == "runtime.NumGoroutine") = false ∧ fn.body.isNone = true ∧ Extern.findNext fn = none ∧ Extern.find fn = some (Extern.SlicesOverlaps.overlaps #[32, 32] #[4]) := by
  have h1 : ((Try.prog).funcs[(93 : Nat)]?).map (fun fn => (fn.name == "runtime.NumGoroutine", fn.body.isNone, (Extern.findNext fn).isNone)) = some (false, true, true) := by kernel_rfl
  have h2 : ((Try.prog).funcs[(93 : Nat)]?).bind (fun fn => Extern.find fn) = some (Extern.SlicesOverlaps.overlaps #[32, 32] #[4]) := by kernel_rfl
  revert h1 h2
  cases (Try.prog).funcs[(93 : Nat)]? with
  | none => intro h1; cases h1
  | some fn =>
    intro h1 h2
    simp only [Option.map_some, Option.some.injEq, Prod.mk.injEq, Option.isNone_iff_eq_none] at h1
    exact ⟨fn, rfl, h1.1, by simpa using h1.2.1, h1.2.2, h2⟩

theorem ov_run {w0 w : World} {F : List Nat} {M0 : PHeap} {b vb : Nat} {cs : List Value} {u : Value} (hs : EV.St w0 F M0 M [(b, Cl 3 cs), (vb, Cl 3 [u])] w) (hcs : cs.length ≠ 0) (k lb cb : Nat) :
    (callFunc 93 #[rowV vb 1 1, .slice (some ⟨b, k, none⟩) lb cb]).run Try.prog w = .ok (.value (.bool false)) w := by
  obtain ⟨fn, hf, h1, h2, h3, h4⟩ := ov_fn
  have hnd := hs.nodup
  have hne : vb ≠ b := by simpa [eq_comm] using hnd
  have ha := hs.own (vb, _) (by simp; exact .inr rfl)
  have hb := hs.own (b, _) (by simp; exact .inl rfl)
  have hu : (Try.prog).underlying 32 = some (.slice 3) := by kernel_rfl
  have hsz : ((Try.prog).info? 3).map (·.size) = some 1 := by kernel_rfl
  dsimp only at ha hb
  rw [run_callFunc_extern hf h1 h2 h3 h4, Lib.run_overlaps_apart w 32 4 3 hu 1 (fun w => run_sizeOf hsz w) ⟨vb, 0, none⟩ ⟨b, k, none⟩ 1 1 lb cb hne 3 3 1 cs.length
    (by simp [World.shape?, ha]) (by simp [World.shape?, hb]) hcs (by simp [World.frozen?, ha]) (by simp [World.frozen?, ha])]
  rfl

set_option maxRecDepth 8000 in
set_option maxHeartbeats 4000000 in
theorem slices_Insert_c (xs : List Int) (b cap : Nat) (sp : List Value) (hok : osok 1 (some (b, cap, sp)) xs.length (xs.map vi)) {i : Nat} (hi : i ≤ xs.length) (hx : xs.length < 1000000) (x : Int) (vb : Nat) :
    Con Try.prog 85 #[rowV b xs.length cap, vi i, rowV vb 1 1] M [(b, Cl 3 (xs.map vi ++ sp)), (vb, Cl 3 [vi x])] fun v _ G' =>
      ∃ o : Nat × Nat × List Value, v = rowV o.1 (xs.length + 1) o.2.1 ∧ osok 1 (some o) (xs.length + 1) ((insL xs i x).map vi) ∧ G' = [(o.1, Cl 3 ((insL xs i x).map vi ++ o.2.2))] := by
  obtain ⟨k1, k2, k3, k4⟩ := hok
  refine Con.enter R_slices_Insert_Lint_int_ok (args := [rowV b xs.length cap, vi i, rowV vb 1 1]) (by simp [R_slices_Insert_Lint_int]) fun w0 => ?_
  simp only [R_slices_Insert_Lint_int, argE]
  have hw1 : IntKind.i64.wrap ((xs.length : Int) + 1) = (xs.length : Int) + 1 := w64 (by omega) (by omega)
  have hw2 : IntKind.i64.wrap ((i : Int) + 1) = (i : Int) + 1 := w64 (by omega) (by omega)
  have hw3 : IntKind.i64.wrap ((xs.length : Int) + 1 - i) = ((xs.length + 1 - i : Nat) : Int) := by rw [w64 (by omega) (by omega)]; omega
  have hml : (xs.map vi).length = xs.length := by simp
  repeat' first
      | refine EV.seq ?_
      | refine EV.skip ?_
      | refine EV.block ?_
      | refine EV.inBlock ?_
      | (refine EV.reg ?_; (conv => (arg 2; whnf)); simp only [push_cast, Int.cast_ofNat_Int, reduceIte, Nat.reduceEqDiff, reduceCtorEq, Nat.reduceAdd, Nat.reduceSub, Nat.reduceMul, Int.reduceToNat, Nat.reduceLeDiff, Option.map_some, Option.map_none, Option.isSome_none, Option.isNone_none, Option.some.injEq, Int.natCast_inj, exists_eq_left', or_true, true_or, Bool.false_eq_true, hw1, hw2, hw3, ex_cast1, osg])
      | assumption
      | (refine condW.merge ?_ (fun hc K' hK => ?_) ?_; rotate_left)
      | (refine condQ.mk ?_ (fun hc => ?_) ?_; rotate_left; (try simp only [decide_eq_true_eq, decide_eq_false_iff_not, Bool.not_eq_true', Bool.not_eq_false', Bool.and_eq_true, Bool.or_eq_true, Bool.and_eq_false_iff, Bool.or_eq_false_iff] at hc))
      | (with_reducible rfl)
      | ((refine EV.cond rfl (fun h => ?_) (fun h => ?_) <;> try simp only [reduceCtorEq, reduceIte, if_true, if_false, Bool.not_eq_true', Bool.not_eq_false', decide_eq_true_eq, decide_eq_false_iff_not, Bool.and_eq_true, Bool.or_eq_true, Bool.and_eq_false_iff, Bool.or_eq_false_iff] at h) <;> try (exfalso; first | exact h True.intro | (exact h; done) | omega))
      | (refine EV.exit rfl ?_)
      | (with_reducible intro b; try simp only [push_cast, Int.cast_ofNat_Int, reduceIte, Nat.reduceEqDiff, reduceCtorEq, Nat.reduceAdd, Nat.reduceSub, Nat.reduceMul, Int.reduceToNat, Nat.reduceLeDiff, Option.map_some, Option.map_none, Option.isSome_none, Option.isNone_none, Option.some.injEq, Int.natCast_inj, exists_eq_left', or_true, true_or, Bool.false_eq_true, hw1, hw2, hw3, ex_cast1, osg])
      | with_reducible intro b
      | (refine And.intro (by omega) ?_)
      | (refine Exists.intro _ (And.intro (rd_M (by assumption)) ?_); try simp only [push_cast, Int.cast_ofNat_Int, reduceIte, Nat.reduceEqDiff, reduceCtorEq, Nat.reduceAdd, Nat.reduceSub, Nat.reduceMul, Int.reduceToNat, Nat.reduceLeDiff, Option.map_some, Option.map_none, Option.isSome_none, Option.isNone_none, Option.some.injEq, Int.natCast_inj, exists_eq_left', or_true, true_or, Bool.false_eq_true, hw1, hw2, hw3, ex_cast1, osg])
      | (refine Exists.intro _ (Exists.intro _ (Exists.intro _ (And.intro (rd_M (by assumption)) ?_))); try simp only [push_cast, Int.cast_ofNat_Int, reduceIte, Nat.reduceEqDiff, reduceCtorEq, Nat.reduceAdd, Nat.reduceSub, Nat.reduceMul, Int.reduceToNat, Nat.reduceLeDiff, Option.map_some, Option.map_none, Option.isSome_none, Option.isNone_none, Option.some.injEq, Int.natCast_inj, exists_eq_left', or_true, true_or, Bool.false_eq_true, hw1, hw2, hw3, ex_cast1, osg])
      | (refine Exists.intro _ (And.intro (by assumption) ?_); try simp only [push_cast, Int.cast_ofNat_Int, reduceIte, Nat.reduceEqDiff, reduceCtorEq, Nat.reduceAdd, Nat.reduceSub, Nat.reduceMul, Int.reduceToNat, Nat.reduceLeDiff, Option.map_some, Option.map_none, Option.isSome_none, Option.isNone_none, Option.some.injEq, Int.natCast_inj, exists_eq_left', or_true, true_or, Bool.false_eq_true, hw1, hw2, hw3, ex_cast1, osg])
      | (refine Exists.intro _ (Exists.intro _ (Exists.intro _ (And.intro (by assumption) ?_))); try simp only [push_cast, Int.cast_ofNat_Int, reduceIte, Nat.reduceEqDiff, reduceCtorEq, Nat.reduceAdd, Nat.reduceSub, Nat.reduceMul, Int.reduceToNat, Nat.reduceLeDiff, Option.map_some, Option.map_none, Option.isSome_none, Option.isNone_none, Option.some.injEq, Int.natCast_inj, exists_eq_left', or_true, true_or, Bool.false_eq_true, hw1, hw2, hw3, ex_cast1, osg])
      | (refine xr rfl (by simp only [List.length_cons, List.length_nil]; omega) ?_; try simp only [push_cast, Int.cast_ofNat_Int, reduceIte, Nat.reduceEqDiff, reduceCtorEq, Nat.reduceAdd, Nat.reduceSub, Nat.reduceMul, Int.reduceToNat, Nat.reduceLeDiff, Option.map_some, Option.map_none, Option.isSome_none, Option.isNone_none, Option.some.injEq, Int.natCast_inj, exists_eq_left', or_true, true_or, Bool.false_eq_true, hw1, hw2, hw3, ex_cast1, osg])
      | (refine xi rfl (by simp only [List.length_cons, List.length_nil]; omega) ?_; try simp only [push_cast, Int.cast_ofNat_Int, reduceIte, Nat.reduceEqDiff, reduceCtorEq, Nat.reduceAdd, Nat.reduceSub, Nat.reduceMul, Int.reduceToNat, Nat.reduceLeDiff, Option.map_some, Option.map_none, Option.isSome_none, Option.isNone_none, Option.some.injEq, Int.natCast_inj, exists_eq_left', or_true, true_or, Bool.false_eq_true, hw1, hw2, hw3, ex_cast1, osg])
      | (refine xs rfl (by simp only [List.length_cons, List.length_nil]; omega) ?_; try simp only [push_cast, Int.cast_ofNat_Int, reduceIte, Nat.reduceEqDiff, reduceCtorEq, Nat.reduceAdd, Nat.reduceSub, Nat.reduceMul, Int.reduceToNat, Nat.reduceLeDiff, Option.map_some, Option.map_none, Option.isSome_none, Option.isNone_none, Option.some.injEq, Int.natCast_inj, exists_eq_left', or_true, true_or, Bool.false_eq_true, hw1, hw2, hw3, ex_cast1, osg])
      | (refine xw ?_; simp only [push_cast, Int.cast_ofNat_Int, reduceIte, Nat.reduceEqDiff, reduceCtorEq, Nat.reduceAdd, Nat.reduceSub, Nat.reduceMul, Int.reduceToNat, Nat.reduceLeDiff, Option.map_some, Option.map_none, Option.isSome_none, Option.isNone_none, Option.some.injEq, Int.natCast_inj, exists_eq_left', or_true, true_or, Bool.false_eq_true, hw1, hw2, hw3, ex_cast1, osg])
      | (refine And.intro (PHeap.le_refl _) (And.intro (fun p hp => hp) ?_))
      | (refine And.intro (PHeap.le_refl _) (And.intro (fun p hp => List.mem_cons_of_mem _ hp) ?_))
      | (refine And.intro (PHeap.le_refl _) (And.intro (fun p hp => List.mem_cons_of_mem _ (List.mem_cons_of_mem _ hp)) ?_))
      | (refine And.intro (PHeap.le_refl _) (And.intro (mem_of_sub ?_) ?_); focus ((repeat' first | exact List.Sublist.refl _ | exact List.nil_sublist _ | exact List.sublist_append_left _ _ | refine List.Sublist.cons_cons _ ?_ | refine List.Sublist.append_left ?_ _ | refine List.sublist_append_of_sublist_right ?_ | refine List.Sublist.cons _ ?_); done); try simp only [push_cast, Int.cast_ofNat_Int, reduceIte, Nat.reduceEqDiff, reduceCtorEq, Nat.reduceAdd, Nat.reduceSub, Nat.reduceMul, Int.reduceToNat, Nat.reduceLeDiff, Option.map_some, Option.map_none, Option.isSome_none, Option.isNone_none, Option.some.injEq, Int.natCast_inj, exists_eq_left', or_true, true_or, Bool.false_eq_true, hw1, hw2, hw3, ex_cast1, osg])
      | (exfalso; simp at hc; done)
      | (exfalso; omega)
      | exact false
      | fail "stuck"
  · subst h
    refine ⟨_, Or.inr ⟨_, 0, rfl, rd_own' 1 rfl rfl (by simp)⟩, by simp [ok1_cons, ok1_nil, Value.oneCell'], Or.inl ⟨some (b, cap, sp), _, rfl, xs.map vi, ⟨k1, k2, k3, k4⟩, [_], List.Perm.refl _, ?_, ?_, ?_⟩⟩
    · simp only [maxLen]; omega
    · omega
    intro o1 ho1 _
    simp only [List.eraseIdx_cons_succ, List.eraseIdx_cons_zero, List.getElem_cons_succ, List.getElem_cons_zero, List.insertIdx_zero, List.insertIdx_succ_cons, cat_two, cat_one, cat_nil, List.nil_append, List.cons_append, List.append_assoc, List.append_nil]
    cases o1 with
    | none => exact absurd ho1.1 (by omega)
    | some o =>
      have e : (insL xs xs.length x).map vi = xs.map vi ++ [vi x] := by simp [insL]
      refine EV.to (ρ' := [(6, rowV o.1 (xs.length + 1) o.2.1)]) (G' := [(o.1, Cl 3 ((insL xs xs.length x).map vi ++ o.2.2))]) ?_ ?env0 (by rw [e]; (repeat' first | exact List.Sublist.refl _ | exact List.nil_sublist _ | exact List.sublist_append_left _ _ | refine List.Sublist.cons_cons _ ?_ | refine List.Sublist.append_left ?_ _ | refine List.sublist_append_of_sublist_right ?_ | refine List.Sublist.cons _ ?_))
      case env0 =>
        repeat' first
          | (refine List.forall_mem_cons.2 (And.intro ?_ ?_))
          | (intro _ hnil; cases hnil; done)
          | rfl
          | (refine env_w64 rfl (by first | rfl | (push_cast; first | rfl | omega)) (by omega) (by omega); done)
          | (simp (disch := omega) only [get_cons, get_nil, reduceIte, Nat.reduceEqDiff, Option.some.injEq, Value.int.injEq, w64, Int.natCast_add, Int.natCast_one, Int.cast_ofNat_Int, Int.natCast_zero]; done)
      refine EV.ret R_slices_Insert_Lint_int_ok ?_
      simp only [push_cast, Int.cast_ofNat_Int, reduceIte, Nat.reduceEqDiff, reduceCtorEq, Nat.reduceAdd, Nat.reduceSub, Nat.reduceMul, Int.reduceToNat, Nat.reduceLeDiff, R_slices_Insert_Lint_int]
      exact ⟨o, rfl, by rw [e]; exact ho1, rfl⟩
  · have hc0 : ¬ cap = 0 := by omega
    refine ⟨(xs.take i).map vi, Or.inr ⟨b, 0, by rw [if_neg hc0]; rfl, rd_own' 0 rfl ?_ ?_⟩, by omega, by omega, by simp only [maxLen]; omega, by omega, ?_⟩
    · rw [Nat.mul_one, List.drop_zero, List.take_append_of_le_length (by omega), List.map_take]
    · rw [List.length_append]; omega
    rintro b1 c1 s1 ⟨z1, z2, z3, z4⟩
    have hc1 : ¬ c1 = i := by omega
    have hc2 : ¬ c1 = i + 1 := by omega
    have hc3 : ¬ cap = i := by omega
    have q1 : i + (xs.length + 1 - i) = xs.length + 1 := by omega
    have q2 : min 1 (xs.length + 1 - i) = 1 := by omega
    have q3 : xs.length + 1 - (i + 1) = xs.length - i := by omega
    have q4 : min (xs.length - i) (xs.length - i) = xs.length - i := by omega
    have q5 : ¬ (xs.length - i = 0) := by omega
    repeat' first
        | refine EV.seq ?_
        | refine EV.skip ?_
        | refine EV.block ?_
        | refine EV.inBlock ?_
        | (refine EV.reg ?_; (conv => (arg 2; whnf)); simp only [push_cast, Int.cast_ofNat_Int, reduceIte, Nat.reduceEqDiff, reduceCtorEq, Nat.reduceAdd, Nat.reduceSub, Nat.reduceMul, Int.reduceToNat, Nat.reduceLeDiff, Option.map_some, Option.map_none, Option.isSome_none, Option.isNone_none, Option.some.injEq, Int.natCast_inj, exists_eq_left', or_true, true_or, Bool.false_eq_true, hw1, hw2, hw3, ex_cast1, osg, addr_add, hc0, hc1, hc2, hc3, q1, q2, q3, q4, q5])
        | assumption
        | (refine condW.merge ?_ (fun hc K' hK => ?_) ?_; rotate_left)
        | (refine condQ.mk ?_ (fun hc => ?_) ?_; rotate_left; (try simp only [decide_eq_true_eq, decide_eq_false_iff_not, Bool.not_eq_true', Bool.not_eq_false', Bool.and_eq_true, Bool.or_eq_true, Bool.and_eq_false_iff, Bool.or_eq_false_iff] at hc))
        | (with_reducible rfl)
        | ((refine EV.cond rfl (fun h => ?_) (fun h => ?_) <;> try simp only [reduceCtorEq, reduceIte, if_true, if_false, Bool.not_eq_true', Bool.not_eq_false', decide_eq_true_eq, decide_eq_false_iff_not, Bool.and_eq_true, Bool.or_eq_true, Bool.and_eq_false_iff, Bool.or_eq_false_iff] at h) <;> try (exfalso; first | exact h True.intro | (exact h; done) | omega))
        | (refine EV.exit rfl ?_)
        | (with_reducible intro b; try simp only [push_cast, Int.cast_ofNat_Int, reduceIte, Nat.reduceEqDiff, reduceCtorEq, Nat.reduceAdd, Nat.reduceSub, Nat.reduceMul, Int.reduceToNat, Nat.reduceLeDiff, Option.map_some, Option.map_none, Option.isSome_none, Option.isNone_none, Option.some.injEq, Int.natCast_inj, exists_eq_left', or_true, true_or, Bool.false_eq_true, hw1, hw2, hw3, ex_cast1, osg, addr_add, hc0, hc1, hc2, hc3, q1, q2, q3, q4, q5])
        | with_reducible intro b
        | (refine And.intro (by omega) ?_)
        | (refine Exists.intro _ (And.intro (rd_M (by assumption)) ?_); try simp only [push_cast, Int.cast_ofNat_Int, reduceIte, Nat.reduceEqDiff, reduceCtorEq, Nat.reduceAdd, Nat.reduceSub, Nat.reduceMul, Int.reduceToNat, Nat.reduceLeDiff, Option.map_some, Option.map_none, Option.isSome_none, Option.isNone_none, Option.some.injEq, Int.natCast_inj, exists_eq_left', or_true, true_or, Bool.false_eq_true, hw1, hw2, hw3, ex_cast1, osg, addr_add, hc0, hc1, hc2, hc3, q1, q2, q3, q4, q5])
        | (refine Exists.intro _ (Exists.intro _ (Exists.intro _ (And.intro (rd_M (by assumption)) ?_))); try simp only [push_cast, Int.cast_ofNat_Int, reduceIte, Nat.reduceEqDiff, reduceCtorEq, Nat.reduceAdd, Nat.reduceSub, Nat.reduceMul, Int.reduceToNat, Nat.reduceLeDiff, Option.map_some, Option.map_none, Option.isSome_none, Option.isNone_none, Option.some.injEq, Int.natCast_inj, exists_eq_left', or_true, true_or, Bool.false_eq_true, hw1, hw2, hw3, ex_cast1, osg, addr_add, hc0, hc1, hc2, hc3, q1, q2, q3, q4, q5])
        | (refine Exists.intro _ (And.intro (by assumption) ?_); try simp only [push_cast, Int.cast_ofNat_Int, reduceIte, Nat.reduceEqDiff, reduceCtorEq, Nat.reduceAdd, Nat.reduceSub, Nat.reduceMul, Int.reduceToNat, Nat.reduceLeDiff, Option.map_some, Option.map_none, Option.isSome_none, Option.isNone_none, Option.some.injEq, Int.natCast_inj, exists_eq_left', or_true, true_or, Bool.false_eq_true, hw1, hw2, hw3, ex_cast1, osg, addr_add, hc0, hc1, hc2, hc3, q1, q2, q3, q4, q5])
        | (refine Exists.intro _ (Exists.intro _ (Exists.intro _ (And.intro (by assumption) ?_))); try simp only [push_cast, Int.cast_ofNat_Int, reduceIte, Nat.reduceEqDiff, reduceCtorEq, Nat.reduceAdd, Nat.reduceSub, Nat.reduceMul, Int.reduceToNat, Nat.reduceLeDiff, Option.map_some, Option.map_none, Option.isSome_none, Option.isNone_none, Option.some.injEq, Int.natCast_inj, exists_eq_left', or_true, true_or, Bool.false_eq_true, hw1, hw2, hw3, ex_cast1, osg, addr_add, hc0, hc1, hc2, hc3, q1, q2, q3, q4, q5])
        | (refine xr rfl (by simp only [List.length_cons, List.length_nil]; omega) ?_; try simp only [push_cast, Int.cast_ofNat_Int, reduceIte, Nat.reduceEqDiff, reduceCtorEq, Nat.reduceAdd, Nat.reduceSub, Nat.reduceMul, Int.reduceToNat, Nat.reduceLeDiff, Option.map_some, Option.map_none, Option.isSome_none, Option.isNone_none, Option.some.injEq, Int.natCast_inj, exists_eq_left', or_true, true_or, Bool.false_eq_true, hw1, hw2, hw3, ex_cast1, osg, addr_add, hc0, hc1, hc2, hc3, q1, q2, q3, q4, q5])
        | (refine xi rfl (by simp only [List.length_cons, List.length_nil]; omega) ?_; try simp only [push_cast, Int.cast_ofNat_Int, reduceIte, Nat.reduceEqDiff, reduceCtorEq, Nat.reduceAdd, Nat.reduceSub, Nat.reduceMul, Int.reduceToNat, Nat.reduceLeDiff, Option.map_some, Option.map_none, Option.isSome_none, Option.isNone_none, Option.some.injEq, Int.natCast_inj, exists_eq_left', or_true, true_or, Bool.false_eq_true, hw1, hw2, hw3, ex_cast1, osg, addr_add, hc0, hc1, hc2, hc3, q1, q2, q3, q4, q5])
        | (refine xs rfl (by simp only [List.length_cons, List.length_nil]; omega) ?_; try simp only [push_cast, Int.cast_ofNat_Int, reduceIte, Nat.reduceEqDiff, reduceCtorEq, Nat.reduceAdd, Nat.reduceSub, Nat.reduceMul, Int.reduceToNat, Nat.reduceLeDiff, Option.map_some, Option.map_none, Option.isSome_none, Option.isNone_none, Option.some.injEq, Int.natCast_inj, exists_eq_left', or_true, true_or, Bool.false_eq_true, hw1, hw2, hw3, ex_cast1, osg, addr_add, hc0, hc1, hc2, hc3, q1, q2, q3, q4, q5])
        | (refine xw ?_; simp only [push_cast, Int.cast_ofNat_Int, reduceIte, Nat.reduceEqDiff, reduceCtorEq, Nat.reduceAdd, Nat.reduceSub, Nat.reduceMul, Int.reduceToNat, Nat.reduceLeDiff, Option.map_some, Option.map_none, Option.isSome_none, Option.isNone_none, Option.some.injEq, Int.natCast_inj, exists_eq_left', or_true, true_or, Bool.false_eq_true, hw1, hw2, hw3, ex_cast1, osg, addr_add, hc0, hc1, hc2, hc3, q1, q2, q3, q4, q5])
        | (refine And.intro (PHeap.le_refl _) (And.intro (fun p hp => hp) ?_))
        | (refine And.intro (PHeap.le_refl _) (And.intro (fun p hp => List.mem_cons_of_mem _ hp) ?_))
        | (refine And.intro (PHeap.le_refl _) (And.intro (fun p hp => List.mem_cons_of_mem _ (List.mem_cons_of_mem _ hp)) ?_))
        | (refine And.intro (PHeap.le_refl _) (And.intro (mem_of_sub ?_) ?_); focus ((repeat' first | exact List.Sublist.refl _ | exact List.nil_sublist _ | exact List.sublist_append_left _ _ | refine List.Sublist.cons_cons _ ?_ | refine List.Sublist.append_left ?_ _ | refine List.sublist_append_of_sublist_right ?_ | refine List.Sublist.cons _ ?_); done); try simp only [push_cast, Int.cast_ofNat_Int, reduceIte, Nat.reduceEqDiff, reduceCtorEq, Nat.reduceAdd, Nat.reduceSub, Nat.reduceMul, Int.reduceToNat, Nat.reduceLeDiff, Option.map_some, Option.map_none, Option.isSome_none, Option.isNone_none, Option.some.injEq, Int.natCast_inj, exists_eq_left', or_true, true_or, Bool.false_eq_true, hw1, hw2, hw3, ex_cast1, osg, addr_add, hc0, hc1, hc2, hc3, q1, q2, q3, q4, q5])
        | (exfalso; simp at hc; done)
        | (exfalso; omega)
        | exact false
        | fail "stuck"
    refine ⟨[vi x], Or.inr ⟨vb, 0, rfl, rd_own' 1 rfl rfl (by simp)⟩, by simp [ok1_cons, ok1_nil, Value.oneCell'], Or.inr ⟨b1, i, rfl, 3, _, [_, _], [], rfl, ?_, ?_⟩⟩
    · rw [List.append_assoc] at z2; rw [z2]; omega
    repeat' first
        | refine EV.seq ?_
        | refine EV.skip ?_
        | refine EV.block ?_
        | refine EV.inBlock ?_
        | (refine EV.reg ?_; (conv => (arg 2; whnf)); simp only [push_cast, Int.cast_ofNat_Int, reduceIte, Nat.reduceEqDiff, reduceCtorEq, Nat.reduceAdd, Nat.reduceSub, Nat.reduceMul, Int.reduceToNat, Nat.reduceLeDiff, Option.map_some, Option.map_none, Option.isSome_none, Option.isNone_none, Option.some.injEq, Int.natCast_inj, exists_eq_left', or_true, true_or, Bool.false_eq_true, hw1, hw2, hw3, ex_cast1, osg, addr_add, hc0, hc1, hc2, hc3, q1, q2, q3, q4, q5])
        | assumption
        | (refine condW.merge ?_ (fun hc K' hK => ?_) ?_; rotate_left)
        | (refine condQ.mk ?_ (fun hc => ?_) ?_; rotate_left; (try simp only [decide_eq_true_eq, decide_eq_false_iff_not, Bool.not_eq_true', Bool.not_eq_false', Bool.and_eq_true, Bool.or_eq_true, Bool.and_eq_false_iff, Bool.or_eq_false_iff] at hc))
        | (with_reducible rfl)
        | ((refine EV.cond rfl (fun h => ?_) (fun h => ?_) <;> try simp only [reduceCtorEq, reduceIte, if_true, if_false, Bool.not_eq_true', Bool.not_eq_false', decide_eq_true_eq, decide_eq_false_iff_not, Bool.and_eq_true, Bool.or_eq_true, Bool.and_eq_false_iff, Bool.or_eq_false_iff] at h) <;> try (exfalso; first | exact h True.intro | (exact h; done) | omega))
        | (refine EV.exit rfl ?_)
        | (with_reducible intro b; try simp only [push_cast, Int.cast_ofNat_Int, reduceIte, Nat.reduceEqDiff, reduceCtorEq, Nat.reduceAdd, Nat.reduceSub, Nat.reduceMul, Int.reduceToNat, Nat.reduceLeDiff, Option.map_some, Option.map_none, Option.isSome_none, Option.isNone_none, Option.some.injEq, Int.natCast_inj, exists_eq_left', or_true, true_or, Bool.false_eq_true, hw1, hw2, hw3, ex_cast1, osg, addr_add, hc0, hc1, hc2, hc3, q1, q2, q3, q4, q5])
        | with_reducible intro b
        | (refine And.intro (by omega) ?_)
        | (refine Exists.intro _ (And.intro (rd_M (by assumption)) ?_); try simp only [push_cast, Int.cast_ofNat_Int, reduceIte, Nat.reduceEqDiff, reduceCtorEq, Nat.reduceAdd, Nat.reduceSub, Nat.reduceMul, Int.reduceToNat, Nat.reduceLeDiff, Option.map_some, Option.map_none, Option.isSome_none, Option.isNone_none, Option.some.injEq, Int.natCast_inj, exists_eq_left', or_true, true_or, Bool.false_eq_true, hw1, hw2, hw3, ex_cast1, osg, addr_add, hc0, hc1, hc2, hc3, q1, q2, q3, q4, q5])
        | (refine Exists.intro _ (Exists.intro _ (Exists.intro _ (And.intro (rd_M (by assumption)) ?_))); try simp only [push_cast, Int.cast_ofNat_Int, reduceIte, Nat.reduceEqDiff, reduceCtorEq, Nat.reduceAdd, Nat.reduceSub, Nat.reduceMul, Int.reduceToNat, Nat.reduceLeDiff, Option.map_some, Option.map_none, Option.isSome_none, Option.isNone_none, Option.some.injEq, Int.natCast_inj, exists_eq_left', or_true, true_or, Bool.false_eq_true, hw1, hw2, hw3, ex_cast1, osg, addr_add, hc0, hc1, hc2, hc3, q1, q2, q3, q4, q5])
        | (refine Exists.intro _ (And.intro (by assumption) ?_); try simp only [push_cast, Int.cast_ofNat_Int, reduceIte, Nat.reduceEqDiff, reduceCtorEq, Nat.reduceAdd, Nat.reduceSub, Nat.reduceMul, Int.reduceToNat, Nat.reduceLeDiff, Option.map_some, Option.map_none, Option.isSome_none, Option.isNone_none, Option.some.injEq, Int.natCast_inj, exists_eq_left', or_true, true_or, Bool.false_eq_true, hw1, hw2, hw3, ex_cast1, osg, addr_add, hc0, hc1, hc2, hc3, q1, q2, q3, q4, q5])
        | (refine Exists.intro _ (Exists.intro _ (Exists.intro _ (And.intro (by assumption) ?_))); try simp only [push_cast, Int.cast_ofNat_Int, reduceIte, Nat.reduceEqDiff, reduceCtorEq, Nat.reduceAdd, Nat.reduceSub, Nat.reduceMul, Int.reduceToNat, Nat.reduceLeDiff, Option.map_some, Option.map_none, Option.isSome_none, Option.isNone_none, Option.some.injEq, Int.natCast_inj, exists_eq_left', or_true, true_or, Bool.false_eq_true, hw1, hw2, hw3, ex_cast1, osg, addr_add, hc0, hc1, hc2, hc3, q1, q2, q3, q4, q5])
        | (refine xr rfl (by simp only [List.length_cons, List.length_nil]; omega) ?_; try simp only [push_cast, Int.cast_ofNat_Int, reduceIte, Nat.reduceEqDiff, reduceCtorEq, Nat.reduceAdd, Nat.reduceSub, Nat.reduceMul, Int.reduceToNat, Nat.reduceLeDiff, Option.map_some, Option.map_none, Option.isSome_none, Option.isNone_none, Option.some.injEq, Int.natCast_inj, exists_eq_left', or_true, true_or, Bool.false_eq_true, hw1, hw2, hw3, ex_cast1, osg, addr_add, hc0, hc1, hc2, hc3, q1, q2, q3, q4, q5])
        | (refine xi rfl (by simp only [List.length_cons, List.length_nil]; omega) ?_; try simp only [push_cast, Int.cast_ofNat_Int, reduceIte, Nat.reduceEqDiff, reduceCtorEq, Nat.reduceAdd, Nat.reduceSub, Nat.reduceMul, Int.reduceToNat, Nat.reduceLeDiff, Option.map_some, Option.map_none, Option.isSome_none, Option.isNone_none, Option.some.injEq, Int.natCast_inj, exists_eq_left', or_true, true_or, Bool.false_eq_true, hw1, hw2, hw3, ex_cast1, osg, addr_add, hc0, hc1, hc2, hc3, q1, q2, q3, q4, q5])
        | (refine xs rfl (by simp only [List.length_cons, List.length_nil]; omega) ?_; try simp only [push_cast, Int.cast_ofNat_Int, reduceIte, Nat.reduceEqDiff, reduceCtorEq, Nat.reduceAdd, Nat.reduceSub, Nat.reduceMul, Int.reduceToNat, Nat.reduceLeDiff, Option.map_some, Option.map_none, Option.isSome_none, Option.isNone_none, Option.some.injEq, Int.natCast_inj, exists_eq_left', or_true, true_or, Bool.false_eq_true, hw1, hw2, hw3, ex_cast1, osg, addr_add, hc0, hc1, hc2, hc3, q1, q2, q3, q4, q5])
        | (refine xw ?_; simp only [push_cast, Int.cast_ofNat_Int, reduceIte, Nat.reduceEqDiff, reduceCtorEq, Nat.reduceAdd, Nat.reduceSub, Nat.reduceMul, Int.reduceToNat, Nat.reduceLeDiff, Option.map_some, Option.map_none, Option.isSome_none, Option.isNone_none, Option.some.injEq, Int.natCast_inj, exists_eq_left', or_true, true_or, Bool.false_eq_true, hw1, hw2, hw3, ex_cast1, osg, addr_add, hc0, hc1, hc2, hc3, q1, q2, q3, q4, q5])
        | (refine And.intro (PHeap.le_refl _) (And.intro (fun p hp => hp) ?_))
        | (refine And.intro (PHeap.le_refl _) (And.intro (fun p hp => List.mem_cons_of_mem _ hp) ?_))
        | (refine And.intro (PHeap.le_refl _) (And.intro (fun p hp => List.mem_cons_of_mem _ (List.mem_cons_of_mem _ hp)) ?_))
        | (refine And.intro (PHeap.le_refl _) (And.intro (mem_of_sub ?_) ?_); focus ((repeat' first | exact List.Sublist.refl _ | exact List.nil_sublist _ | exact List.sublist_append_left _ _ | refine List.Sublist.cons_cons _ ?_ | refine List.Sublist.append_left ?_ _ | refine List.sublist_append_of_sublist_right ?_ | refine List.Sublist.cons _ ?_); done); try simp only [push_cast, Int.cast_ofNat_Int, reduceIte, Nat.reduceEqDiff, reduceCtorEq, Nat.reduceAdd, Nat.reduceSub, Nat.reduceMul, Int.reduceToNat, Nat.reduceLeDiff, Option.map_some, Option.map_none, Option.isSome_none, Option.isNone_none, Option.some.injEq, Int.natCast_inj, exists_eq_left', or_true, true_or, Bool.false_eq_true, hw1, hw2, hw3, ex_cast1, osg, addr_add, hc0, hc1, hc2, hc3, q1, q2, q3, q4, q5])
        | (exfalso; simp at hc; done)
        | (exfalso; omega)
        | exact false
        | fail "stuck"
    refine EV.any (t := R_slices_Insert_Lint_int_11) _ (List.Sublist.refl _) ?_
    simp only [push_cast, Int.cast_ofNat_Int, reduceIte, Nat.reduceEqDiff, reduceCtorEq, Nat.reduceAdd, Nat.reduceSub, Nat.reduceMul, Int.reduceToNat, Nat.reduceLeDiff, Option.map_some, Option.map_none, Option.isSome_none, Option.isNone_none, Option.some.injEq, Int.natCast_inj, exists_eq_left', or_true, true_or, Bool.false_eq_true, hw1, hw2, hw3, ex_cast1, osg, addr_add, hc0, hc1, hc2, hc3, q1, q2, q3, q4, q5, R_slices_Insert_Lint_int_11]
    repeat refine And.intro (by omega) ?_
    refine ⟨(xs.drop i).map vi, Or.inr ⟨b, i, rfl, rd_own' 0 rfl ?_ ?_⟩, ?_, Or.inr ⟨b1, i + 1, rfl, 3, _, [_, _], [], rfl, ?_, ?_⟩⟩
    · rw [Nat.mul_one, List.drop_append_of_le_length (by omega), List.take_append_of_le_length (by rw [List.length_drop]; omega), List.map_drop]
      exact List.take_of_length_le (by rw [List.length_drop]; omega)
    · rw [List.length_append]; omega
    · intro v hv
      obtain ⟨y, _, rfl⟩ := List.mem_map.1 (List.mem_of_mem_take hv)
      rfl
    · simp; omega
    repeat' first
        | refine EV.seq ?_
        | refine EV.skip ?_
        | refine EV.block ?_
        | refine EV.inBlock ?_
        | (refine EV.reg ?_; (conv => (arg 2; whnf)); simp only [push_cast, Int.cast_ofNat_Int, reduceIte, Nat.reduceEqDiff, reduceCtorEq, Nat.reduceAdd, Nat.reduceSub, Nat.reduceMul, Int.reduceToNat, Nat.reduceLeDiff, Option.map_some, Option.map_none, Option.isSome_none, Option.isNone_none, Option.some.injEq, Int.natCast_inj, exists_eq_left', or_true, true_or, Bool.false_eq_true, hw1, hw2, hw3, ex_cast1, osg, addr_add, hc0, hc1, hc2, hc3, q1, q2, q3, q4, q5])
        | assumption
        | (refine condW.merge ?_ (fun hc K' hK => ?_) ?_; rotate_left)
        | (refine condQ.mk ?_ (fun hc => ?_) ?_; rotate_left; (try simp only [decide_eq_true_eq, decide_eq_false_iff_not, Bool.not_eq_true', Bool.not_eq_false', Bool.and_eq_true, Bool.or_eq_true, Bool.and_eq_false_iff, Bool.or_eq_false_iff] at hc))
        | (with_reducible rfl)
        | ((refine EV.cond rfl (fun h => ?_) (fun h => ?_) <;> try simp only [reduceCtorEq, reduceIte, if_true, if_false, Bool.not_eq_true', Bool.not_eq_false', decide_eq_true_eq, decide_eq_false_iff_not, Bool.and_eq_true, Bool.or_eq_true, Bool.and_eq_false_iff, Bool.or_eq_false_iff] at h) <;> try (exfalso; first | exact h True.intro | (exact h; done) | omega))
        | (refine EV.exit rfl ?_)
        | (with_reducible intro b; try simp only [push_cast, Int.cast_ofNat_Int, reduceIte, Nat.reduceEqDiff, reduceCtorEq, Nat.reduceAdd, Nat.reduceSub, Nat.reduceMul, Int.reduceToNat, Nat.reduceLeDiff, Option.map_some, Option.map_none, Option.isSome_none, Option.isNone_none, Option.some.injEq, Int.natCast_inj, exists_eq_left', or_true, true_or, Bool.false_eq_true, hw1, hw2, hw3, ex_cast1, osg, addr_add, hc0, hc1, hc2, hc3, q1, q2, q3, q4, q5])
        | with_reducible intro b
        | (refine And.intro (by omega) ?_)
        | (refine Exists.intro _ (And.intro (rd_M (by assumption)) ?_); try simp only [push_cast, Int.cast_ofNat_Int, reduceIte, Nat.reduceEqDiff, reduceCtorEq, Nat.reduceAdd, Nat.reduceSub, Nat.reduceMul, Int.reduceToNat, Nat.reduceLeDiff, Option.map_some, Option.map_none, Option.isSome_none, Option.isNone_none, Option.some.injEq, Int.natCast_inj, exists_eq_left', or_true, true_or, Bool.false_eq_true, hw1, hw2, hw3, ex_cast1, osg, addr_add, hc0, hc1, hc2, hc3, q1, q2, q3, q4, q5])
        | (refine Exists.intro _ (Exists.intro _ (Exists.intro _ (And.intro (rd_M (by assumption)) ?_))); try simp only [push_cast, Int.cast_ofNat_Int, reduceIte, Nat.reduceEqDiff, reduceCtorEq, Nat.reduceAdd, Nat.reduceSub, Nat.reduceMul, Int.reduceToNat, Nat.reduceLeDiff, Option.map_some, Option.map_none, Option.isSome_none, Option.isNone_none, Option.some.injEq, Int.natCast_inj, exists_eq_left', or_true, true_or, Bool.false_eq_true, hw1, hw2, hw3, ex_cast1, osg, addr_add, hc0, hc1, hc2, hc3, q1, q2, q3, q4, q5])
        | (refine Exists.intro _ (And.intro (by assumption) ?_); try simp only [push_cast, Int.cast_ofNat_Int, reduceIte, Nat.reduceEqDiff, reduceCtorEq, Nat.reduceAdd, Nat.reduceSub, Nat.reduceMul, Int.reduceToNat, Nat.reduceLeDiff, Option.map_some, Option.map_none, Option.isSome_none, Option.isNone_none, Option.some.injEq, Int.natCast_inj, exists_eq_left', or_true, true_or, Bool.false_eq_true, hw1, hw2, hw3, ex_cast1, osg, addr_add, hc0, hc1, hc2, hc3, q1, q2, q3, q4, q5])
        | (refine Exists.intro _ (Exists.intro _ (Exists.intro _ (And.intro (by assumption) ?_))); try simp only [push_cast, Int.cast_ofNat_Int, reduceIte, Nat.reduceEqDiff, reduceCtorEq, Nat.reduceAdd, Nat.reduceSub, Nat.reduceMul, Int.reduceToNat, Nat.reduceLeDiff, Option.map_some, Option.map_none, Option.isSome_none, Option.isNone_none, Option.some.injEq, Int.natCast_inj, exists_eq_left', or_true, true_or, Bool.false_eq_true, hw1, hw2, hw3, ex_cast1, osg, addr_add, hc0, hc1, hc2, hc3, q1, q2, q3, q4, q5])
        | (refine xr rfl (by simp only [List.length_cons, List.length_nil]; omega) ?_; try simp only [push_cast, Int.cast_ofNat_Int, reduceIte, Nat.reduceEqDiff, reduceCtorEq, Nat.reduceAdd, Nat.reduceSub, Nat.reduceMul, Int.reduceToNat, Nat.reduceLeDiff, Option.map_some, Option.map_none, Option.isSome_none, Option.isNone_none, Option.some.injEq, Int.natCast_inj, exists_eq_left', or_true, true_or, Bool.false_eq_true, hw1, hw2, hw3, ex_cast1, osg, addr_add, hc0, hc1, hc2, hc3, q1, q2, q3, q4, q5])
        | (refine xi rfl (by simp only [List.length_cons, List.length_nil]; omega) ?_; try simp only [push_cast, Int.cast_ofNat_Int, reduceIte, Nat.reduceEqDiff, reduceCtorEq, Nat.reduceAdd, Nat.reduceSub, Nat.reduceMul, Int.reduceToNat, Nat.reduceLeDiff, Option.map_some, Option.map_none, Option.isSome_none, Option.isNone_none, Option.some.injEq, Int.natCast_inj, exists_eq_left', or_true, true_or, Bool.false_eq_true, hw1, hw2, hw3, ex_cast1, osg, addr_add, hc0, hc1, hc2, hc3, q1, q2, q3, q4, q5])
        | (refine xs rfl (by simp only [List.length_cons, List.length_nil]; omega) ?_; try simp only [push_cast, Int.cast_ofNat_Int, reduceIte, Nat.reduceEqDiff, reduceCtorEq, Nat.reduceAdd, Nat.reduceSub, Nat.reduceMul, Int.reduceToNat, Nat.reduceLeDiff, Option.map_some, Option.map_none, Option.isSome_none, Option.isNone_none, Option.some.injEq, Int.natCast_inj, exists_eq_left', or_true, true_or, Bool.false_eq_true, hw1, hw2, hw3, ex_cast1, osg, addr_add, hc0, hc1, hc2, hc3, q1, q2, q3, q4, q5])
        | (refine xw ?_; simp only [push_cast, Int.cast_ofNat_Int, reduceIte, Nat.reduceEqDiff, reduceCtorEq, Nat.reduceAdd, Nat.reduceSub, Nat.reduceMul, Int.reduceToNat, Nat.reduceLeDiff, Option.map_some, Option.map_none, Option.isSome_none, Option.isNone_none, Option.some.injEq, Int.natCast_inj, exists_eq_left', or_true, true_or, Bool.false_eq_true, hw1, hw2, hw3, ex_cast1, osg, addr_add, hc0, hc1, hc2, hc3, q1, q2, q3, q4, q5])
        | (refine And.intro (PHeap.le_refl _) (And.intro (fun p hp => hp) ?_))
        | (refine And.intro (PHeap.le_refl _) (And.intro (fun p hp => List.mem_cons_of_mem _ hp) ?_))
        | (refine And.intro (PHeap.le_refl _) (And.intro (fun p hp => List.mem_cons_of_mem _ (List.mem_cons_of_mem _ hp)) ?_))
        | (refine And.intro (PHeap.le_refl _) (And.intro (mem_of_sub ?_) ?_); focus ((repeat' first | exact List.Sublist.refl _ | exact List.nil_sublist _ | exact List.sublist_append_left _ _ | refine List.Sublist.cons_cons _ ?_ | refine List.Sublist.append_left ?_ _ | refine List.sublist_append_of_sublist_right ?_ | refine List.Sublist.cons _ ?_); done); try simp only [push_cast, Int.cast_ofNat_Int, reduceIte, Nat.reduceEqDiff, reduceCtorEq, Nat.reduceAdd, Nat.reduceSub, Nat.reduceMul, Int.reduceToNat, Nat.reduceLeDiff, Option.map_some, Option.map_none, Option.isSome_none, Option.isNone_none, Option.some.injEq, Int.natCast_inj, exists_eq_left', or_true, true_or, Bool.false_eq_true, hw1, hw2, hw3, ex_cast1, osg, addr_add, hc0, hc1, hc2, hc3, q1, q2, q3, q4, q5])
        | (exfalso; simp at hc; done)
        | (exfalso; omega)
        | exact false
        | fail "stuck"
    have hD : List.take (xs.length - i) ((xs.drop i).map vi) = (xs.drop i).map vi := List.take_of_length_le (by simp)
    have hDl : ((xs.drop i).map vi).length = xs.length - i := by simp
    have e := two1 ((xs.take i).map vi) (List.replicate (xs.length + 1 - i) [Value.int IntKind.i64 0]).flatten s1 ((xs.drop i).map vi) (vi x) (i := i) (by simp; omega) (by simp; omega)
    simp only [hD]
    rw [e]
    have e3 : (insL xs i x).map vi ++ s1 = (xs.take i).map vi ++ (vi x :: ((xs.drop i).map vi ++ s1)) := by simp [insL]
    rw [← e3]
    refine EV.to (ρ' := [(6, rowV b1 (xs.length + 1) c1)]) (G' := [(b1, Cl 3 ((insL xs i x).map vi ++ s1))]) ?_ ?env1 (by (repeat' first | exact List.Sublist.refl _ | exact List.nil_sublist _ | exact List.sublist_append_left _ _ | refine List.Sublist.cons_cons _ ?_ | refine List.Sublist.append_left ?_ _ | refine List.sublist_append_of_sublist_right ?_ | refine List.Sublist.cons _ ?_))
    case env1 =>
      repeat' first
        | (refine List.forall_mem_cons.2 (And.intro ?_ ?_))
        | (intro _ hnil; cases hnil; done)
        | rfl
        | (refine env_w64 rfl (by first | rfl | (push_cast; first | rfl | omega)) (by omega) (by omega); done)
        | (simp (disch := omega) only [get_cons, get_nil, reduceIte, Nat.reduceEqDiff, Option.some.injEq, Value.int.injEq, w64, Int.natCast_add, Int.natCast_one, Int.cast_ofNat_Int, Int.natCast_zero]; done)
    refine EV.ret R_slices_Insert_Lint_int_ok ?_
    simp only [push_cast, Int.cast_ofNat_Int, reduceIte, Nat.reduceEqDiff, reduceCtorEq, Nat.reduceAdd, Nat.reduceSub, Nat.reduceMul, Int.reduceToNat, Nat.reduceLeDiff, R_slices_Insert_Lint_int]
    refine ⟨(b1, c1, s1), rfl, ⟨by simp [insL_len], ?_, by omega, z4⟩, rfl⟩
    rw [List.length_append, List.length_map, insL_len]
    simp at z2
    omega
  · have hc0 : ¬ cap = 0 := by omega
    have hc1 : ¬ cap = i + 1 := by omega
    have hc2 : ¬ cap = i := by omega
    have hc3 : ¬ cap = i := by omega
    have q1 : xs.length + 1 - (i + 1) = xs.length - i := by omega
    have q2 : min (xs.length + 1 - i) (xs.length - i) = xs.length - i := by omega
    have q3 : min 1 (xs.length + 1 - i) = 1 := by omega
    have q4 : ¬ (xs.length - i = 0) := by omega
    have q5 : ¬ (xs.length - i = 0) := by omega
    repeat' first
        | refine EV.seq ?_
        | refine EV.skip ?_
        | refine EV.block ?_
        | refine EV.inBlock ?_
        | (refine EV.reg ?_; (conv => (arg 2; whnf)); simp only [push_cast, Int.cast_ofNat_Int, reduceIte, Nat.reduceEqDiff, reduceCtorEq, Nat.reduceAdd, Nat.reduceSub, Nat.reduceMul, Int.reduceToNat, Nat.reduceLeDiff, Option.map_some, Option.map_none, Option.isSome_none, Option.isNone_none, Option.some.injEq, Int.natCast_inj, exists_eq_left', or_true, true_or, Bool.false_eq_true, hw1, hw2, hw3, ex_cast1, osg, addr_add, hc0, hc1, hc2, hc3, q1, q2, q3, q4, q5])
        | assumption
        | (refine condW.merge ?_ (fun hc K' hK => ?_) ?_; rotate_left)
        | (refine condQ.mk ?_ (fun hc => ?_) ?_; rotate_left; (try simp only [decide_eq_true_eq, decide_eq_false_iff_not, Bool.not_eq_true', Bool.not_eq_false', Bool.and_eq_true, Bool.or_eq_true, Bool.and_eq_false_iff, Bool.or_eq_false_iff] at hc))
        | (with_reducible rfl)
        | ((refine EV.cond rfl (fun h => ?_) (fun h => ?_) <;> try simp only [reduceCtorEq, reduceIte, if_true, if_false, Bool.not_eq_true', Bool.not_eq_false', decide_eq_true_eq, decide_eq_false_iff_not, Bool.and_eq_true, Bool.or_eq_true, Bool.and_eq_false_iff, Bool.or_eq_false_iff] at h) <;> try (exfalso; first | exact h True.intro | (exact h; done) | omega))
        | (refine EV.exit rfl ?_)
        | (with_reducible intro b; try simp only [push_cast, Int.cast_ofNat_Int, reduceIte, Nat.reduceEqDiff, reduceCtorEq, Nat.reduceAdd, Nat.reduceSub, Nat.reduceMul, Int.reduceToNat, Nat.reduceLeDiff, Option.map_some, Option.map_none, Option.isSome_none, Option.isNone_none, Option.some.injEq, Int.natCast_inj, exists_eq_left', or_true, true_or, Bool.false_eq_true, hw1, hw2, hw3, ex_cast1, osg, addr_add, hc0, hc1, hc2, hc3, q1, q2, q3, q4, q5])
        | with_reducible intro b
        | (refine And.intro (by omega) ?_)
        | (refine Exists.intro _ (And.intro (rd_M (by assumption)) ?_); try simp only [push_cast, Int.cast_ofNat_Int, reduceIte, Nat.reduceEqDiff, reduceCtorEq, Nat.reduceAdd, Nat.reduceSub, Nat.reduceMul, Int.reduceToNat, Nat.reduceLeDiff, Option.map_some, Option.map_none, Option.isSome_none, Option.isNone_none, Option.some.injEq, Int.natCast_inj, exists_eq_left', or_true, true_or, Bool.false_eq_true, hw1, hw2, hw3, ex_cast1, osg, addr_add, hc0, hc1, hc2, hc3, q1, q2, q3, q4, q5])
        | (refine Exists.intro _ (Exists.intro _ (Exists.intro _ (And.intro (rd_M (by assumption)) ?_))); try simp only [push_cast, Int.cast_ofNat_Int, reduceIte, Nat.reduceEqDiff, reduceCtorEq, Nat.reduceAdd, Nat.reduceSub, Nat.reduceMul, Int.reduceToNat, Nat.reduceLeDiff, Option.map_some, Option.map_none, Option.isSome_none, Option.isNone_none, Option.some.injEq, Int.natCast_inj, exists_eq_left', or_true, true_or, Bool.false_eq_true, hw1, hw2, hw3, ex_cast1, osg, addr_add, hc0, hc1, hc2, hc3, q1, q2, q3, q4, q5])
        | (refine Exists.intro _ (And.intro (by assumption) ?_); try simp only [push_cast, Int.cast_ofNat_Int, reduceIte, Nat.reduceEqDiff, reduceCtorEq, Nat.reduceAdd, Nat.reduceSub, Nat.reduceMul, Int.reduceToNat, Nat.reduceLeDiff, Option.map_some, Option.map_none, Option.isSome_none, Option.isNone_none, Option.some.injEq, Int.natCast_inj, exists_eq_left', or_true, true_or, Bool.false_eq_true, hw1, hw2, hw3, ex_cast1, osg, addr_add, hc0, hc1, hc2, hc3, q1, q2, q3, q4, q5])
        | (refine Exists.intro _ (Exists.intro _ (Exists.intro _ (And.intro (by assumption) ?_))); try simp only [push_cast, Int.cast_ofNat_Int, reduceIte, Nat.reduceEqDiff, reduceCtorEq, Nat.reduceAdd, Nat.reduceSub, Nat.reduceMul, Int.reduceToNat, Nat.reduceLeDiff, Option.map_some, Option.map_none, Option.isSome_none, Option.isNone_none, Option.some.injEq, Int.natCast_inj, exists_eq_left', or_true, true_or, Bool.false_eq_true, hw1, hw2, hw3, ex_cast1, osg, addr_add, hc0, hc1, hc2, hc3, q1, q2, q3, q4, q5])
        | (refine xr rfl (by simp only [List.length_cons, List.length_nil]; omega) ?_; try simp only [push_cast, Int.cast_ofNat_Int, reduceIte, Nat.reduceEqDiff, reduceCtorEq, Nat.reduceAdd, Nat.reduceSub, Nat.reduceMul, Int.reduceToNat, Nat.reduceLeDiff, Option.map_some, Option.map_none, Option.isSome_none, Option.isNone_none, Option.some.injEq, Int.natCast_inj, exists_eq_left', or_true, true_or, Bool.false_eq_true, hw1, hw2, hw3, ex_cast1, osg, addr_add, hc0, hc1, hc2, hc3, q1, q2, q3, q4, q5])
        | (refine xi rfl (by simp only [List.length_cons, List.length_nil]; omega) ?_; try simp only [push_cast, Int.cast_ofNat_Int, reduceIte, Nat.reduceEqDiff, reduceCtorEq, Nat.reduceAdd, Nat.reduceSub, Nat.reduceMul, Int.reduceToNat, Nat.reduceLeDiff, Option.map_some, Option.map_none, Option.isSome_none, Option.isNone_none, Option.some.injEq, Int.natCast_inj, exists_eq_left', or_true, true_or, Bool.false_eq_true, hw1, hw2, hw3, ex_cast1, osg, addr_add, hc0, hc1, hc2, hc3, q1, q2, q3, q4, q5])
        | (refine xs rfl (by simp only [List.length_cons, List.length_nil]; omega) ?_; try simp only [push_cast, Int.cast_ofNat_Int, reduceIte, Nat.reduceEqDiff, reduceCtorEq, Nat.reduceAdd, Nat.reduceSub, Nat.reduceMul, Int.reduceToNat, Nat.reduceLeDiff, Option.map_some, Option.map_none, Option.isSome_none, Option.isNone_none, Option.some.injEq, Int.natCast_inj, exists_eq_left', or_true, true_or, Bool.false_eq_true, hw1, hw2, hw3, ex_cast1, osg, addr_add, hc0, hc1, hc2, hc3, q1, q2, q3, q4, q5])
        | (refine xw ?_; simp only [push_cast, Int.cast_ofNat_Int, reduceIte, Nat.reduceEqDiff, reduceCtorEq, Nat.reduceAdd, Nat.reduceSub, Nat.reduceMul, Int.reduceToNat, Nat.reduceLeDiff, Option.map_some, Option.map_none, Option.isSome_none, Option.isNone_none, Option.some.injEq, Int.natCast_inj, exists_eq_left', or_true, true_or, Bool.false_eq_true, hw1, hw2, hw3, ex_cast1, osg, addr_add, hc0, hc1, hc2, hc3, q1, q2, q3, q4, q5])
        | (refine And.intro (PHeap.le_refl _) (And.intro (fun p hp => hp) ?_))
        | (refine And.intro (PHeap.le_refl _) (And.intro (fun p hp => List.mem_cons_of_mem _ hp) ?_))
        | (refine And.intro (PHeap.le_refl _) (And.intro (fun p hp => List.mem_cons_of_mem _ (List.mem_cons_of_mem _ hp)) ?_))
        | (refine And.intro (PHeap.le_refl _) (And.intro (mem_of_sub ?_) ?_); focus ((repeat' first | exact List.Sublist.refl _ | exact List.nil_sublist _ | exact List.sublist_append_left _ _ | refine List.Sublist.cons_cons _ ?_ | refine List.Sublist.append_left ?_ _ | refine List.sublist_append_of_sublist_right ?_ | refine List.Sublist.cons _ ?_); done); try simp only [push_cast, Int.cast_ofNat_Int, reduceIte, Nat.reduceEqDiff, reduceCtorEq, Nat.reduceAdd, Nat.reduceSub, Nat.reduceMul, Int.reduceToNat, Nat.reduceLeDiff, Option.map_some, Option.map_none, Option.isSome_none, Option.isNone_none, Option.some.injEq, Int.natCast_inj, exists_eq_left', or_true, true_or, Bool.false_eq_true, hw1, hw2, hw3, ex_cast1, osg, addr_add, hc0, hc1, hc2, hc3, q1, q2, q3, q4, q5])
        | (exfalso; simp at hc; done)
        | (exfalso; omega)
        | exact false
        | fail "stuck"
    simp only [hc0, hc1, if_false, addr_add, Option.map_some, Nat.zero_add]
    refine ⟨.bool false, fun w hs => ⟨w, ov_run hs (by rw [List.length_append]; omega) _ _ _, rfl, rfl, rfl, rfl⟩, ?_⟩
    simp only [onv_some]
    repeat' first
        | refine EV.seq ?_
        | refine EV.skip ?_
        | refine EV.block ?_
        | refine EV.inBlock ?_
        | (refine EV.reg ?_; (conv => (arg 2; whnf)); simp only [push_cast, Int.cast_ofNat_Int, reduceIte, Nat.reduceEqDiff, reduceCtorEq, Nat.reduceAdd, Nat.reduceSub, Nat.reduceMul, Int.reduceToNat, Nat.reduceLeDiff, Option.map_some, Option.map_none, Option.isSome_none, Option.isNone_none, Option.some.injEq, Int.natCast_inj, exists_eq_left', or_true, true_or, Bool.false_eq_true, hw1, hw2, hw3, ex_cast1, osg, addr_add, hc0, hc1, hc2, hc3, q1, q2, q3, q4, q5])
        | assumption
        | (refine condW.merge ?_ (fun hc K' hK => ?_) ?_; rotate_left)
        | (refine condQ.mk ?_ (fun hc => ?_) ?_; rotate_left; (try simp only [decide_eq_true_eq, decide_eq_false_iff_not, Bool.not_eq_true', Bool.not_eq_false', Bool.and_eq_true, Bool.or_eq_true, Bool.and_eq_false_iff, Bool.or_eq_false_iff] at hc))
        | (with_reducible rfl)
        | ((refine EV.cond rfl (fun h => ?_) (fun h => ?_) <;> try simp only [reduceCtorEq, reduceIte, if_true, if_false, Bool.not_eq_true', Bool.not_eq_false', decide_eq_true_eq, decide_eq_false_iff_not, Bool.and_eq_true, Bool.or_eq_true, Bool.and_eq_false_iff, Bool.or_eq_false_iff] at h) <;> try (exfalso; first | exact h True.intro | (exact h; done) | omega))
        | (refine EV.exit rfl ?_)
        | (with_reducible intro b; try simp only [push_cast, Int.cast_ofNat_Int, reduceIte, Nat.reduceEqDiff, reduceCtorEq, Nat.reduceAdd, Nat.reduceSub, Nat.reduceMul, Int.reduceToNat, Nat.reduceLeDiff, Option.map_some, Option.map_none, Option.isSome_none, Option.isNone_none, Option.some.injEq, Int.natCast_inj, exists_eq_left', or_true, true_or, Bool.false_eq_true, hw1, hw2, hw3, ex_cast1, osg, addr_add, hc0, hc1, hc2, hc3, q1, q2, q3, q4, q5])
        | with_reducible intro b
        | (refine And.intro (by omega) ?_)
        | (refine Exists.intro _ (And.intro (rd_M (by assumption)) ?_); try simp only [push_cast, Int.cast_ofNat_Int, reduceIte, Nat.reduceEqDiff, reduceCtorEq, Nat.reduceAdd, Nat.reduceSub, Nat.reduceMul, Int.reduceToNat, Nat.reduceLeDiff, Option.map_some, Option.map_none, Option.isSome_none, Option.isNone_none, Option.some.injEq, Int.natCast_inj, exists_eq_left', or_true, true_or, Bool.false_eq_true, hw1, hw2, hw3, ex_cast1, osg, addr_add, hc0, hc1, hc2, hc3, q1, q2, q3, q4, q5])
        | (refine Exists.intro _ (Exists.intro _ (Exists.intro _ (And.intro (rd_M (by assumption)) ?_))); try simp only [push_cast, Int.cast_ofNat_Int, reduceIte, Nat.reduceEqDiff, reduceCtorEq, Nat.reduceAdd, Nat.reduceSub, Nat.reduceMul, Int.reduceToNat, Nat.reduceLeDiff, Option.map_some, Option.map_none, Option.isSome_none, Option.isNone_none, Option.some.injEq, Int.natCast_inj, exists_eq_left', or_true, true_or, Bool.false_eq_true, hw1, hw2, hw3, ex_cast1, osg, addr_add, hc0, hc1, hc2, hc3, q1, q2, q3, q4, q5])
        | (refine Exists.intro _ (And.intro (by assumption) ?_); try simp only [push_cast, Int.cast_ofNat_Int, reduceIte, Nat.reduceEqDiff, reduceCtorEq, Nat.reduceAdd, Nat.reduceSub, Nat.reduceMul, Int.reduceToNat, Nat.reduceLeDiff, Option.map_some, Option.map_none, Option.isSome_none, Option.isNone_none, Option.some.injEq, Int.natCast_inj, exists_eq_left', or_true, true_or, Bool.false_eq_true, hw1, hw2, hw3, ex_cast1, osg, addr_add, hc0, hc1, hc2, hc3, q1, q2, q3, q4, q5])
        | (refine Exists.intro _ (Exists.intro _ (Exists.intro _ (And.intro (by assumption) ?_))); try simp only [push_cast, Int.cast_ofNat_Int, reduceIte, Nat.reduceEqDiff, reduceCtorEq, Nat.reduceAdd, Nat.reduceSub, Nat.reduceMul, Int.reduceToNat, Nat.reduceLeDiff, Option.map_some, Option.map_none, Option.isSome_none, Option.isNone_none, Option.some.injEq, Int.natCast_inj, exists_eq_left', or_true, true_or, Bool.false_eq_true, hw1, hw2, hw3, ex_cast1, osg, addr_add, hc0, hc1, hc2, hc3, q1, q2, q3, q4, q5])
        | (refine xr rfl (by simp only [List.length_cons, List.length_nil]; omega) ?_; try simp only [push_cast, Int.cast_ofNat_Int, reduceIte, Nat.reduceEqDiff, reduceCtorEq, Nat.reduceAdd, Nat.reduceSub, Nat.reduceMul, Int.reduceToNat, Nat.reduceLeDiff, Option.map_some, Option.map_none, Option.isSome_none, Option.isNone_none, Option.some.injEq, Int.natCast_inj, exists_eq_left', or_true, true_or, Bool.false_eq_true, hw1, hw2, hw3, ex_cast1, osg, addr_add, hc0, hc1, hc2, hc3, q1, q2, q3, q4, q5])
        | (refine xi rfl (by simp only [List.length_cons, List.length_nil]; omega) ?_; try simp only [push_cast, Int.cast_ofNat_Int, reduceIte, Nat.reduceEqDiff, reduceCtorEq, Nat.reduceAdd, Nat.reduceSub, Nat.reduceMul, Int.reduceToNat, Nat.reduceLeDiff, Option.map_some, Option.map_none, Option.isSome_none, Option.isNone_none, Option.some.injEq, Int.natCast_inj, exists_eq_left', or_true, true_or, Bool.false_eq_true, hw1, hw2, hw3, ex_cast1, osg, addr_add, hc0, hc1, hc2, hc3, q1, q2, q3, q4, q5])
        | (refine xs rfl (by simp only [List.length_cons, List.length_nil]; omega) ?_; try simp only [push_cast, Int.cast_ofNat_Int, reduceIte, Nat.reduceEqDiff, reduceCtorEq, Nat.reduceAdd, Nat.reduceSub, Nat.reduceMul, Int.reduceToNat, Nat.reduceLeDiff, Option.map_some, Option.map_none, Option.isSome_none, Option.isNone_none, Option.some.injEq, Int.natCast_inj, exists_eq_left', or_true, true_or, Bool.false_eq_true, hw1, hw2, hw3, ex_cast1, osg, addr_add, hc0, hc1, hc2, hc3, q1, q2, q3, q4, q5])
        | (refine xw ?_; simp only [push_cast, Int.cast_ofNat_Int, reduceIte, Nat.reduceEqDiff, reduceCtorEq, Nat.reduceAdd, Nat.reduceSub, Nat.reduceMul, Int.reduceToNat, Nat.reduceLeDiff, Option.map_some, Option.map_none, Option.isSome_none, Option.isNone_none, Option.some.injEq, Int.natCast_inj, exists_eq_left', or_true, true_or, Bool.false_eq_true, hw1, hw2, hw3, ex_cast1, osg, addr_add, hc0, hc1, hc2, hc3, q1, q2, q3, q4, q5])
        | (refine And.intro (PHeap.le_refl _) (And.intro (fun p hp => hp) ?_))
        | (refine And.intro (PHeap.le_refl _) (And.intro (fun p hp => List.mem_cons_of_mem _ hp) ?_))
        | (refine And.intro (PHeap.le_refl _) (And.intro (fun p hp => List.mem_cons_of_mem _ (List.mem_cons_of_mem _ hp)) ?_))
        | (refine And.intro (PHeap.le_refl _) (And.intro (mem_of_sub ?_) ?_); focus ((repeat' first | exact List.Sublist.refl _ | exact List.nil_sublist _ | exact List.sublist_append_left _ _ | refine List.Sublist.cons_cons _ ?_ | refine List.Sublist.append_left ?_ _ | refine List.sublist_append_of_sublist_right ?_ | refine List.Sublist.cons _ ?_); done); try simp only [push_cast, Int.cast_ofNat_Int, reduceIte, Nat.reduceEqDiff, reduceCtorEq, Nat.reduceAdd, Nat.reduceSub, Nat.reduceMul, Int.reduceToNat, Nat.reduceLeDiff, Option.map_some, Option.map_none, Option.isSome_none, Option.isNone_none, Option.some.injEq, Int.natCast_inj, exists_eq_left', or_true, true_or, Bool.false_eq_true, hw1, hw2, hw3, ex_cast1, osg, addr_add, hc0, hc1, hc2, hc3, q1, q2, q3, q4, q5])
        | (exfalso; simp at hc; done)
        | (exfalso; omega)
        | exact false
        | fail "stuck"
    refine EV.any (t := R_slices_Insert_Lint_int_15) _ (List.Sublist.refl _) ?_
    simp only [push_cast, Int.cast_ofNat_Int, reduceIte, Nat.reduceEqDiff, reduceCtorEq, Nat.reduceAdd, Nat.reduceSub, Nat.reduceMul, Int.reduceToNat, Nat.reduceLeDiff, Option.map_some, Option.map_none, Option.isSome_none, Option.isNone_none, Option.some.injEq, Int.natCast_inj, exists_eq_left', or_true, true_or, Bool.false_eq_true, hw1, hw2, hw3, ex_cast1, osg, addr_add, hc0, hc1, hc2, hc3, q1, q2, q3, q4, q5, R_slices_Insert_Lint_int_15]
    repeat refine And.intro (by omega) ?_
    have hsl : sp.length = cap - xs.length := by rw [List.length_append] at k2; omega
    have q2' : min (xs.length - i) (xs.length + 1 - i) = xs.length - i := by omega
    refine ⟨((xs.map vi ++ sp).drop i).take (xs.length + 1 - i), Or.inr ⟨b, i, rfl, rd_own' 0 rfl (by rw [Nat.mul_one]) ?_⟩, ?_, Or.inr ⟨b, i + 1, rfl, 3, _, [], [_], rfl, ?_, ?_⟩⟩
    · rw [List.length_append]; omega
    · rw [List.take_take, q2', List.drop_append_of_le_length (by omega), List.take_append_of_le_length (by rw [List.length_drop]; omega)]
      intro v hv
      obtain ⟨y, _, rfl⟩ := List.mem_map.1 (List.mem_of_mem_drop (List.mem_of_mem_take hv))
      rfl
    · rw [List.length_append]; omega
    have e1 : List.take (xs.length - i) (((xs.map vi ++ sp).drop i).take (xs.length + 1 - i)) = (xs.drop i).map vi := by
      rw [List.take_take, q2', List.drop_append_of_le_length (by omega), List.take_append_of_le_length (by rw [List.length_drop]; omega), List.map_drop]
      exact List.take_of_length_le (by rw [List.length_drop]; omega)
    simp only [e1]
    repeat' first
        | refine EV.seq ?_
        | refine EV.skip ?_
        | refine EV.block ?_
        | refine EV.inBlock ?_
        | (refine EV.reg ?_; (conv => (arg 2; whnf)); simp only [push_cast, Int.cast_ofNat_Int, reduceIte, Nat.reduceEqDiff, reduceCtorEq, Nat.reduceAdd, Nat.reduceSub, Nat.reduceMul, Int.reduceToNat, Nat.reduceLeDiff, Option.map_some, Option.map_none, Option.isSome_none, Option.isNone_none, Option.some.injEq, Int.natCast_inj, exists_eq_left', or_true, true_or, Bool.false_eq_true, hw1, hw2, hw3, ex_cast1, osg, addr_add, hc0, hc1, hc2, hc3, q1, q2, q3, q4, q5])
        | assumption
        | (refine condW.merge ?_ (fun hc K' hK => ?_) ?_; rotate_left)
        | (refine condQ.mk ?_ (fun hc => ?_) ?_; rotate_left; (try simp only [decide_eq_true_eq, decide_eq_false_iff_not, Bool.not_eq_true', Bool.not_eq_false', Bool.and_eq_true, Bool.or_eq_true, Bool.and_eq_false_iff, Bool.or_eq_false_iff] at hc))
        | (with_reducible rfl)
        | ((refine EV.cond rfl (fun h => ?_) (fun h => ?_) <;> try simp only [reduceCtorEq, reduceIte, if_true, if_false, Bool.not_eq_true', Bool.not_eq_false', decide_eq_true_eq, decide_eq_false_iff_not, Bool.and_eq_true, Bool.or_eq_true, Bool.and_eq_false_iff, Bool.or_eq_false_iff] at h) <;> try (exfalso; first | exact h True.intro | (exact h; done) | omega))
        | (refine EV.exit rfl ?_)
        | (with_reducible intro b; try simp only [push_cast, Int.cast_ofNat_Int, reduceIte, Nat.reduceEqDiff, reduceCtorEq, Nat.reduceAdd, Nat.reduceSub, Nat.reduceMul, Int.reduceToNat, Nat.reduceLeDiff, Option.map_some, Option.map_none, Option.isSome_none, Option.isNone_none, Option.some.injEq, Int.natCast_inj, exists_eq_left', or_true, true_or, Bool.false_eq_true, hw1, hw2, hw3, ex_cast1, osg, addr_add, hc0, hc1, hc2, hc3, q1, q2, q3, q4, q5])
        | with_reducible intro b
        | (refine And.intro (by omega) ?_)
        | (refine Exists.intro _ (And.intro (rd_M (by assumption)) ?_); try simp only [push_cast, Int.cast_ofNat_Int, reduceIte, Nat.reduceEqDiff, reduceCtorEq, Nat.reduceAdd, Nat.reduceSub, Nat.reduceMul, Int.reduceToNat, Nat.reduceLeDiff, Option.map_some, Option.map_none, Option.isSome_none, Option.isNone_none, Option.some.injEq, Int.natCast_inj, exists_eq_left', or_true, true_or, Bool.false_eq_true, hw1, hw2, hw3, ex_cast1, osg, addr_add, hc0, hc1, hc2, hc3, q1, q2, q3, q4, q5])
        | (refine Exists.intro _ (Exists.intro _ (Exists.intro _ (And.intro (rd_M (by assumption)) ?_))); try simp only [push_cast, Int.cast_ofNat_Int, reduceIte, Nat.reduceEqDiff, reduceCtorEq, Nat.reduceAdd, Nat.reduceSub, Nat.reduceMul, Int.reduceToNat, Nat.reduceLeDiff, Option.map_some, Option.map_none, Option.isSome_none, Option.isNone_none, Option.some.injEq, Int.natCast_inj, exists_eq_left', or_true, true_or, Bool.false_eq_true, hw1, hw2, hw3, ex_cast1, osg, addr_add, hc0, hc1, hc2, hc3, q1, q2, q3, q4, q5])
        | (refine Exists.intro _ (And.intro (by assumption) ?_); try simp only [push_cast, Int.cast_ofNat_Int, reduceIte, Nat.reduceEqDiff, reduceCtorEq, Nat.reduceAdd, Nat.reduceSub, Nat.reduceMul, Int.reduceToNat, Nat.reduceLeDiff, Option.map_some, Option.map_none, Option.isSome_none, Option.isNone_none, Option.some.injEq, Int.natCast_inj, exists_eq_left', or_true, true_or, Bool.false_eq_true, hw1, hw2, hw3, ex_cast1, osg, addr_add, hc0, hc1, hc2, hc3, q1, q2, q3, q4, q5])
        | (refine Exists.intro _ (Exists.intro _ (Exists.intro _ (And.intro (by assumption) ?_))); try simp only [push_cast, Int.cast_ofNat_Int, reduceIte, Nat.reduceEqDiff, reduceCtorEq, Nat.reduceAdd, Nat.reduceSub, Nat.reduceMul, Int.reduceToNat, Nat.reduceLeDiff, Option.map_some, Option.map_none, Option.isSome_none, Option.isNone_none, Option.some.injEq, Int.natCast_inj, exists_eq_left', or_true, true_or, Bool.false_eq_true, hw1, hw2, hw3, ex_cast1, osg, addr_add, hc0, hc1, hc2, hc3, q1, q2, q3, q4, q5])
        | (refine xr rfl (by simp only [List.length_cons, List.length_nil]; omega) ?_; try simp only [push_cast, Int.cast_ofNat_Int, reduceIte, Nat.reduceEqDiff, reduceCtorEq, Nat.reduceAdd, Nat.reduceSub, Nat.reduceMul, Int.reduceToNat, Nat.reduceLeDiff, Option.map_some, Option.map_none, Option.isSome_none, Option.isNone_none, Option.some.injEq, Int.natCast_inj, exists_eq_left', or_true, true_or, Bool.false_eq_true, hw1, hw2, hw3, ex_cast1, osg, addr_add, hc0, hc1, hc2, hc3, q1, q2, q3, q4, q5])
        | (refine xi rfl (by simp only [List.length_cons, List.length_nil]; omega) ?_; try simp only [push_cast, Int.cast_ofNat_Int, reduceIte, Nat.reduceEqDiff, reduceCtorEq, Nat.reduceAdd, Nat.reduceSub, Nat.reduceMul, Int.reduceToNat, Nat.reduceLeDiff, Option.map_some, Option.map_none, Option.isSome_none, Option.isNone_none, Option.some.injEq, Int.natCast_inj, exists_eq_left', or_true, true_or, Bool.false_eq_true, hw1, hw2, hw3, ex_cast1, osg, addr_add, hc0, hc1, hc2, hc3, q1, q2, q3, q4, q5])
        | (refine xs rfl (by simp only [List.length_cons, List.length_nil]; omega) ?_; try simp only [push_cast, Int.cast_ofNat_Int, reduceIte, Nat.reduceEqDiff, reduceCtorEq, Nat.reduceAdd, Nat.reduceSub, Nat.reduceMul, Int.reduceToNat, Nat.reduceLeDiff, Option.map_some, Option.map_none, Option.isSome_none, Option.isNone_none, Option.some.injEq, Int.natCast_inj, exists_eq_left', or_true, true_or, Bool.false_eq_true, hw1, hw2, hw3, ex_cast1, osg, addr_add, hc0, hc1, hc2, hc3, q1, q2, q3, q4, q5])
        | (refine xw ?_; simp only [push_cast, Int.cast_ofNat_Int, reduceIte, Nat.reduceEqDiff, reduceCtorEq, Nat.reduceAdd, Nat.reduceSub, Nat.reduceMul, Int.reduceToNat, Nat.reduceLeDiff, Option.map_some, Option.map_none, Option.isSome_none, Option.isNone_none, Option.some.injEq, Int.natCast_inj, exists_eq_left', or_true, true_or, Bool.false_eq_true, hw1, hw2, hw3, ex_cast1, osg, addr_add, hc0, hc1, hc2, hc3, q1, q2, q3, q4, q5])
        | (refine And.intro (PHeap.le_refl _) (And.intro (fun p hp => hp) ?_))
        | (refine And.intro (PHeap.le_refl _) (And.intro (fun p hp => List.mem_cons_of_mem _ hp) ?_))
        | (refine And.intro (PHeap.le_refl _) (And.intro (fun p hp => List.mem_cons_of_mem _ (List.mem_cons_of_mem _ hp)) ?_))
        | (refine And.intro (PHeap.le_refl _) (And.intro (mem_of_sub ?_) ?_); focus ((repeat' first | exact List.Sublist.refl _ | exact List.nil_sublist _ | exact List.sublist_append_left _ _ | refine List.Sublist.cons_cons _ ?_ | refine List.Sublist.append_left ?_ _ | refine List.sublist_append_of_sublist_right ?_ | refine List.Sublist.cons _ ?_); done); try simp only [push_cast, Int.cast_ofNat_Int, reduceIte, Nat.reduceEqDiff, reduceCtorEq, Nat.reduceAdd, Nat.reduceSub, Nat.reduceMul, Int.reduceToNat, Nat.reduceLeDiff, Option.map_some, Option.map_none, Option.isSome_none, Option.isNone_none, Option.some.injEq, Int.natCast_inj, exists_eq_left', or_true, true_or, Bool.false_eq_true, hw1, hw2, hw3, ex_cast1, osg, addr_add, hc0, hc1, hc2, hc3, q1, q2, q3, q4, q5])
        | (exfalso; simp at hc; done)
        | (exfalso; omega)
        | exact false
        | fail "stuck"
    refine ⟨[vi x], Or.inr ⟨vb, 0, rfl, rd_own' 1 rfl rfl (by simp)⟩, by simp [ok1_cons, ok1_nil, Value.oneCell'], Or.inr ⟨b, i, rfl, 3, _, [], [_], rfl, ?_, ?_⟩⟩
    · simp; omega
    repeat' first
        | refine EV.seq ?_
        | refine EV.skip ?_
        | refine EV.block ?_
        | refine EV.inBlock ?_
        | (refine EV.reg ?_; (conv => (arg 2; whnf)); simp only [push_cast, Int.cast_ofNat_Int, reduceIte, Nat.reduceEqDiff, reduceCtorEq, Nat.reduceAdd, Nat.reduceSub, Nat.reduceMul, Int.reduceToNat, Nat.reduceLeDiff, Option.map_some, Option.map_none, Option.isSome_none, Option.isNone_none, Option.some.injEq, Int.natCast_inj, exists_eq_left', or_true, true_or, Bool.false_eq_true, hw1, hw2, hw3, ex_cast1, osg, addr_add, hc0, hc1, hc2, hc3, q1, q2, q3, q4, q5])
        | assumption
        | (refine condW.merge ?_ (fun hc K' hK => ?_) ?_; rotate_left)
        | (refine condQ.mk ?_ (fun hc => ?_) ?_; rotate_left; (try simp only [decide_eq_true_eq, decide_eq_false_iff_not, Bool.not_eq_true', Bool.not_eq_false', Bool.and_eq_true, Bool.or_eq_true, Bool.and_eq_false_iff, Bool.or_eq_false_iff] at hc))
        | (with_reducible rfl)
        | ((refine EV.cond rfl (fun h => ?_) (fun h => ?_) <;> try simp only [reduceCtorEq, reduceIte, if_true, if_false, Bool.not_eq_true', Bool.not_eq_false', decide_eq_true_eq, decide_eq_false_iff_not, Bool.and_eq_true, Bool.or_eq_true, Bool.and_eq_false_iff, Bool.or_eq_false_iff] at h) <;> try (exfalso; first | exact h True.intro | (exact h; done) | omega))
        | (refine EV.exit rfl ?_)
        | (with_reducible intro b; try simp only [push_cast, Int.cast_ofNat_Int, reduceIte, Nat.reduceEqDiff, reduceCtorEq, Nat.reduceAdd, Nat.reduceSub, Nat.reduceMul, Int.reduceToNat, Nat.reduceLeDiff, Option.map_some, Option.map_none, Option.isSome_none, Option.isNone_none, Option.some.injEq, Int.natCast_inj, exists_eq_left', or_true, true_or, Bool.false_eq_true, hw1, hw2, hw3, ex_cast1, osg, addr_add, hc0, hc1, hc2, hc3, q1, q2, q3, q4, q5])
        | with_reducible intro b
        | (refine And.intro (by omega) ?_)
        | (refine Exists.intro _ (And.intro (rd_M (by assumption)) ?_); try simp only [push_cast, Int.cast_ofNat_Int, reduceIte, Nat.reduceEqDiff, reduceCtorEq, Nat.reduceAdd, Nat.reduceSub, Nat.reduceMul, Int.reduceToNat, Nat.reduceLeDiff, Option.map_some, Option.map_none, Option.isSome_none, Option.isNone_none, Option.some.injEq, Int.natCast_inj, exists_eq_left', or_true, true_or, Bool.false_eq_true, hw1, hw2, hw3, ex_cast1, osg, addr_add, hc0, hc1, hc2, hc3, q1, q2, q3, q4, q5])
        | (refine Exists.intro _ (Exists.intro _ (Exists.intro _ (And.intro (rd_M (by assumption)) ?_))); try simp only [push_cast, Int.cast_ofNat_Int, reduceIte, Nat.reduceEqDiff, reduceCtorEq, Nat.reduceAdd, Nat.reduceSub, Nat.reduceMul, Int.reduceToNat, Nat.reduceLeDiff, Option.map_some, Option.map_none, Option.isSome_none, Option.isNone_none, Option.some.injEq, Int.natCast_inj, exists_eq_left', or_true, true_or, Bool.false_eq_true, hw1, hw2, hw3, ex_cast1, osg, addr_add, hc0, hc1, hc2, hc3, q1, q2, q3, q4, q5])
        | (refine Exists.intro _ (And.intro (by assumption) ?_); try simp only [push_cast, Int.cast_ofNat_Int, reduceIte, Nat.reduceEqDiff, reduceCtorEq, Nat.reduceAdd, Nat.reduceSub, Nat.reduceMul, Int.reduceToNat, Nat.reduceLeDiff, Option.map_some, Option.map_none, Option.isSome_none, Option.isNone_none, Option.some.injEq, Int.natCast_inj, exists_eq_left', or_true, true_or, Bool.false_eq_true, hw1, hw2, hw3, ex_cast1, osg, addr_add, hc0, hc1, hc2, hc3, q1, q2, q3, q4, q5])
        | (refine Exists.intro _ (Exists.intro _ (Exists.intro _ (And.intro (by assumption) ?_))); try simp only [push_cast, Int.cast_ofNat_Int, reduceIte, Nat.reduceEqDiff, reduceCtorEq, Nat.reduceAdd, Nat.reduceSub, Nat.reduceMul, Int.reduceToNat, Nat.reduceLeDiff, Option.map_some, Option.map_none, Option.isSome_none, Option.isNone_none, Option.some.injEq, Int.natCast_inj, exists_eq_left', or_true, true_or, Bool.false_eq_true, hw1, hw2, hw3, ex_cast1, osg, addr_add, hc0, hc1, hc2, hc3, q1, q2, q3, q4, q5])
        | (refine xr rfl (by simp only [List.length_cons, List.length_nil]; omega) ?_; try simp only [push_cast, Int.cast_ofNat_Int, reduceIte, Nat.reduceEqDiff, reduceCtorEq, Nat.reduceAdd, Nat.reduceSub, Nat.reduceMul, Int.reduceToNat, Nat.reduceLeDiff, Option.map_some, Option.map_none, Option.isSome_none, Option.isNone_none, Option.some.injEq, Int.natCast_inj, exists_eq_left', or_true, true_or, Bool.false_eq_true, hw1, hw2, hw3, ex_cast1, osg, addr_add, hc0, hc1, hc2, hc3, q1, q2, q3, q4, q5])
        | (refine xi rfl (by simp only [List.length_cons, List.length_nil]; omega) ?_; try simp only [push_cast, Int.cast_ofNat_Int, reduceIte, Nat.reduceEqDiff, reduceCtorEq, Nat.reduceAdd, Nat.reduceSub, Nat.reduceMul, Int.reduceToNat, Nat.reduceLeDiff, Option.map_some, Option.map_none, Option.isSome_none, Option.isNone_none, Option.some.injEq, Int.natCast_inj, exists_eq_left', or_true, true_or, Bool.false_eq_true, hw1, hw2, hw3, ex_cast1, osg, addr_add, hc0, hc1, hc2, hc3, q1, q2, q3, q4, q5])
        | (refine xs rfl (by simp only [List.length_cons, List.length_nil]; omega) ?_; try simp only [push_cast, Int.cast_ofNat_Int, reduceIte, Nat.reduceEqDiff, reduceCtorEq, Nat.reduceAdd, Nat.reduceSub, Nat.reduceMul, Int.reduceToNat, Nat.reduceLeDiff, Option.map_some, Option.map_none, Option.isSome_none, Option.isNone_none, Option.some.injEq, Int.natCast_inj, exists_eq_left', or_true, true_or, Bool.false_eq_true, hw1, hw2, hw3, ex_cast1, osg, addr_add, hc0, hc1, hc2, hc3, q1, q2, q3, q4, q5])
        | (refine xw ?_; simp only [push_cast, Int.cast_ofNat_Int, reduceIte, Nat.reduceEqDiff, reduceCtorEq, Nat.reduceAdd, Nat.reduceSub, Nat.reduceMul, Int.reduceToNat, Nat.reduceLeDiff, Option.map_some, Option.map_none, Option.isSome_none, Option.isNone_none, Option.some.injEq, Int.natCast_inj, exists_eq_left', or_true, true_or, Bool.false_eq_true, hw1, hw2, hw3, ex_cast1, osg, addr_add, hc0, hc1, hc2, hc3, q1, q2, q3, q4, q5])
        | (refine And.intro (PHeap.le_refl _) (And.intro (fun p hp => hp) ?_))
        | (refine And.intro (PHeap.le_refl _) (And.intro (fun p hp => List.mem_cons_of_mem _ hp) ?_))
        | (refine And.intro (PHeap.le_refl _) (And.intro (fun p hp => List.mem_cons_of_mem _ (List.mem_cons_of_mem _ hp)) ?_))
        | (refine And.intro (PHeap.le_refl _) (And.intro (mem_of_sub ?_) ?_); focus ((repeat' first | exact List.Sublist.refl _ | exact List.nil_sublist _ | exact List.sublist_append_left _ _ | refine List.Sublist.cons_cons _ ?_ | refine List.Sublist.append_left ?_ _ | refine List.sublist_append_of_sublist_right ?_ | refine List.Sublist.cons _ ?_); done); try simp only [push_cast, Int.cast_ofNat_Int, reduceIte, Nat.reduceEqDiff, reduceCtorEq, Nat.reduceAdd, Nat.reduceSub, Nat.reduceMul, Int.reduceToNat, Nat.reduceLeDiff, Option.map_some, Option.map_none, Option.isSome_none, Option.isNone_none, Option.some.injEq, Int.natCast_inj, exists_eq_left', or_true, true_or, Bool.false_eq_true, hw1, hw2, hw3, ex_cast1, osg, addr_add, hc0, hc1, hc2, hc3, q1, q2, q3, q4, q5])
        | (exfalso; simp at hc; done)
        | (exfalso; omega)
        | exact false
        | fail "stuck"
    obtain ⟨s0, sp', rfl⟩ : ∃ s0 sp', sp = s0 :: sp' := by
      cases sp with
      | nil => simp at hsl; omega
      | cons s0 sp' => exact ⟨s0, sp', rfl⟩
    have hX : xs.map vi ++ s0 :: sp' = (xs.take i).map vi ++ ((xs.drop i).map vi ++ (s0 :: sp')) := by
      rw [← List.append_assoc, ← List.map_append, List.take_append_drop]
    have e := two2 ((xs.take i).map vi) ((xs.drop i).map vi) sp' s0 (vi x) (i := i) (by simp; omega)
    rw [hX, e]
    have e3 : (insL xs i x).map vi ++ sp' = (xs.take i).map vi ++ (vi x :: ((xs.drop i).map vi ++ sp')) := by simp [insL]
    rw [← e3]
    refine EV.to (ρ' := [(6, rowV b (xs.length + 1) cap)]) (G' := [(b, Cl 3 ((insL xs i x).map vi ++ sp'))]) ?_ ?env2 (by (repeat' first | exact List.Sublist.refl _ | exact List.nil_sublist _ | exact List.sublist_append_left _ _ | refine List.Sublist.cons_cons _ ?_ | refine List.Sublist.append_left ?_ _ | refine List.sublist_append_of_sublist_right ?_ | refine List.Sublist.cons _ ?_))
    case env2 =>
      repeat' first
        | (refine List.forall_mem_cons.2 (And.intro ?_ ?_))
        | (intro _ hnil; cases hnil; done)
        | rfl
        | (refine env_w64 rfl (by first | rfl | (push_cast; first | rfl | omega)) (by omega) (by omega); done)
        | (simp (disch := omega) only [get_cons, get_nil, reduceIte, Nat.reduceEqDiff, Option.some.injEq, Value.int.injEq, w64, Int.natCast_add, Int.natCast_one, Int.cast_ofNat_Int, Int.natCast_zero]; done)
    refine EV.ret R_slices_Insert_Lint_int_ok ?_
    simp only [push_cast, Int.cast_ofNat_Int, reduceIte, Nat.reduceEqDiff, reduceCtorEq, Nat.reduceAdd, Nat.reduceSub, Nat.reduceMul, Int.reduceToNat, Nat.reduceLeDiff, R_slices_Insert_Lint_int]
    refine ⟨(b, cap, sp'), rfl, ⟨by simp [insL_len], ?_, by omega, k4⟩, rfl⟩
    rw [List.length_append, List.length_map, insL_len]
    simp at hsl
    omega

end
end Go.EV
