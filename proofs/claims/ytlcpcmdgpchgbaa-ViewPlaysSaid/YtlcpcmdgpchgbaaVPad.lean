/- Memory orders: what the functions of the package order compute. Litmus programs: what the functions of the package litmus compute. litmus.Check. litmus.strongFence, litmus.Expand$1. Nothing of its own. From a contract to a statement. What comes in, as it is read. litmus.rebuilt, litmus.Expand. litmus.Expand. The machine of views, as plain functions. A machine of views in memory, as it is read. What a machine of views tells: place, join. What a machine of views tells: turn, choices. What a machine of views tells: left, Left, Over, Reach, Choices, Words. What a machine of views tells: Left, Reach, Choices, Words. What a machine of views tells: Words, Outcome. The reference: what is valid. The reference: ref03.Check. A machine of views in memory, as it is owned. A fence. -/
import Derived.Test.YtlcpcmdgpchgbaaVPac
import Derived.WalkKit
import Derived.ProofKit
import Derived.OpenShut
import Derived.ChangeStays
import Derived.ChangeBears
import Derived.HandedShaped
set_option maxRecDepth 8000
set_option linter.unusedSimpArgs false
set_option linter.unusedVariables false
namespace Go.EV
open Go.Proofs

abbrev vi (n : Int) : Value := .int .i64 n
abbrev vb (b : Bool) : Value := .bool b

def bitsP (o : Int) : Int := if o = 4 then 7 else o
def isOrderP (o : Int) : Bool := decide (0 ≤ o) && decide (o < 5)
def mayP (k o : Int) : Bool :=
  if k = 0 then !decide (o = 2) && !decide (o = 3) else if k = 1 then !decide (o = 1) && !decide (o = 3) else if k = 5 then !decide (o = 0) else true

section
variable {M : PHeap}

theorem order_bits_q (o : Int) : ConQ Try.prog 92 #[vi o] M (vi (bitsP o)) := by
  refine Con.enter Q52_ok (args := [vi o]) (by simp [Q52]) fun w0 => ?_
  simp only [Q52, argE]
  repeat' first
      | refine EV.seq ?_
      | refine EV.skip ?_
      | (refine EV.reg ?_; (conv => (arg 2; whnf)); simp only [push_cast, Int.cast_ofNat_Int, reduceIte, Nat.reduceEqDiff, reduceCtorEq, Nat.reduceAdd, Nat.reduceSub, Nat.reduceMul, Int.reduceToNat, Nat.reduceLeDiff])
      | ((refine EV.cond rfl (fun h => ?_) (fun h => ?_) <;> try simp only [reduceCtorEq, reduceIte, if_true, if_false, Bool.not_eq_true', Bool.not_eq_false', decide_eq_true_eq, decide_eq_false_iff_not, Bool.and_eq_true, Bool.or_eq_true, Bool.and_eq_false_iff, Bool.or_eq_false_iff] at h) <;> try (exfalso; first | exact h True.intro | (exact h; done) | omega | (simp only [not_true_eq_false, false_or, or_false] at h; omega)))
      | (refine EV.ret Q52_ok ?_; simp only [push_cast, Int.cast_ofNat_Int, reduceIte, Nat.reduceEqDiff, reduceCtorEq, Nat.reduceAdd, Nat.reduceSub, Nat.reduceMul, Int.reduceToNat, Nat.reduceLeDiff, Q52])
      | fail
  all_goals simp_all [bitsP]

theorem order_isOrder_q (o : Int) : ConQ Try.prog 89 #[vi o] M (vb (isOrderP o)) := by
  refine Con.enter Q53_ok (args := [vi o]) (by simp [Q53]) fun w0 => ?_
  simp only [Q53, argE]
  repeat' first
      | refine EV.seq ?_
      | (refine EV.reg ?_; (conv => (arg 2; whnf)); simp only [push_cast, Int.cast_ofNat_Int, reduceIte, Nat.reduceEqDiff, reduceCtorEq, Nat.reduceAdd, Nat.reduceSub, Nat.reduceMul, Int.reduceToNat, Nat.reduceLeDiff])
      | assumption
      | (refine condW.merge ?_ (fun hc K' hK => ?_) ?_; rotate_left)
      | (refine EV.ret Q53_ok ?_; simp only [push_cast, Int.cast_ofNat_Int, reduceIte, Nat.reduceEqDiff, reduceCtorEq, Nat.reduceAdd, Nat.reduceSub, Nat.reduceMul, Int.reduceToNat, Nat.reduceLeDiff, Q53])
      | fail
  all_goals simp_all [isOrderP]

theorem order_may_q (k o : Int) : ConQ Try.prog 90 #[vi k, vi o] M (vb (mayP k o)) := by
  refine Con.enter Q54_ok (args := [vi k, vi o]) (by simp [Q54]) fun w0 => ?_
  simp only [Q54, argE]
  repeat' first
      | refine EV.seq ?_
      | refine EV.skip ?_
      | refine EV.block ?_
      | refine EV.inBlock ?_
      | (refine EV.reg ?_; (conv => (arg 2; whnf)); simp only [push_cast, Int.cast_ofNat_Int, reduceIte, Nat.reduceEqDiff, reduceCtorEq, Nat.reduceAdd, Nat.reduceSub, Nat.reduceMul, Int.reduceToNat, Nat.reduceLeDiff])
      | assumption
      | (refine condW.merge ?_ (fun hc K' hK => ?_) ?_; rotate_left)
      | ((refine EV.cond rfl (fun h => ?_) (fun h => ?_) <;> try simp only [reduceCtorEq, reduceIte, if_true, if_false, Bool.not_eq_true', Bool.not_eq_false', decide_eq_true_eq, decide_eq_false_iff_not, Bool.and_eq_true, Bool.or_eq_true, Bool.and_eq_false_iff, Bool.or_eq_false_iff] at h) <;> try (exfalso; first | exact h True.intro | (exact h; done) | omega | (simp only [not_true_eq_false, false_or, or_false] at h; omega)))
      | (refine EV.ret Q54_ok ?_; simp only [push_cast, Int.cast_ofNat_Int, reduceIte, Nat.reduceEqDiff, reduceCtorEq, Nat.reduceAdd, Nat.reduceSub, Nat.reduceMul, Int.reduceToNat, Nat.reduceLeDiff, Q54])
      | fail
  all_goals simp_all [mayP]


def mayR (k o : Int) : Bool := decide (0 ≤ k) && decide (k < 6) && isOrderP o
theorem order_May_q (k o : Int) : ConQ Try.prog 80 #[vi k, vi o] M (.tuple #[vb (mayR k o && mayP k o), vi (if mayR k o then 0 else 1)]) := by
  refine Con.enter Q49_ok (args := [vi k, vi o]) (by simp [Q49]) fun w0 => ?_
  simp only [Q49, argE]
  repeat' first
      | refine EV.seq ?_
      | refine EV.skip ?_
      | (refine EV.reg ?_; (conv => (arg 2; whnf)); simp only [push_cast, Int.cast_ofNat_Int, reduceIte, Nat.reduceEqDiff, reduceCtorEq, Nat.reduceAdd, Nat.reduceSub, Nat.reduceMul, Int.reduceToNat, Nat.reduceLeDiff])
      | ((first | refine ConQ.call (order_may_q _ _) ?_ | refine ConQ.call (order_isOrder_q _) ?_ | fail); try simp only [push_cast, Int.cast_ofNat_Int, reduceIte, Nat.reduceEqDiff, reduceCtorEq, Nat.reduceAdd, Nat.reduceSub, Nat.reduceMul, Int.reduceToNat, Nat.reduceLeDiff])
      | assumption
      | (refine condW.merge ?_ (fun hc K' hK => ?_) ?_; rotate_left)
      | ((refine EV.cond rfl (fun h => ?_) (fun h => ?_) <;> try simp only [reduceCtorEq, reduceIte, if_true, if_false, Bool.not_eq_true', Bool.not_eq_false', decide_eq_true_eq, decide_eq_false_iff_not, Bool.and_eq_true, Bool.or_eq_true, Bool.and_eq_false_iff, Bool.or_eq_false_iff] at h) <;> try (exfalso; first | exact h True.intro | (exact h; done) | omega | (simp only [not_true_eq_false, false_or, or_false] at h; omega)))
      | (refine EV.ret Q49_ok ?_; simp only [push_cast, Int.cast_ofNat_Int, reduceIte, Nat.reduceEqDiff, reduceCtorEq, Nat.reduceAdd, Nat.reduceSub, Nat.reduceMul, Int.reduceToNat, Nat.reduceLeDiff, Q49])
      | fail
  all_goals (simp [mayR]; grind)

def acqP (o : Int) : Bool := decide (o = 1) || decide (o = 3) || decide (o = 4)
def relP (o : Int) : Bool := decide (o = 2) || decide (o = 3) || decide (o = 4)

theorem isOrder_cases {o : Int} (h : isOrderP o = true) : o = 0 ∨ o = 1 ∨ o = 2 ∨ o = 3 ∨ o = 4 := by
  simp [isOrderP] at h; omega

theorem order_Acquires_q (o : Int) (ho : isOrderP o = true) : ConQ Try.prog 82 #[vi o] M (.tuple #[vb (acqP o), vi 0]) := by
  refine Con.enter Q48_ok (args := [vi o]) (by simp [Q48]) fun w0 => ?_
  simp only [Q48, argE]
  repeat' first
      | refine EV.seq ?_
      | refine EV.skip ?_
      | (refine EV.reg ?_; (conv => (arg 2; whnf)); simp only [push_cast, Int.cast_ofNat_Int, reduceIte, Nat.reduceEqDiff, reduceCtorEq, Nat.reduceAdd, Nat.reduceSub, Nat.reduceMul, Int.reduceToNat, Nat.reduceLeDiff])
      | ((first | refine ConQ.call (order_bits_q _) ?_ | refine ConQ.call (order_isOrder_q _) ?_ | fail); try simp only [push_cast, Int.cast_ofNat_Int, reduceIte, Nat.reduceEqDiff, reduceCtorEq, Nat.reduceAdd, Nat.reduceSub, Nat.reduceMul, Int.reduceToNat, Nat.reduceLeDiff])
      | ((refine EV.cond rfl (fun h => ?_) (fun h => ?_) <;> try simp only [reduceCtorEq, reduceIte, if_true, if_false, Bool.not_eq_true', Bool.not_eq_false', decide_eq_true_eq, decide_eq_false_iff_not, Bool.and_eq_true, Bool.or_eq_true, Bool.and_eq_false_iff, Bool.or_eq_false_iff] at h) <;> try (exfalso; first | exact h True.intro | (exact h; done) | omega | (simp only [not_true_eq_false, false_or, or_false] at h; omega)))
      | (refine EV.ret Q48_ok ?_; simp only [push_cast, Int.cast_ofNat_Int, reduceIte, Nat.reduceEqDiff, reduceCtorEq, Nat.reduceAdd, Nat.reduceSub, Nat.reduceMul, Int.reduceToNat, Nat.reduceLeDiff, Q48])
      | fail
  all_goals (first | (cases (ho.symm.trans h); done) | (rcases isOrder_cases ho with rfl | rfl | rfl | rfl | rfl <;> (congr 3 <;> decide)))

theorem order_Releases_q (o : Int) (ho : isOrderP o = true) : ConQ Try.prog 84 #[vi o] M (.tuple #[vb (relP o), vi 0]) := by
  refine Con.enter Q51_ok (args := [vi o]) (by simp [Q51]) fun w0 => ?_
  simp only [Q51, argE]
  repeat' first
      | refine EV.seq ?_
      | refine EV.skip ?_
      | (refine EV.reg ?_; (conv => (arg 2; whnf)); simp only [push_cast, Int.cast_ofNat_Int, reduceIte, Nat.reduceEqDiff, reduceCtorEq, Nat.reduceAdd, Nat.reduceSub, Nat.reduceMul, Int.reduceToNat, Nat.reduceLeDiff])
      | ((first | refine ConQ.call (order_bits_q _) ?_ | refine ConQ.call (order_isOrder_q _) ?_ | fail); try simp only [push_cast, Int.cast_ofNat_Int, reduceIte, Nat.reduceEqDiff, reduceCtorEq, Nat.reduceAdd, Nat.reduceSub, Nat.reduceMul, Int.reduceToNat, Nat.reduceLeDiff])
      | ((refine EV.cond rfl (fun h => ?_) (fun h => ?_) <;> try simp only [reduceCtorEq, reduceIte, if_true, if_false, Bool.not_eq_true', Bool.not_eq_false', decide_eq_true_eq, decide_eq_false_iff_not, Bool.and_eq_true, Bool.or_eq_true, Bool.and_eq_false_iff, Bool.or_eq_false_iff] at h) <;> try (exfalso; first | exact h True.intro | (exact h; done) | omega | (simp only [not_true_eq_false, false_or, or_false] at h; omega)))
      | (refine EV.ret Q51_ok ?_; simp only [push_cast, Int.cast_ofNat_Int, reduceIte, Nat.reduceEqDiff, reduceCtorEq, Nat.reduceAdd, Nat.reduceSub, Nat.reduceMul, Int.reduceToNat, Nat.reduceLeDiff, Q51])
      | fail
  all_goals (first | (cases (ho.symm.trans h); done) | (rcases isOrder_cases ho with rfl | rfl | rfl | rfl | rfl <;> (congr 3 <;> decide)))

def plainP (k o : Int) : Int := if o ≠ 4 then o else if k = 0 then 1 else if k = 1 then 2 else 3
theorem order_Plain_q (k o : Int) (hk : mayR k o = true) (hm : mayP k o = true) (h5 : k ≠ 5) : ConQ Try.prog 63 #[vi k, vi o] M (.tuple #[vi (plainP k o), vi 0]) := by
  refine Con.enter Q50_ok (args := [vi k, vi o]) (by simp [Q50]) fun w0 => ?_
  simp only [Q50, argE]
  repeat' first
      | refine EV.seq ?_
      | refine EV.skip ?_
      | refine EV.block ?_
      | refine EV.inBlock ?_
      | (refine EV.reg ?_; (conv => (arg 2; whnf)); simp only [push_cast, Int.cast_ofNat_Int, reduceIte, Nat.reduceEqDiff, reduceCtorEq, Nat.reduceAdd, Nat.reduceSub, Nat.reduceMul, Int.reduceToNat, Nat.reduceLeDiff])
      | (refine ConQ.call (order_May_q _ _) ?_; try simp only [push_cast, Int.cast_ofNat_Int, reduceIte, Nat.reduceEqDiff, reduceCtorEq, Nat.reduceAdd, Nat.reduceSub, Nat.reduceMul, Int.reduceToNat, Nat.reduceLeDiff])
      | assumption
      | (refine condW.merge ?_ (fun hc K' hK => ?_) ?_; rotate_left)
      | ((refine EV.cond rfl (fun h => ?_) (fun h => ?_) <;> try simp only [reduceCtorEq, reduceIte, if_true, if_false, Bool.not_eq_true', Bool.not_eq_false', decide_eq_true_eq, decide_eq_false_iff_not, Bool.and_eq_true, Bool.or_eq_true, Bool.and_eq_false_iff, Bool.or_eq_false_iff] at h) <;> try (exfalso; first | exact h True.intro | (exact h; done) | omega | (simp only [not_true_eq_false, false_or, or_false] at h; omega)))
      | (refine EV.ret Q50_ok ?_; simp only [push_cast, Int.cast_ofNat_Int, reduceIte, Nat.reduceEqDiff, reduceCtorEq, Nat.reduceAdd, Nat.reduceSub, Nat.reduceMul, Int.reduceToNat, Nat.reduceLeDiff, Q50])
      | fail
  all_goals simp_all [plainP]

/-- An operation of a litmus program. -/
structure OpV where
  kind : Int
  loc : Int
  v : Int
  w : Int
  ord : Int
  deriving DecidableEq

abbrev encOp (o : OpV) : List Value := [vi o.kind, vi o.loc, vi o.v, vi o.w, vi o.ord]
abbrev vop (o : OpV) : Value := .agg #[vi o.kind, vi o.loc, vi o.v, vi o.w, vi o.ord]

def digitP (n : Int) : Bool := decide (0 ≤ n) && decide (n ≤ 9)
theorem litmus_digit_q (n : Int) : ConQ Try.prog 91 #[vi n] M (vb (digitP n)) := by
  refine Con.enter Q4_ok (args := [vi n]) (by simp [Q4]) fun w0 => ?_
  simp only [Q4, argE]
  repeat' first
      | refine EV.seq ?_
      | (refine EV.reg ?_; (conv => (arg 2; whnf)); simp only [push_cast, Int.cast_ofNat_Int, reduceIte, Nat.reduceEqDiff, reduceCtorEq, Nat.reduceAdd, Nat.reduceSub, Nat.reduceMul, Int.reduceToNat, Nat.reduceLeDiff])
      | assumption
      | (refine condW.merge ?_ (fun hc K' hK => ?_) ?_; rotate_left)
      | (refine EV.ret Q4_ok ?_; simp only [push_cast, Int.cast_ofNat_Int, reduceIte, Nat.reduceEqDiff, reduceCtorEq, Nat.reduceAdd, Nat.reduceSub, Nat.reduceMul, Int.reduceToNat, Nat.reduceLeDiff, Q4])
      | fail
  all_goals simp_all [digitP]

def accessP (o : OpV) : Bool := decide (0 ≤ o.kind) && decide (o.kind ≤ 4)
theorem litmus_access_q (o : OpV) : ConQ Try.prog 62 #[vop o] M (vb (accessP o)) := by
  refine Con.enter Q3_ok (args := [vop o]) (by simp [Q3]) fun w0 => ?_
  simp only [Q3, argE]
  repeat' first
      | refine EV.seq ?_
      | (refine EV.reg ?_; (conv => (arg 2; whnf)); simp only [push_cast, Int.cast_ofNat_Int, reduceIte, Nat.reduceEqDiff, reduceCtorEq, Nat.reduceAdd, Nat.reduceSub, Nat.reduceMul, Int.reduceToNat, Nat.reduceLeDiff])
      | assumption
      | (refine condW.merge ?_ (fun hc K' hK => ?_) ?_; rotate_left)
      | (refine EV.ret Q3_ok ?_; simp only [push_cast, Int.cast_ofNat_Int, reduceIte, Nat.reduceEqDiff, reduceCtorEq, Nat.reduceAdd, Nat.reduceSub, Nat.reduceMul, Int.reduceToNat, Nat.reduceLeDiff, Q3])
      | ((first | with_reducible intro b | refine xi rfl (by simp only [List.length_cons, List.length_nil]; omega) ?_ | fail); try simp only [push_cast, Int.cast_ofNat_Int, reduceIte, Nat.reduceEqDiff, reduceCtorEq, Nat.reduceAdd, Nat.reduceSub, Nat.reduceMul, Int.reduceToNat, Nat.reduceLeDiff])
      | fail
  all_goals simp_all [accessP]

def fitsP (o : OpV) : Bool :=
  decide (0 ≤ o.loc) && decide (o.loc < 3) &&
  (if o.kind = 0 then decide (o.v = 0) && decide (o.w = 0) else if o.kind = 1 then digitP o.v && decide (o.w = 0) else if o.kind = 2 then decide (-9 ≤ o.v) && decide (o.v ≤ 9) && decide (o.w = 0)
    else if o.kind = 3 ∨ o.kind = 4 then digitP o.v && digitP o.w else if o.kind = 5 then decide (o.loc = 0) && decide (o.v = 0) && decide (o.w = 0) else false)
theorem litmus_fits_q (o : OpV) : ConQ Try.prog 81 #[vop o] M (vb (fitsP o)) := by
  refine Con.enter Q5_ok (args := [vop o]) (by simp [Q5]) fun w0 => ?_
  simp only [Q5, argE]
  repeat' first
      | refine EV.seq ?_
      | refine EV.skip ?_
      | refine EV.block ?_
      | refine EV.inBlock ?_
      | (refine EV.reg ?_; (conv => (arg 2; whnf)); simp only [push_cast, Int.cast_ofNat_Int, reduceIte, Nat.reduceEqDiff, reduceCtorEq, Nat.reduceAdd, Nat.reduceSub, Nat.reduceMul, Int.reduceToNat, Nat.reduceLeDiff])
      | (refine ConQ.call (litmus_digit_q _) ?_; try simp only [push_cast, Int.cast_ofNat_Int, reduceIte, Nat.reduceEqDiff, reduceCtorEq, Nat.reduceAdd, Nat.reduceSub, Nat.reduceMul, Int.reduceToNat, Nat.reduceLeDiff])
      | assumption
      | (refine condW.merge ?_ (fun hc K' hK => ?_) ?_; rotate_left)
      | ((refine EV.cond rfl (fun h => ?_) (fun h => ?_) <;> try simp only [reduceCtorEq, reduceIte, if_true, if_false, Bool.not_eq_true', Bool.not_eq_false', decide_eq_true_eq, decide_eq_false_iff_not, Bool.and_eq_true, Bool.or_eq_true, Bool.and_eq_false_iff, Bool.or_eq_false_iff] at h) <;> try (exfalso; first | exact h True.intro | (exact h; done) | omega | (simp only [not_true_eq_false, false_or, or_false] at h; omega)))
      | (refine EV.ret Q5_ok ?_; simp only [push_cast, Int.cast_ofNat_Int, reduceIte, Nat.reduceEqDiff, reduceCtorEq, Nat.reduceAdd, Nat.reduceSub, Nat.reduceMul, Int.reduceToNat, Nat.reduceLeDiff, Q5])
      | ((first | with_reducible intro b | refine xi rfl (by simp only [List.length_cons, List.length_nil]; omega) ?_ | fail); try simp only [push_cast, Int.cast_ofNat_Int, reduceIte, Nat.reduceEqDiff, reduceCtorEq, Nat.reduceAdd, Nat.reduceSub, Nat.reduceMul, Int.reduceToNat, Nat.reduceLeDiff])
      | fail
  all_goals (simp [fitsP]; grind)

end
end Go.EV

namespace Go.EV
open Go.Proofs

theorem Sl.ints {H : PHeap} {b off : Nat} {xs : List Int} (h : rd H b off xs.length (xs.map vi)) : ∀ i (hi : i < xs.length), rd H b (off + i) 1 [vi xs[i]] := by
  intro i hi
  have := h.part (i := i) (m := 1) (by omega)
  rwa [show ((xs.map vi).drop i).take 1 = [vi xs[i]] from by
    rw [List.drop_eq_getElem_cons (by simpa using hi)]; simp] at this

section
variable {M : PHeap}

def mx (xs : List Int) (i : Nat) : Int := (xs.take i).foldl (fun a b => if b > a then b else a) (xs.headD 0)

theorem mx_step {xs : List Int} {i : Nat} (hi : i < xs.length) : mx xs (i + 1) = if xs[i] > mx xs i then xs[i] else mx xs i := by
  simp only [mx, List.take_succ_eq_append_getElem hi, List.foldl_append, List.foldl_cons, List.foldl_nil]
  rfl

theorem slices_Max_q (H : PHeap) (b off c : Nat) (xs : List Int) (h0 : 0 < xs.length) (hl : xs.length < 1000000) (h : rd H b off xs.length (xs.map vi)) : ConQ Try.prog 88 #[.slice (some ⟨b, off, none⟩) xs.length c] H (vi (mx xs xs.length)) := by
  have hr := Sl.ints h
  have hr0 : rd H b off 1 [vi xs[0]] := hr 0 h0
  have hx0 : xs[0] = mx xs 1 := by cases xs with | nil => simp at h0 | cons x xs => simp [mx]
  refine Con.enter Q63_ok (args := [.slice (some ⟨b, off, none⟩) xs.length c]) (by simp [Q63]) fun w0 => ?_
  simp only [Q63, argE]
  repeat' first
      | refine EV.seq ?_
      | refine EV.skip ?_
      | refine EV.block ?_
      | (refine EV.reg ?_; (conv => (arg 2; whnf)); simp only [push_cast, Int.cast_ofNat_Int, reduceIte, Nat.reduceEqDiff, reduceCtorEq, Nat.reduceAdd, Nat.reduceSub, Nat.reduceMul, Int.reduceToNat, Nat.reduceLeDiff])
      | ((refine EV.cond rfl (fun h => ?_) (fun h => ?_) <;> try simp only [reduceCtorEq, reduceIte, if_true, if_false, Bool.not_eq_true', Bool.not_eq_false', decide_eq_true_eq, decide_eq_false_iff_not, Bool.and_eq_true, Bool.or_eq_true, Bool.and_eq_false_iff, Bool.or_eq_false_iff] at h) <;> try (exfalso; first | exact h True.intro | (exact h; done) | omega | (simp only [not_true_eq_false, false_or, or_false] at h; omega)))
      | (refine And.intro (by omega) ?_)
      | (refine Exists.intro _ (And.intro (rd_M (by assumption)) ?_); try simp only [push_cast, Int.cast_ofNat_Int, reduceIte, Nat.reduceEqDiff, reduceCtorEq, Nat.reduceAdd, Nat.reduceSub, Nat.reduceMul, Int.reduceToNat, Nat.reduceLeDiff])
      | fail
  · refine EV.to (ρ' := [(0, .slice (some ⟨b, off, none⟩) xs.length c), (3, vi (mx xs 1)), (4, vi (1 : Nat))]) ?_ (by simp [get, hx0]) (List.Sublist.refl _)
    refine EV.loop (fun i : Nat => ([(0, .slice (some ⟨b, off, none⟩) xs.length c), (3, vi (mx xs i)), (4, vi i)], H, [])) (fun i => 1 ≤ i ∧ i ≤ xs.length) (fun i => xs.length - i) 1 ⟨by omega, by omega⟩ ?_
    intro i ⟨hi1, hi2⟩ ih
    dsimp only at ih ⊢
    repeat' first
        | refine EV.seq ?_
        | refine EV.skip ?_
        | refine EV.block ?_
        | (refine EV.reg ?_; (conv => (arg 2; whnf)); simp only [push_cast, Int.cast_ofNat_Int, reduceIte, Nat.reduceEqDiff, reduceCtorEq, Nat.reduceAdd, Nat.reduceSub, Nat.reduceMul, Int.reduceToNat, Nat.reduceLeDiff])
        | ((refine EV.cond rfl (fun h => ?_) (fun h => ?_) <;> try simp only [reduceCtorEq, reduceIte, if_true, if_false, Bool.not_eq_true', Bool.not_eq_false', decide_eq_true_eq, decide_eq_false_iff_not, Bool.and_eq_true, Bool.or_eq_true, Bool.and_eq_false_iff, Bool.or_eq_false_iff] at h) <;> try (exfalso; first | exact h True.intro | (exact h; done) | omega | (simp only [not_true_eq_false, false_or, or_false] at h; omega)))
        | (refine EV.exit rfl ?_)
        | (refine EV.ret Q63_ok ?_; simp only [push_cast, Int.cast_ofNat_Int, reduceIte, Nat.reduceEqDiff, reduceCtorEq, Nat.reduceAdd, Nat.reduceSub, Nat.reduceMul, Int.reduceToNat, Nat.reduceLeDiff, Q63])
        | (refine And.intro (by omega) ?_)
        | fail
    · have hi : i < xs.length := by omega
      refine ⟨_, rd_M (hr i hi), ?_⟩
      repeat' first
          | refine EV.inBlock ?_
          | (refine EV.reg ?_; (conv => (arg 2; whnf)); simp only [push_cast, Int.cast_ofNat_Int, reduceIte, Nat.reduceEqDiff, reduceCtorEq, Nat.reduceAdd, Nat.reduceSub, Nat.reduceMul, Int.reduceToNat, Nat.reduceLeDiff])
          | fail
      refine EV.to (ih (i + 1) ⟨by omega, by omega⟩ (by omega)) ?_ (List.Sublist.refl _)
      repeat' first
        | (refine List.forall_mem_cons.2 (And.intro ?_ ?_))
        | (intro _ hnil; cases hnil; done)
        | rfl
        | (refine env_w64 rfl (by first | rfl | (push_cast; first | rfl | omega)) (by omega) (by omega); done)
        | (simp (disch := omega) only [get_cons, get_nil, reduceIte, Nat.reduceEqDiff, Option.some.injEq, Value.int.injEq, w64, Int.natCast_add, Int.natCast_one, Int.cast_ofNat_Int, Int.natCast_zero, mx_step hi]; done)
        | fail
    · rw [show i = xs.length from by omega]


/-- What limits counts. -/
structure LimS where
  acc : Int
  fen : Int
  w0 : Int
  w1 : Int
  w2 : Int

def limStep (s : LimS) (o : OpV) : LimS :=
  if o.kind = 5 then { s with fen := s.fen + 1 }
  else if accessP o = true then
    { acc := s.acc + 1, fen := if o.ord = 4 then s.fen + 2 else s.fen,
      w0 := if o.kind ≠ 0 ∧ o.loc = 0 then s.w0 + 1 else s.w0, w1 := if o.kind ≠ 0 ∧ o.loc = 1 then s.w1 + 1 else s.w1, w2 := if o.kind ≠ 0 ∧ o.loc = 2 then s.w2 + 1 else s.w2 }
  else s

def limOf (l : List OpV) : LimS := l.foldl limStep ⟨0, 0, 0, 0, 0⟩

def limitsP (ts : List (List OpV)) : Bool :=
  decide (ts.length ≤ 3) && decide ((limOf ts.flatten).acc ≤ 6) && decide ((limOf ts.flatten).fen ≤ 8) && decide ((limOf ts.flatten).w0 ≤ 4) && decide ((limOf ts.flatten).w1 ≤ 4) && decide ((limOf ts.flatten).w2 ≤ 4)

theorem lim_bound (l : List OpV) : 0 ≤ (limOf l).acc ∧ (limOf l).acc ≤ l.length ∧ 0 ≤ (limOf l).fen ∧ (limOf l).fen ≤ 2 * l.length ∧ 0 ≤ (limOf l).w0 ∧ (limOf l).w0 ≤ l.length ∧ 0 ≤ (limOf l).w1 ∧ (limOf l).w1 ≤ l.length ∧ 0 ≤ (limOf l).w2 ∧ (limOf l).w2 ≤ l.length := by
  have key : ∀ (l : List OpV) (s : LimS), s.acc ≤ (l.foldl limStep s).acc ∧ (l.foldl limStep s).acc ≤ s.acc + l.length ∧ s.fen ≤ (l.foldl limStep s).fen ∧ (l.foldl limStep s).fen ≤ s.fen + 2 * l.length ∧ s.w0 ≤ (l.foldl limStep s).w0 ∧ (l.foldl limStep s).w0 ≤ s.w0 + l.length ∧ s.w1 ≤ (l.foldl limStep s).w1 ∧ (l.foldl limStep s).w1 ≤ s.w1 + l.length ∧ s.w2 ≤ (l.foldl limStep s).w2 ∧ (l.foldl limStep s).w2 ≤ s.w2 + l.length := by
    intro l
    induction l with
    | nil => intro s; simp
    | cons o l ih =>
      intro s
      have := ih (limStep s o)
      simp only [List.foldl_cons, List.length_cons]
      have h2 : s.acc ≤ (limStep s o).acc ∧ (limStep s o).acc ≤ s.acc + 1 ∧ s.fen ≤ (limStep s o).fen ∧ (limStep s o).fen ≤ s.fen + 2 ∧ s.w0 ≤ (limStep s o).w0 ∧ (limStep s o).w0 ≤ s.w0 + 1 ∧ s.w1 ≤ (limStep s o).w1 ∧ (limStep s o).w1 ≤ s.w1 + 1 ∧ s.w2 ≤ (limStep s o).w2 ∧ (limStep s o).w2 ≤ s.w2 + 1 := by
        unfold limStep
        split
        · simp; omega
        · split
          · simp only []
            refine ⟨?_, ?_, ?_, ?_, ?_, ?_, ?_, ?_, ?_, ?_⟩ <;> (repeat' split) <;> omega
          · simp; omega
      omega
  have := key l ⟨0, 0, 0, 0, 0⟩
  dsimp only at this
  unfold limOf
  omega

theorem flat_take {α : Type} {ts : List (List α)} {i : Nat} (hi : i < ts.length) : (ts.take (i + 1)).flatten = (ts.take i).flatten ++ ts[i] := by
  rw [List.take_succ_eq_append_getElem hi, List.flatten_append]; simp

theorem flat_take_le {α : Type} (ts : List (List α)) (i : Nat) : (ts.take i).flatten.length ≤ ts.flatten.length := by
  have : ts.flatten = (ts.take i).flatten ++ (ts.drop i).flatten := by rw [← List.flatten_append, List.take_append_drop]
  rw [this]; simp

set_option maxHeartbeats 4000000 in
theorem litmus_limits_q (ts : List (List OpV)) (s : Value) (hs : SlSl M 5 encOp s ts) (hb : ts.flatten.length < 1000000) (hb' : ts.length < 1000000) : ConQ Try.prog 79 #[.agg #[s]] M (vb (limitsP ts)) := by
  obtain ⟨a, c, vs, rfl, hl, hrd, hk⟩ := hs
  refine Con.enter Q6_ok (args := [.agg #[.slice a ts.length c]]) (by simp [Q6]) fun w0 => ?_
  simp only [Q6, argE]
  repeat' first
      | refine EV.seq ?_
      | refine EV.skip ?_
      | refine EV.block ?_
      | (refine EV.reg ?_; (conv => (arg 2; whnf)); simp only [push_cast, Int.cast_ofNat_Int, reduceIte, Nat.reduceEqDiff, reduceCtorEq, Nat.reduceAdd, Nat.reduceSub, Nat.reduceMul, Int.reduceToNat, Nat.reduceLeDiff])
      | ((refine EV.cond rfl (fun h => ?_) (fun h => ?_) <;> try simp only [reduceCtorEq, reduceIte, if_true, if_false, Bool.not_eq_true', Bool.not_eq_false', decide_eq_true_eq, decide_eq_false_iff_not, Bool.and_eq_true, Bool.or_eq_true, Bool.and_eq_false_iff, Bool.or_eq_false_iff] at h) <;> try (exfalso; first | exact h True.intro | (exact h; done) | omega | (simp only [not_true_eq_false, false_or, or_false] at h; omega)))
      | (refine EV.ret Q6_ok ?_; simp only [push_cast, Int.cast_ofNat_Int, reduceIte, Nat.reduceEqDiff, reduceCtorEq, Nat.reduceAdd, Nat.reduceSub, Nat.reduceMul, Int.reduceToNat, Nat.reduceLeDiff, Q6])
      | ((first | with_reducible intro b | refine xs rfl (by simp only [List.length_cons, List.length_nil]; omega) ?_ | fail); try simp only [push_cast, Int.cast_ofNat_Int, reduceIte, Nat.reduceEqDiff, reduceCtorEq, Nat.reduceAdd, Nat.reduceSub, Nat.reduceMul, Int.reduceToNat, Nat.reduceLeDiff])
      | fail
  · simp [limitsP]; omega
  rename_i b1
  have hlen3 : ts.length ≤ 3 := by omega
  refine EV.to (ρ' := [(3, vi (limOf (ts.take 0).flatten).acc), (4, vi (limOf (ts.take 0).flatten).fen), (5, pv b 0), (15, .slice a ts.length c), (16, vi ts.length), (17, vi (0 : Nat))])
    (G' := [(b, Cl 58 [vi (limOf (ts.take 0).flatten).w0, vi (limOf (ts.take 0).flatten).w1, vi (limOf (ts.take 0).flatten).w2])]) ?_ (by simp [get, limOf]) (by simp [limOf])
  refine EV.loop (fun i : Nat => ([(3, vi (limOf (ts.take i).flatten).acc), (4, vi (limOf (ts.take i).flatten).fen), (5, pv b 0), (15, .slice a ts.length c), (16, vi ts.length), (17, vi i)], M,
    [(b, Cl 58 [vi (limOf (ts.take i).flatten).w0, vi (limOf (ts.take i).flatten).w1, vi (limOf (ts.take i).flatten).w2])])) (fun i => i ≤ ts.length) (fun i => ts.length - i) 0 (Nat.zero_le _) ?_
  intro i hi ih
  dsimp only at ih ⊢
  repeat' first
      | refine EV.seq ?_
      | refine EV.skip ?_
      | refine EV.block ?_
      | (refine EV.reg ?_; (conv => (arg 2; whnf)); simp only [push_cast, Int.cast_ofNat_Int, reduceIte, Nat.reduceEqDiff, reduceCtorEq, Nat.reduceAdd, Nat.reduceSub, Nat.reduceMul, Int.reduceToNat, Nat.reduceLeDiff])
      | (refine ConQ.call (slices_Max_q _ _ 0 3 [_, _, _] (by simp) (by simp) (rd_own' 0 rfl rfl (by simp))) ?_; try simp only [push_cast, Int.cast_ofNat_Int, reduceIte, Nat.reduceEqDiff, reduceCtorEq, Nat.reduceAdd, Nat.reduceSub, Nat.reduceMul, Int.reduceToNat, Nat.reduceLeDiff])
      | assumption
      | (refine condW.merge ?_ (fun hc K' hK => ?_) ?_; rotate_left)
      | ((refine EV.cond rfl (fun h => ?_) (fun h => ?_) <;> try simp only [reduceCtorEq, reduceIte, if_true, if_false, Bool.not_eq_true', Bool.not_eq_false', decide_eq_true_eq, decide_eq_false_iff_not, Bool.and_eq_true, Bool.or_eq_true, Bool.and_eq_false_iff, Bool.or_eq_false_iff] at h) <;> try (exfalso; first | exact h True.intro | (exact h; done) | omega | (simp only [not_true_eq_false, false_or, or_false] at h; omega)))
      | (refine EV.exit rfl ?_)
      | (refine EV.ret Q6_ok ?_; simp only [push_cast, Int.cast_ofNat_Int, reduceIte, Nat.reduceEqDiff, reduceCtorEq, Nat.reduceAdd, Nat.reduceSub, Nat.reduceMul, Int.reduceToNat, Nat.reduceLeDiff, Q6])
      | fail
  · have hi' : i < ts.length := by omega
    obtain ⟨pb, po, rfl, hat⟩ := SlSl.at hrd hl hk (by omega)
    obtain ⟨a', c', hr1, hr2⟩ := hat i hi'
    simp only [Nat.mul_one] at hr1
    repeat' first
        | refine EV.seq ?_
        | refine EV.block ?_
        | (refine EV.reg ?_; (conv => (arg 2; whnf)); simp only [push_cast, Int.cast_ofNat_Int, reduceIte, Nat.reduceEqDiff, reduceCtorEq, Nat.reduceAdd, Nat.reduceSub, Nat.reduceMul, Int.reduceToNat, Nat.reduceLeDiff])
        | (refine And.intro (by omega) ?_)
        | (refine Exists.intro _ (Exists.intro _ (Exists.intro _ (And.intro (rd_M (by assumption)) ?_))); try simp only [push_cast, Int.cast_ofNat_Int, reduceIte, Nat.reduceEqDiff, reduceCtorEq, Nat.reduceAdd, Nat.reduceSub, Nat.reduceMul, Int.reduceToNat, Nat.reduceLeDiff])
        | fail
    have hlen : ((ts.take i).flatten ++ ts[i]).length ≤ ts.flatten.length := by rw [← flat_take hi']; exact flat_take_le ts (i + 1)
    simp only [List.length_append] at hlen
    let W : Nat → LimS := fun j => limOf ((ts.take i).flatten ++ ts[i].take j)
    refine EV.to (ρ' := [(3, vi (W 0).acc), (4, vi (W 0).fen), (5, pv b 0), (15, .slice (some ⟨pb, po, none⟩) ts.length c), (16, vi ts.length), (17, vi i), (21, .slice a' ts[i].length c'), (22, vi ts[i].length), (23, vi (0 : Nat))])
      (G' := [(b, Cl 58 [vi (W 0).w0, vi (W 0).w1, vi (W 0).w2])]) ?_ (by simp [get, W]) (by simp [W])
    refine EV.loop (fun j : Nat => ([(3, vi (W j).acc), (4, vi (W j).fen), (5, pv b 0), (15, .slice (some ⟨pb, po, none⟩) ts.length c), (16, vi ts.length), (17, vi i), (21, .slice a' ts[i].length c'), (22, vi ts[i].length), (23, vi j)], M,
      [(b, Cl 58 [vi (W j).w0, vi (W j).w1, vi (W j).w2])])) (fun j => j ≤ ts[i].length) (fun j => ts[i].length - j) 0 (Nat.zero_le _) ?_
    intro j hj ih2
    dsimp only at ih2 ⊢
    repeat' first
        | refine EV.seq ?_
        | refine EV.skip ?_
        | refine EV.block ?_
        | refine EV.inBlock ?_
        | (refine EV.reg ?_; (conv => (arg 2; whnf)); simp only [push_cast, Int.cast_ofNat_Int, reduceIte, Nat.reduceEqDiff, reduceCtorEq, Nat.reduceAdd, Nat.reduceSub, Nat.reduceMul, Int.reduceToNat, Nat.reduceLeDiff])
        | ((refine EV.cond rfl (fun h => ?_) (fun h => ?_) <;> try simp only [reduceCtorEq, reduceIte, if_true, if_false, Bool.not_eq_true', Bool.not_eq_false', decide_eq_true_eq, decide_eq_false_iff_not, Bool.and_eq_true, Bool.or_eq_true, Bool.and_eq_false_iff, Bool.or_eq_false_iff] at h) <;> try (exfalso; first | exact h True.intro | (exact h; done) | omega | (simp only [not_true_eq_false, false_or, or_false] at h; omega)))
        | (refine EV.exit rfl ?_)
        | fail
    · have hj' : j < ts[i].length := by omega
      obtain ⟨qb, qo, rfl, hat2⟩ := Sl.at (enc := encOp) (fun _ => rfl) (by omega) hr2 (by omega)
      have hr3 := hat2 j hj'
      have hW : W (j + 1) = limStep (W j) ts[i][j] := by
        simp only [W, limOf, List.take_succ_eq_append_getElem hj', ← List.append_assoc, List.foldl_append, List.foldl_cons, List.foldl_nil]
      have hWb := lim_bound ((ts.take i).flatten ++ ts[i].take j)
      have hWl : ((ts.take i).flatten ++ ts[i].take j).length < 1000000 := by rw [List.length_append, List.length_take]; omega
      have fin : ∀ ρ G', (∀ p ∈ [(3, vi (W (j + 1)).acc), (4, vi (W (j + 1)).fen), (5, pv b 0), (15, .slice (some ⟨pb, po, none⟩) ts.length c), (16, vi ts.length), (17, vi i), (21, .slice (some ⟨qb, qo, none⟩) ts[i].length c'), (22, vi ts[i].length), (23, vi (j + 1 : Nat))], get ρ p.1 = some p.2) →
          [(b, Cl 58 [vi (W (j + 1)).w0, vi (W (j + 1)).w1, vi (W (j + 1)).w2])].Sublist G' → _ := fun ρ G' h1 h2 => EV.to (ρ := ρ) (G := G') (ih2 (j + 1) (by omega) (by omega)) h1 h2
      rw [hW] at fin
      have hWe : W j = limOf ((ts.take i).flatten ++ ts[i].take j) := rfl
      rw [← hWe] at hWb
      clear_value W
      have e1 : IntKind.i64.wrap ((W j).acc + 1) = (W j).acc + 1 := w64 (by omega) (by omega)
      have e2 : IntKind.i64.wrap ((W j).fen + 1) = (W j).fen + 1 := w64 (by omega) (by omega)
      have e3 : IntKind.i64.wrap ((W j).fen + 2) = (W j).fen + 2 := w64 (by omega) (by omega)
      have e4 : IntKind.i64.wrap ((W j).w0 + 1) = (W j).w0 + 1 := w64 (by omega) (by omega)
      have e5 : IntKind.i64.wrap ((W j).w1 + 1) = (W j).w1 + 1 := w64 (by omega) (by omega)
      have e6 : IntKind.i64.wrap ((W j).w2 + 1) = (W j).w2 + 1 := w64 (by omega) (by omega)
      have e7 : IntKind.i64.wrap ((j : Int) + 1) = ((j + 1 : Nat) : Int) := w64 (by omega) (by omega)
      clear ih ih2 hat hat2 hrd hk hr1 hr2 hWb hWl hWe hlen hW hb hb' hl
      generalize W j = s at *
      generalize ts[i][j] = o at *
      clear W
      repeat' first
          | refine EV.seq ?_
          | refine EV.skip ?_
          | refine EV.block ?_
          | refine EV.inBlock ?_
          | (refine EV.reg ?_; (conv => (arg 2; whnf)); simp only [push_cast, Int.cast_ofNat_Int, reduceIte, Nat.reduceEqDiff, reduceCtorEq, Nat.reduceAdd, Nat.reduceSub, Nat.reduceMul, Int.reduceToNat, Nat.reduceLeDiff])
          | (refine ConQ.call (litmus_access_q _) ?_; try simp only [push_cast, Int.cast_ofNat_Int, reduceIte, Nat.reduceEqDiff, reduceCtorEq, Nat.reduceAdd, Nat.reduceSub, Nat.reduceMul, Int.reduceToNat, Nat.reduceLeDiff])
          | assumption
          | (refine condW.merge ?_ (fun hc K' hK => ?_) ?_; rotate_left)
          | ((refine EV.cond rfl (fun h => ?_) (fun h => ?_) <;> try simp only [reduceCtorEq, reduceIte, if_true, if_false, Bool.not_eq_true', Bool.not_eq_false', decide_eq_true_eq, decide_eq_false_iff_not, Bool.and_eq_true, Bool.or_eq_true, Bool.and_eq_false_iff, Bool.or_eq_false_iff] at h) <;> try (exfalso; first | exact h True.intro | (exact h; done) | omega | (simp only [not_true_eq_false, false_or, or_false] at h; omega)))
          | (with_reducible intro b; try simp only [push_cast, Int.cast_ofNat_Int, reduceIte, Nat.reduceEqDiff, reduceCtorEq, Nat.reduceAdd, Nat.reduceSub, Nat.reduceMul, Int.reduceToNat, Nat.reduceLeDiff])
          | (refine And.intro (by omega) ?_)
          | ((first | refine Exists.intro _ (And.intro (rd_M (by assumption)) ?_) | refine xr rfl (by simp only [List.length_cons, List.length_nil]; omega) ?_ | refine xi rfl (by simp only [List.length_cons, List.length_nil]; omega) ?_ | fail); try simp only [push_cast, Int.cast_ofNat_Int, reduceIte, Nat.reduceEqDiff, reduceCtorEq, Nat.reduceAdd, Nat.reduceSub, Nat.reduceMul, Int.reduceToNat, Nat.reduceLeDiff])
          | (refine xw ?_; simp only [push_cast, Int.cast_ofNat_Int, reduceIte, Nat.reduceEqDiff, reduceCtorEq, Nat.reduceAdd, Nat.reduceSub, Nat.reduceMul, Int.reduceToNat, Nat.reduceLeDiff])
          | fail
      all_goals try refine fin _ _ ?_ ?_
      all_goals first
        | (simp [get, limStep, *]; done)
        | (simp [get, limStep, *]; grind)
        | skip
      all_goals
        have hloc : o.loc = 0 ∨ o.loc = 1 ∨ o.loc = 2 := by omega
        have hk0 : ¬ o.kind = 0 := by omega
        rcases hloc with hloc | hloc | hloc <;> rw [hloc] <;> simp only [Int.reduceToNat, Int.toNat_zero, Int.reduceLE, Int.reduceLT, true_and]
      all_goals repeat' first
          | refine EV.inBlock ?_
          | (refine EV.reg ?_; (conv => (arg 2; whnf)); simp only [push_cast, Int.cast_ofNat_Int, reduceIte, Nat.reduceEqDiff, reduceCtorEq, Nat.reduceAdd, Nat.reduceSub, Nat.reduceMul, Int.reduceToNat, Nat.reduceLeDiff])
          | (refine xi rfl (by simp only [List.length_cons, List.length_nil]; omega) ?_; try simp only [push_cast, Int.cast_ofNat_Int, reduceIte, Nat.reduceEqDiff, reduceCtorEq, Nat.reduceAdd, Nat.reduceSub, Nat.reduceMul, Int.reduceToNat, Nat.reduceLeDiff])
          | (refine xw ?_; simp only [push_cast, Int.cast_ofNat_Int, reduceIte, Nat.reduceEqDiff, reduceCtorEq, Nat.reduceAdd, Nat.reduceSub, Nat.reduceMul, Int.reduceToNat, Nat.reduceLeDiff])
          | fail
      all_goals try refine fin _ _ ?_ ?_
      all_goals first
        | (simp [get, limStep, *]; done)
        | (simp [get, limStep, *]; grind)
        | skip
    · have hj' : j = ts[i].length := by omega
      subst hj'
      have hf : (ts.take i).flatten ++ ts[i].take ts[i].length = (ts.take (i + 1)).flatten := by rw [flat_take hi', List.take_length]
      refine EV.to (ih (i + 1) (by omega) (by omega)) ?_ ?_
      · clear ih ih2
        rw [← hf]
        simp [get, W]
        exact w64 (by omega) (by omega)
      · rw [← hf]
        exact List.Sublist.refl _
  · have hi3 : i = ts.length := by omega
    subst hi3
    rw [List.take_length]
    simp only [limitsP, mx, List.take_succ_cons, List.take_zero, List.foldl_cons, List.foldl_nil, List.headD_cons]
    congr 1
    have h3 : decide (ts.length ≤ 3) = true := by simpa using hlen3
    rw [h3]
    grind

end
end Go.EV

namespace Go.EV
open Go.Proofs
section
variable {M : PHeap}

def okOp (o : OpV) : Bool := mayR o.kind o.ord && mayP o.kind o.ord && fitsP o
def checkP (ts : List (List OpV)) : Int := if limitsP ts = false then 2 else if ts.length = 0 then 1 else if ts.flatten.all okOp = true then 0 else 1

theorem okOp_iff (o : OpV) : okOp o = true ↔ mayR o.kind o.ord = true ∧ mayP o.kind o.ord = true ∧ fitsP o = true := by
  simp [okOp, and_assoc]

set_option maxHeartbeats 4000000 in
theorem litmus_Check_q (ts : List (List OpV)) (s : Value) (hs : SlSl M 5 encOp s ts) (hb : ts.flatten.length < 1000000) (hb' : ts.length < 1000000) : ConQ Try.prog 59 #[.agg #[s]] M (vi (checkP ts)) := by
  have hlim := fun G => litmus_limits_q (M := M.add G) ts s (hs.mono (PHeap.le_add _ _)) hb hb'
  obtain ⟨a, c, vs, rfl, hl, hrd, hk⟩ := hs
  refine Con.enter Q0_ok (args := [.agg #[.slice a ts.length c]]) (by simp [Q0]) fun w0 => ?_
  simp only [Q0, argE]
  repeat' first
      | refine EV.seq ?_
      | refine EV.skip ?_
      | refine EV.block ?_
      | (refine EV.reg ?_; (conv => (arg 2; whnf)); simp only [push_cast, Int.cast_ofNat_Int, reduceIte, Nat.reduceEqDiff, reduceCtorEq, Nat.reduceAdd, Nat.reduceSub, Nat.reduceMul, Int.reduceToNat, Nat.reduceLeDiff])
      | (refine ConQ.call (hlim _) ?_; try simp only [push_cast, Int.cast_ofNat_Int, reduceIte, Nat.reduceEqDiff, reduceCtorEq, Nat.reduceAdd, Nat.reduceSub, Nat.reduceMul, Int.reduceToNat, Nat.reduceLeDiff])
      | ((refine EV.cond rfl (fun h => ?_) (fun h => ?_) <;> try simp only [reduceCtorEq, reduceIte, if_true, if_false, Bool.not_eq_true', Bool.not_eq_false', decide_eq_true_eq, decide_eq_false_iff_not, Bool.and_eq_true, Bool.or_eq_true, Bool.and_eq_false_iff, Bool.or_eq_false_iff] at h) <;> try (exfalso; first | exact h True.intro | (exact h; done) | omega | (simp only [not_true_eq_false, false_or, or_false] at h; omega)))
      | (refine EV.ret Q0_ok ?_; simp only [push_cast, Int.cast_ofNat_Int, reduceIte, Nat.reduceEqDiff, reduceCtorEq, Nat.reduceAdd, Nat.reduceSub, Nat.reduceMul, Int.reduceToNat, Nat.reduceLeDiff, Q0])
      | ((first | with_reducible intro b | refine xr rfl (by simp only [List.length_cons, List.length_nil]; omega) ?_ | refine xs rfl (by simp only [List.length_cons, List.length_nil]; omega) ?_ | fail); try simp only [push_cast, Int.cast_ofNat_Int, reduceIte, Nat.reduceEqDiff, reduceCtorEq, Nat.reduceAdd, Nat.reduceSub, Nat.reduceMul, Int.reduceToNat, Nat.reduceLeDiff])
      | fail
  · simp [checkP, h]
  · rename_i h1
    have : ts.length = 0 := by omega
    simp [checkP, this, h1]
  rename_i h1
  refine EV.to (ρ' := [(17, .slice a ts.length c), (18, vi ts.length), (19, vi (0 : Nat))]) (G' := []) ?_ (by simp (disch := omega) only [List.forall_mem_cons, List.not_mem_nil, false_implies, implies_true, and_true, true_and, get_cons, get_nil, reduceIte, Nat.reduceEqDiff, Option.some.injEq, Value.int.injEq, w64, Int.natCast_add, Int.natCast_one, Int.cast_ofNat_Int, Int.natCast_zero]) (by simp)
  refine EV.loop (fun i : Nat => ([(17, .slice a ts.length c), (18, vi ts.length), (19, vi i)], M, [])) (fun i => i ≤ ts.length ∧ (ts.take i).flatten.all okOp = true) (fun i => ts.length - i) 0 (by simp) ?_
  intro i ⟨hi, hok⟩ ih
  dsimp only at ih ⊢
  repeat' first
      | refine EV.seq ?_
      | refine EV.skip ?_
      | refine EV.block ?_
      | (refine EV.reg ?_; (conv => (arg 2; whnf)); simp only [push_cast, Int.cast_ofNat_Int, reduceIte, Nat.reduceEqDiff, reduceCtorEq, Nat.reduceAdd, Nat.reduceSub, Nat.reduceMul, Int.reduceToNat, Nat.reduceLeDiff])
      | ((refine EV.cond rfl (fun h => ?_) (fun h => ?_) <;> try simp only [reduceCtorEq, reduceIte, if_true, if_false, Bool.not_eq_true', Bool.not_eq_false', decide_eq_true_eq, decide_eq_false_iff_not, Bool.and_eq_true, Bool.or_eq_true, Bool.and_eq_false_iff, Bool.or_eq_false_iff] at h) <;> try (exfalso; first | exact h True.intro | (exact h; done) | omega | (simp only [not_true_eq_false, false_or, or_false] at h; omega)))
      | (refine EV.exit rfl ?_)
      | (refine EV.ret Q0_ok ?_; simp only [push_cast, Int.cast_ofNat_Int, reduceIte, Nat.reduceEqDiff, reduceCtorEq, Nat.reduceAdd, Nat.reduceSub, Nat.reduceMul, Int.reduceToNat, Nat.reduceLeDiff, Q0])
      | fail
  · have hi' : i < ts.length := by omega
    obtain ⟨pb, po, rfl, hat⟩ := SlSl.at hrd hl hk (by omega)
    obtain ⟨a', c', hr1, hr2⟩ := hat i hi'
    simp only [Nat.mul_one] at hr1
    have hlen : ts[i].length ≤ ts.flatten.length := by have := flat_take hi'; have h2 := flat_take_le ts (i + 1); rw [this, List.length_append] at h2; omega
    have hmem : ∀ o ∈ ts[i], o ∈ ts.flatten := fun o ho => List.mem_flatten.2 ⟨ts[i], List.getElem_mem hi', ho⟩
    repeat' first
        | refine EV.seq ?_
        | refine EV.block ?_
        | (refine EV.reg ?_; (conv => (arg 2; whnf)); simp only [push_cast, Int.cast_ofNat_Int, reduceIte, Nat.reduceEqDiff, reduceCtorEq, Nat.reduceAdd, Nat.reduceSub, Nat.reduceMul, Int.reduceToNat, Nat.reduceLeDiff])
        | (refine And.intro (by omega) ?_)
        | (refine Exists.intro _ (Exists.intro _ (Exists.intro _ (And.intro (rd_M (by assumption)) ?_))); try simp only [push_cast, Int.cast_ofNat_Int, reduceIte, Nat.reduceEqDiff, reduceCtorEq, Nat.reduceAdd, Nat.reduceSub, Nat.reduceMul, Int.reduceToNat, Nat.reduceLeDiff])
        | fail
    refine EV.to (ρ' := [(17, .slice (some ⟨pb, po, none⟩) ts.length c), (18, vi ts.length), (19, vi i), (23, .slice a' ts[i].length c'), (24, vi ts[i].length), (25, vi (0 : Nat))]) (G' := []) ?_ (by simp (disch := omega) only [List.forall_mem_cons, List.not_mem_nil, false_implies, implies_true, and_true, true_and, get_cons, get_nil, reduceIte, Nat.reduceEqDiff, Option.some.injEq, Value.int.injEq, w64, Int.natCast_add, Int.natCast_one, Int.cast_ofNat_Int, Int.natCast_zero]) (by simp)
    refine EV.loop (fun j : Nat => ([(17, .slice (some ⟨pb, po, none⟩) ts.length c), (18, vi ts.length), (19, vi i), (23, .slice a' ts[i].length c'), (24, vi ts[i].length), (25, vi j)], M, [])) (fun j => j ≤ ts[i].length ∧ (ts[i].take j).all okOp = true) (fun j => ts[i].length - j) 0 (by simp) ?_
    intro j ⟨hj, hok2⟩ ih2
    dsimp only at ih2 ⊢
    repeat' first
        | refine EV.seq ?_
        | refine EV.skip ?_
        | refine EV.block ?_
        | refine EV.inBlock ?_
        | (refine EV.reg ?_; (conv => (arg 2; whnf)); simp only [push_cast, Int.cast_ofNat_Int, reduceIte, Nat.reduceEqDiff, reduceCtorEq, Nat.reduceAdd, Nat.reduceSub, Nat.reduceMul, Int.reduceToNat, Nat.reduceLeDiff])
        | ((refine EV.cond rfl (fun h => ?_) (fun h => ?_) <;> try simp only [reduceCtorEq, reduceIte, if_true, if_false, Bool.not_eq_true', Bool.not_eq_false', decide_eq_true_eq, decide_eq_false_iff_not, Bool.and_eq_true, Bool.or_eq_true, Bool.and_eq_false_iff, Bool.or_eq_false_iff] at h) <;> try (exfalso; first | exact h True.intro | (exact h; done) | omega | (simp only [not_true_eq_false, false_or, or_false] at h; omega)))
        | (refine EV.exit rfl ?_)
        | fail
    · have hj' : j < ts[i].length := by omega
      obtain ⟨qb, qo, rfl, hat2⟩ := Sl.at (enc := encOp) (fun _ => rfl) (by omega) hr2 (by omega)
      have hr3 := hat2 j hj'
      repeat' first
          | refine EV.seq ?_
          | refine EV.skip ?_
          | refine EV.inBlock ?_
          | (refine EV.reg ?_; (conv => (arg 2; whnf)); simp only [push_cast, Int.cast_ofNat_Int, reduceIte, Nat.reduceEqDiff, reduceCtorEq, Nat.reduceAdd, Nat.reduceSub, Nat.reduceMul, Int.reduceToNat, Nat.reduceLeDiff])
          | ((first | refine ConQ.call (litmus_fits_q _) ?_ | refine ConQ.call (order_May_q _ _) ?_ | fail); try simp only [push_cast, Int.cast_ofNat_Int, reduceIte, Nat.reduceEqDiff, reduceCtorEq, Nat.reduceAdd, Nat.reduceSub, Nat.reduceMul, Int.reduceToNat, Nat.reduceLeDiff])
          | assumption
          | (refine condW.merge ?_ (fun hc K' hK => ?_) ?_; rotate_left)
          | ((refine EV.cond rfl (fun h => ?_) (fun h => ?_) <;> try simp only [reduceCtorEq, reduceIte, if_true, if_false, Bool.not_eq_true', Bool.not_eq_false', decide_eq_true_eq, decide_eq_false_iff_not, Bool.and_eq_true, Bool.or_eq_true, Bool.and_eq_false_iff, Bool.or_eq_false_iff] at h) <;> try (exfalso; first | exact h True.intro | (exact h; done) | omega | (simp only [not_true_eq_false, false_or, or_false] at h; omega)))
          | (refine EV.ret Q0_ok ?_; simp only [push_cast, Int.cast_ofNat_Int, reduceIte, Nat.reduceEqDiff, reduceCtorEq, Nat.reduceAdd, Nat.reduceSub, Nat.reduceMul, Int.reduceToNat, Nat.reduceLeDiff, Q0])
          | (with_reducible intro b; try simp only [push_cast, Int.cast_ofNat_Int, reduceIte, Nat.reduceEqDiff, reduceCtorEq, Nat.reduceAdd, Nat.reduceSub, Nat.reduceMul, Int.reduceToNat, Nat.reduceLeDiff])
          | (refine And.intro (by omega) ?_)
          | ((first | refine Exists.intro _ (And.intro (rd_M (by assumption)) ?_) | refine xr rfl (by simp only [List.length_cons, List.length_nil]; omega) ?_ | refine xi rfl (by simp only [List.length_cons, List.length_nil]; omega) ?_ | fail); try simp only [push_cast, Int.cast_ofNat_Int, reduceIte, Nat.reduceEqDiff, reduceCtorEq, Nat.reduceAdd, Nat.reduceSub, Nat.reduceMul, Int.reduceToNat, Nat.reduceLeDiff])
          | (refine xw ?_; simp only [push_cast, Int.cast_ofNat_Int, reduceIte, Nat.reduceEqDiff, reduceCtorEq, Nat.reduceAdd, Nat.reduceSub, Nat.reduceMul, Int.reduceToNat, Nat.reduceLeDiff])
          | fail
      · have hno : okOp ts[i][j] = false := by
          cases hq : okOp ts[i][j] with
          | false => rfl
          | true => obtain ⟨q1, q2, q3⟩ := (okOp_iff _).1 hq; simp [q1, q2, q3] at h
        have hne : ts.flatten.all okOp = false := by
          rw [List.all_eq_false]
          exact ⟨ts[i][j], hmem _ (List.getElem_mem hj'), by simp [hno]⟩
        have h0 : ¬ ts.length = 0 := by omega
        simp [checkP, h1, h0, hne]
      · have hyes : okOp ts[i][j] = true := by
          rw [okOp_iff]
          grind
        refine EV.to (ih2 (j + 1) ⟨by omega, ?_⟩ (by omega)) ?_ (by simp)
        · rw [List.take_succ_eq_append_getElem hj', List.all_append, hok2]
          simp [hyes]
        · repeat' first
            | (refine List.forall_mem_cons.2 (And.intro ?_ ?_))
            | (intro _ hnil; cases hnil; done)
            | rfl
            | (refine env_w64 rfl (by first | rfl | (push_cast; first | rfl | omega)) (by omega) (by omega); done)
            | fail
    · have hj' : j = ts[i].length := by omega
      subst hj'
      refine EV.to (ih (i + 1) ⟨by omega, ?_⟩ (by omega)) ?_ (by simp)
      · rw [flat_take hi', List.all_append, hok, Bool.true_and]
        rwa [List.take_length] at hok2
      · repeat' first
          | (refine List.forall_mem_cons.2 (And.intro ?_ ?_))
          | (intro _ hnil; cases hnil; done)
          | rfl
          | (refine env_w64 rfl (by first | rfl | (push_cast; first | rfl | omega)) (by omega) (by omega); done)
          | fail
  · have hi3 : i = ts.length := by omega
    subst hi3
    rw [List.take_length] at hok
    have h0 : ¬ ts.length = 0 := by omega
    simp [checkP, hok, h1, h0]

end
end Go.EV

namespace Go.EV
open Go.Proofs

section
variable {M : PHeap}

abbrev sfence : OpV := ⟨5, 0, 0, 0, 4⟩

theorem litmus_strongFence_q : ConQ Try.prog 64 #[] M (vop sfence) := by
  refine Con.enter Q8_ok (args := []) (by simp [Q8]) fun w0 => ?_
  simp only [Q8, argE]
  repeat' first
      | refine EV.seq ?_
      | (refine EV.reg ?_; (conv => (arg 2; whnf)); simp only [push_cast, Int.cast_ofNat_Int, reduceIte, Nat.reduceEqDiff, reduceCtorEq, Nat.reduceAdd, Nat.reduceSub, Nat.reduceMul, Int.reduceToNat, Nat.reduceLeDiff])
      | (refine EV.ret Q8_ok ?_; simp only [push_cast, Int.cast_ofNat_Int, reduceIte, Nat.reduceEqDiff, reduceCtorEq, Nat.reduceAdd, Nat.reduceSub, Nat.reduceMul, Int.reduceToNat, Nat.reduceLeDiff, Q8])
      | ((first | with_reducible intro b | refine xr rfl (by simp only [List.length_cons, List.length_nil]; omega) ?_ | fail); try simp only [push_cast, Int.cast_ofNat_Int, reduceIte, Nat.reduceEqDiff, reduceCtorEq, Nat.reduceAdd, Nat.reduceSub, Nat.reduceMul, Int.reduceToNat, Nat.reduceLeDiff])
      | (refine xw ?_; simp only [push_cast, Int.cast_ofNat_Int, reduceIte, Nat.reduceEqDiff, reduceCtorEq, Nat.reduceAdd, Nat.reduceSub, Nat.reduceMul, Int.reduceToNat, Nat.reduceLeDiff])
      | fail
  all_goals rfl

def expOp (o : OpV) : List OpV := if accessP o = false ∨ o.ord ≠ 4 then [o] else [sfence, { o with ord := plainP o.kind o.ord }, sfence]

theorem litmus_Expand_S1_c (o : OpV) (f : Bool) (ho : okOp o = true) : Con Try.prog 61 #[vop o, vb f] M [] fun v _ G' => ∃ b, v = .slice (some ⟨b, 0, none⟩) (expOp o).length (expOp o).length ∧ G' = [(b, Cl 55 ((expOp o).flatMap encOp))] := by
  obtain ⟨q1, q2, q3⟩ := (okOp_iff o).1 ho
  refine Con.enter Q2_ok (args := [vop o, vb f]) (by simp [Q2]) fun w0 => ?_
  simp only [Q2, argE]
  repeat' first
      | refine EV.seq ?_
      | refine EV.skip ?_
      | (refine EV.reg ?_; (conv => (arg 2; whnf)); simp only [push_cast, Int.cast_ofNat_Int, reduceIte, Nat.reduceEqDiff, reduceCtorEq, Nat.reduceAdd, Nat.reduceSub, Nat.reduceMul, Int.reduceToNat, Nat.reduceLeDiff])
      | (refine ConQ.call (litmus_access_q _) ?_; try simp only [push_cast, Int.cast_ofNat_Int, reduceIte, Nat.reduceEqDiff, reduceCtorEq, Nat.reduceAdd, Nat.reduceSub, Nat.reduceMul, Int.reduceToNat, Nat.reduceLeDiff])
      | assumption
      | (refine condW.merge ?_ (fun hc K' hK => ?_) ?_; rotate_left)
      | ((refine EV.cond rfl (fun h => ?_) (fun h => ?_) <;> try simp only [reduceCtorEq, reduceIte, if_true, if_false, Bool.not_eq_true', Bool.not_eq_false', decide_eq_true_eq, decide_eq_false_iff_not, Bool.and_eq_true, Bool.or_eq_true, Bool.and_eq_false_iff, Bool.or_eq_false_iff] at h) <;> try (exfalso; first | exact h True.intro | (exact h; done) | omega | (simp only [not_true_eq_false, false_or, or_false] at h; omega)))
      | ((first | with_reducible intro b | refine xr rfl (by simp only [List.length_cons, List.length_nil]; omega) ?_ | refine xi rfl (by simp only [List.length_cons, List.length_nil]; omega) ?_ | fail); try simp only [push_cast, Int.cast_ofNat_Int, reduceIte, Nat.reduceEqDiff, reduceCtorEq, Nat.reduceAdd, Nat.reduceSub, Nat.reduceMul, Int.reduceToNat, Nat.reduceLeDiff])
      | fail
  · refine EV.to (ρ' := [(4, .slice (some ⟨b, 0, none⟩) 1 1)]) (G' := [(b, Cl 55 (encOp o))]) ?_ (by simp (disch := omega) only [List.forall_mem_cons, List.not_mem_nil, false_implies, implies_true, and_true, true_and, get_cons, get_nil, reduceIte, Nat.reduceEqDiff, Option.some.injEq, Value.int.injEq, w64, Int.natCast_add, Int.natCast_one, Int.cast_ofNat_Int, Int.natCast_zero]) (by simp)
    refine EV.ret Q2_ok ?_
    simp only [push_cast, Int.cast_ofNat_Int, reduceIte, Nat.reduceEqDiff, reduceCtorEq, Nat.reduceAdd, Nat.reduceSub, Nat.reduceMul, Int.reduceToNat, Nat.reduceLeDiff, Q2]
    have he : expOp o = [o] := by simp [expOp, h]
    exact ⟨b, by rw [he]; rfl, by rw [he]; rfl⟩
  · have h5 : o.kind ≠ 5 := by
      intro h5
      have := h.1
      simp [accessP, h5] at this
    refine ConQ.call (order_Plain_q _ _ q1 q2 h5) ?_
    simp only [push_cast, Int.cast_ofNat_Int, reduceIte, Nat.reduceEqDiff, reduceCtorEq, Nat.reduceAdd, Nat.reduceSub, Nat.reduceMul, Int.reduceToNat, Nat.reduceLeDiff]
    repeat' first
        | refine EV.seq ?_
        | (refine EV.any _ (List.Sublist.refl _) ?_; (conv => (arg 2; whnf)); simp only [push_cast, Int.cast_ofNat_Int, reduceIte, Nat.reduceEqDiff, reduceCtorEq, Nat.reduceAdd, Nat.reduceSub, Nat.reduceMul, Int.reduceToNat, Nat.reduceLeDiff])
        | ((first | refine ConQ.call (litmus_strongFence_q) ?_ | with_reducible intro b | refine xr rfl (by simp only [List.length_cons, List.length_nil]; omega) ?_ | fail); try simp only [push_cast, Int.cast_ofNat_Int, reduceIte, Nat.reduceEqDiff, reduceCtorEq, Nat.reduceAdd, Nat.reduceSub, Nat.reduceMul, Int.reduceToNat, Nat.reduceLeDiff])
        | (refine xw ?_; simp only [push_cast, Int.cast_ofNat_Int, reduceIte, Nat.reduceEqDiff, reduceCtorEq, Nat.reduceAdd, Nat.reduceSub, Nat.reduceMul, Int.reduceToNat, Nat.reduceLeDiff])
        | (refine And.intro (PHeap.le_refl _) (And.intro (fun p hp => hp) ?_))
        | fail
    have he : expOp o = [sfence, { o with ord := plainP o.kind o.ord }, sfence] := by simp [expOp, h]
    rename_i b1
    refine EV.to (ρ' := [(4, .slice (some ⟨b, 0, none⟩) 3 3)]) (G' := [(b, Cl 55 (encOp sfence ++ encOp { o with ord := plainP o.kind o.ord } ++ encOp sfence))]) ?_ (by simp (disch := omega) only [List.forall_mem_cons, List.not_mem_nil, false_implies, implies_true, and_true, true_and, get_cons, get_nil, reduceIte, Nat.reduceEqDiff, Option.some.injEq, Value.int.injEq, w64, Int.natCast_add, Int.natCast_one, Int.cast_ofNat_Int, Int.natCast_zero]) (by simp)
    refine EV.ret Q2_ok ?_
    simp only [push_cast, Int.cast_ofNat_Int, reduceIte, Nat.reduceEqDiff, reduceCtorEq, Nat.reduceAdd, Nat.reduceSub, Nat.reduceMul, Int.reduceToNat, Nat.reduceLeDiff, Q2]
    exact ⟨b, by rw [he]; rfl, by rw [he]; rfl⟩

end
end Go.EV

namespace Go.EV
open Go.Proofs

theorem flat1 (vs : List Value) : vs.flatMap (fun v => [v]) = vs := flatMap_single vs

end Go.EV

namespace Go.EV
open Go.Proofs

variable {P : Program} {f : FuncId} {args : Array Value}

/-- What is in the world at the start, to be read. -/
def heapOf (w : World) : PHeap := fun b o => w.heap[b]? = some o

theorem St_kept {w w' : World} {M0 M : PHeap} {G : Own} (h : EV.St w [] M0 M G w') : w.keptBut w' (fun _ => False) := by
  refine ⟨h.os, h.output, fun i hi => ?_⟩
  have e := h.frame i hi (by simp)
  rw [e]
  cases w.heap[i]? with
  | none => rfl
  | some o => cases o <;> simp

/-- A contract, read at one world. -/
theorem Con.at {w : World} {Φ : Value → PHeap → Own → Prop} (h : Con P f args (heapOf w) [] Φ) : Calls P f args w fun e w' => ∃ v, e = .returned v ∧ (∃ M' G', Φ v M' G') ∧ w.keptBut w' (fun _ => False) ∧ w.heap.size ≤ w'.heap.size := by
  intro cs
  obtain ⟨e, w', fr, ⟨v, he, M', G', h1, h2⟩, r⟩ := h.2 w (St.enter (G := []) (fun b o hb => hb) (by simp) (by simp) (by simp)) cs
  exact ⟨e, w', fr, ⟨v, he, ⟨M', G', h2⟩, St_kept h1, h1.size⟩, r⟩

theorem post_of_kept {H : Type} {enc : TypeId × Value → H} {f : Func} {s : ChangeSpec} {apart fresh handsOn : Bool} {W W' : World} {args : Array Value} {v : Value} {ds gs : List (DataW H)} {before pa pv : List MemPlace}
    (hW : DataW.Whole enc P f.params.toList s.vars apart W args.toList ds gs before)
    (hres : ∀ (b : Nat) (sp : Nat → Bool) (hd : Bool), DataW.TrodAll enc P W' b sp hd f.resultTypes.toList (v.resultList f.resultTypes.size) (s.fn H (ds ++ gs)).results [])
    (hargs : ∀ sp : Nat → Bool, (∀ p ∈ before, sp p.block = true) → DataW.TrodAll enc P W' 0 sp true f.params.toList args.toList (s.fn H (ds ++ gs)).args pa)
    (hvars : ∀ sp : Nat → Bool, (∀ p ∈ before, sp p.block = true) → DataW.TrodVars enc P W' sp s.vars (s.fn H (ds ++ gs)).vars pv)
    (hps : before = pa ++ pv) (hk : W.keptBut W' (fun _ => False)) :
    s.post enc P f apart fresh handsOn false W args v W' := by
  have hold : ∀ p ∈ before, (fun b => decide (b < W.heap.size)) p.block = true := fun p hp => by simpa using hW.lt p hp
  exact ⟨ds, gs, before, [], pa, pv, hW, hres _ _ _, hargs _ hold, hvars _ hold, World.keptBut_mono (fun p hp => hp.elim) hk, fun h => by cases h⟩

end Go.EV

namespace Go.EV
open Go.Proofs
abbrev encTurn (t : Int × Int) : List Value := [vi t.1, vi t.2]

section
variable {H : Type} {enc : TypeId × Value → H} {P : Program} {W : World} {base : Nat} {sp : Nat → Bool} {held : Bool}

theorem mapM_some {α β : Type} {f : α → Option β} : ∀ {l : List α} {r : List β}, l.mapM f = some r → r.length = l.length ∧ ∀ i (h : i < l.length), ∃ y, f l[i] = some y ∧ r[i]? = some y
  | [], r, h => by simp at h; subst h; simp
  | x :: l, r, h => by
    simp only [List.mapM_cons, Option.bind_eq_bind, Option.pure_def, Option.bind_eq_some_iff] at h
    obtain ⟨y, hy, r', hr', e⟩ := h
    cases e
    obtain ⟨h1, h2⟩ := mapM_some hr'
    refine ⟨by simp [h1], fun i hi => ?_⟩
    cases i with
    | zero => exact ⟨y, hy, rfl⟩
    | succ i => exact h2 i (by simpa using hi)

theorem cells_rd {a : Addr} {n : Nat} {cs : List Value} (h : W.cells? base a n = some cs) (hn : 0 < n) : ∃ b off, a = ⟨b, off, none⟩ ∧ rd (heapOf W) b off n cs := by
  unfold World.cells? at h
  split at h
  · obtain ⟨h1, h2⟩ := mapM_some h
    rw [List.length_range] at h1
    obtain ⟨ab, ao, sa⟩ := a
    have hspot : sa = none := by
      obtain ⟨y, hy, _⟩ := h2 0 (by simpa using hn)
      simp only [List.getElem_range, World.cell?, Addr.add] at hy
      cases sa with
      | none => rfl
      | some s => exfalso; revert hy; simp; split <;> simp
    subst hspot
    refine ⟨ab, ao, rfl, ?_⟩
    have hcell : ∀ i, i < n → ∃ y, W.cell? ⟨ab, ao + i, none⟩ = some y ∧ cs[i]? = some y := fun i hi => by
      obtain ⟨y, hy, e⟩ := h2 i (by simpa using hi)
      rw [List.getElem_range, addr_add] at hy
      exact ⟨y, hy, e⟩
    cases hb : W.heap[ab]? with
    | none => obtain ⟨y, hy, _⟩ := hcell 0 hn; simp [World.cell?, hb] at hy
    | some ob =>
      cases ob with
      | cells c T fz =>
        have hc : ∀ i, i < n → c[ao + i]? = cs[i]? := fun i hi => by
          obtain ⟨y, hy, e⟩ := hcell i hi
          simp [World.cell?, hb] at hy
          rw [hy, e]
        have hle : ao + n ≤ c.size := by
          obtain ⟨y, hy, e⟩ := hcell (n - 1) (by omega)
          have h3 := hc (n - 1) (by omega)
          rw [e] at h3
          have := (Array.getElem?_eq_some_iff.1 h3).1
          omega
        refine ⟨c, T, fz, hb, hle, ?_⟩
        apply List.ext_getElem?
        intro i
        rw [List.getElem?_take]
        by_cases hi : i < n
        · rw [if_pos hi, List.getElem?_drop, ← hc i hi]; simp
        · rw [if_neg hi, List.getElem?_eq_none (by omega)]
      | _ => obtain ⟨y, hy, _⟩ := hcell 0 hn; simp [World.cell?, hb] at hy
  · cases h

theorem rd_join {b off n k : Nat} {xs ys : List Value} (h1 : rd (heapOf W) b off n xs) (h2 : rd (heapOf W) b (off + n) k ys) : rd (heapOf W) b off (n + k) (xs ++ ys) := by
  obtain ⟨c, T, fz, e1, l1, rfl⟩ := h1
  obtain ⟨c', T', fz', e2, l2, rfl⟩ := h2
  have : (Obj.cells c T fz) = Obj.cells c' T' fz' := Option.some.inj (e1.symm.trans e2)
  cases this
  refine ⟨c, T, fz, e1, by omega, ?_⟩
  rw [← List.drop_drop, List.take_add]

theorem rd_rows {α : Type} {e' : α → List Value} {sz b off : Nat} (henc : ∀ z, (e' z).length = sz) : ∀ (zs : List α), 0 < zs.length → (∀ i (h : i < zs.length), rd (heapOf W) b (off + i * sz) sz (e' zs[i])) → rd (heapOf W) b off (zs.length * sz) (zs.flatMap e') := by
  intro zs
  induction zs generalizing off with
  | nil => intro h; exact absurd h (by simp)
  | cons z zs ih =>
    intro _ hr
    have h0 := hr 0 (by simp)
    simp only [Nat.zero_mul, Nat.add_zero, List.getElem_cons_zero] at h0
    cases hz : zs with
    | nil => simpa [hz] using h0
    | cons z' zs' =>
      have h1 := ih (off := off + sz) (by rw [hz]; simp) (fun i hi => by
        have := hr (i + 1) (by simpa using hi)
        rw [Nat.succ_mul] at this
        rw [show off + sz + i * sz = off + (i * sz + sz) by omega]
        simpa using this)
      have := rd_join h0 h1
      rw [hz] at this
      simpa [Nat.succ_mul, Nat.add_comm, Nat.add_left_comm] using this

theorem weightsAll_mem {e : TypeId} {ds : List (DataW H)} (h : (DataW.weightsAll P e ds).all (· ≤ reachBytes) = true) : ∀ d ∈ ds, (d.weights P e).all (· ≤ reachBytes) = true := by
  induction ds with
  | nil => intro d hd; cases hd
  | cons d ds ih =>
    rw [DataW.weightsAll, List.all_append, Bool.and_eq_true] at h
    intro d' hd
    rcases List.mem_cons.1 hd with rfl | hd
    · exact h.1
    · exact ih h.2 d' hd

/-- A slice that comes in. -/
theorem slice_in {α : Type} {e' : α → List Value} {Q : α → Prop} {t e : TypeId} {sz m : Nat} {v : Value} {x : DataW H × List MemPlace} (ht : P.underlying t = some (.slice e)) (hc : P.cellsOf e = sz) (hpos : 0 < sz) (hby : 0 < P.bytesOf e) (henc : ∀ z, (e' z).length = sz)
    (h : DataW.trod enc P W base sp held m t [v] = some x) (hw : (x.1.weights P t).all (· ≤ reachBytes) = true)
    (hel : ∀ m cs y, DataW.trod enc P W base sp held m e cs = some y → (y.1.weights P e).all (· ≤ reachBytes) = true → ∃ z, cs = e' z ∧ Q z) :
    ∃ (zs : List α) (a : Option Addr) (c : Nat), v = .slice a zs.length c ∧ rdS (heapOf W) sz a zs.length (zs.flatMap e') ∧ zs.length ≤ reachBytes ∧ ∀ z ∈ zs, Q z := by
  cases m with
  | zero => simp [DataW.trod] at h
  | succ m =>
    unfold DataW.trod at h
    rw [ht] at h
    split at h <;> (try (cases h; done)) <;> (try (rename_i hu _ _; cases hu; done)) <;> (try (rename_i hu _; cases hu; done)) <;> (try (rename_i hu; cases hu; done))
    · rename_i hv
      simp only [List.cons.injEq, and_true] at hv
      exact ⟨[], none, 0, hv, .inl ⟨by simp, rfl⟩, Nat.zero_le _, fun z hz => by cases hz⟩
    · rename_i e0 a len cap hu hv
      cases hu
      simp only [List.cons.injEq, and_true] at hv
      subst hv
      split at h
      · rename_i hcond
        simp only [Option.bind_eq_some_iff] at h
        obtain ⟨elems, he, h⟩ := h
        obtain ⟨rest, _, h⟩ := Option.map_eq_some_iff.1 h
        subst h
        obtain ⟨hel1, he2⟩ := mapM_some he
        rw [List.length_range] at hel1
        rw [hc] at he2
        dsimp only at hw
        unfold DataW.weights at hw
        rw [ht] at hw
        dsimp only at hw
        rw [List.all_cons, Bool.and_eq_true, List.all_append, Bool.and_eq_true] at hw
        obtain ⟨hw1, hw2, _⟩ := hw
        have hlb : len ≤ reachBytes := by
          have h1 : (elems.length + rest.length) * P.bytesOf e ≤ reachBytes := by simpa using hw1
          have h2 : elems.length * 1 ≤ (elems.length + rest.length) * P.bytesOf e := Nat.mul_le_mul (by omega) hby
          omega
        have hz : ∀ i : Fin len, ∃ z, W.cells? base (a.add (i.1 * sz)) sz = some (e' z) ∧ Q z := fun i => by
          obtain ⟨y, hy, hy2⟩ := he2 i.1 (by simp)
          rw [List.getElem_range] at hy
          simp only [Option.bind_eq_some_iff] at hy
          obtain ⟨cs, hcs, hy⟩ := hy
          have hym : y ∈ elems := List.mem_of_getElem? hy2
          obtain ⟨z, rfl, hq⟩ := hel _ _ _ hy (weightsAll_mem hw2 y.1 (List.mem_map.2 ⟨y, hym, rfl⟩))
          exact ⟨z, hcs, hq⟩
        obtain ⟨zs, hzs⟩ : ∃ zs, zs = List.ofFn fun i : Fin len => Classical.choose (hz i) := ⟨_, rfl⟩
        have hlen : zs.length = len := by rw [hzs]; simp
        have hall : ∀ i (h : i < zs.length), W.cells? base (a.add (i * sz)) sz = some (e' zs[i]) ∧ Q zs[i] := fun i hi => by
          subst hzs
          simp only [List.getElem_ofFn]
          exact Classical.choose_spec (hz ⟨i, by simpa using hi⟩)
        refine ⟨zs, some a, cap, by rw [hlen], ?_, by omega, fun z hz' => ?_⟩
        · by_cases h0 : zs.length = 0
          · refine .inl ⟨by rw [h0]; simp, ?_⟩
            rw [List.length_eq_zero_iff.1 h0]; rfl
          · obtain ⟨b, off, hab, _⟩ := cells_rd (hall 0 (by omega)).1 hpos
            rw [Nat.zero_mul] at hab
            have hab2 : a = ⟨b, off, none⟩ := by rw [← hab]; simp [Addr.add]
            refine .inr ⟨b, off, by rw [hab2], rd_rows henc zs (by omega) fun i hi => ?_⟩
            obtain ⟨b', off', hab', hr⟩ := cells_rd (hall i hi).1 hpos
            rw [hab2, addr_add] at hab'
            cases hab'
            exact hr
        · obtain ⟨i, hi, rfl⟩ := List.mem_iff_getElem.1 hz'
          exact (hall i hi).2
      · cases h

theorem int_in {t : TypeId} {m : Nat} {cs : List Value} {x : DataW H × List MemPlace} (ht : P.underlying t = some (.int .i64)) (h : DataW.trod enc P W base sp held m t cs = some x) : ∃ n, cs = [vi n] := by
  cases m with
  | zero => simp [DataW.trod] at h
  | succ m =>
    unfold DataW.trod at h
    rw [ht] at h
    split at h <;> (try (cases h; done)) <;> (try (rename_i hu _ _; cases hu; done)) <;> (try (rename_i hu _; cases hu; done)) <;> (try (rename_i hu; cases hu; done))
    rename_i k1 k2 n1 hu
    cases hu
    split at h
    · rename_i hk
      obtain ⟨rfl, _⟩ := hk
      exact ⟨n1, rfl⟩
    · cases h

theorem sameAt_kept {W' : World} (hf : ∀ b, b < W.heap.size → W'.heap[b]? = W.heap[b]?) {p : MemPlace} (hp : p.block < W.heap.size) : W.sameAt W' p := by
  cases p with
  | cell b off => simp only [World.sameAt, World.cell?, hf b hp]
  | map b => exact hf b hp

theorem trodAll_kept {W' : World} (K : Kids P (· < P.types.size)) (hsz : ∀ {t e : TypeId}, t < P.types.size → P.underlying t = some (.slice e) → 0 < P.cellsOf e) (hf : ∀ b, b < W.heap.size → W'.heap[b]? = W.heap[b]?) {sp' : Nat → Bool} :
    ∀ {ts : List TypeId} {vs : List Value} {ds : List (DataW H)} {ps : List MemPlace}, (∀ t ∈ ts, t < P.types.size) → DataW.TrodAll enc P W 0 (fun _ => true) true ts vs ds ps → (∀ p ∈ ps, p.block < W.heap.size) → (∀ p ∈ ps, sp' p.block = true) → DataW.TrodAll enc P W' 0 sp' true ts vs ds ps
  | [], [], [], ps, _, h, _, _ => h
  | t :: ts, v :: vs, d :: ds, ps, hts, h, hb, hs => by
    obtain ⟨p, q, ⟨m, h1⟩, h2, rfl⟩ := h
    refine ⟨p, q, ⟨m, DataW.trod_stays K hsz (fun h => by cases h) (hts t (by simp)) h1 (fun r hr => sameAt_kept hf (hb r (by simp [hr]))) (fun r hr => hs r (by simp [hr]))⟩, ?_, rfl⟩
    exact trodAll_kept K hsz hf (fun t ht => hts t (by simp [ht])) h2 (fun r hr => hb r (by simp [hr])) (fun r hr => hs r (by simp [hr]))

theorem Con.at2 {f : FuncId} {args : Array Value} {Φ : Value → PHeap → Own → Prop} (h : Con P f args (heapOf W) [] Φ) : Calls P f args W fun e W' => ∃ v, e = .returned v ∧ (∃ M' G', Φ v M' G') ∧ W.keptBut W' (fun _ => False) ∧ ∀ b, b < W.heap.size → W'.heap[b]? = W.heap[b]? := by
  intro cs
  obtain ⟨e, w', fr, ⟨v, he, M', G', h1, h2⟩, r⟩ := h.2 W (St.enter (G := []) (fun b o hb => hb) (by simp) (by simp) (by simp)) cs
  exact ⟨e, w', fr, ⟨v, he, ⟨M', G', h2⟩, St_kept h1, fun b hb => h1.frame b hb (by simp)⟩, r⟩

end
end Go.EV

namespace Go.EV
open Go.Proofs

def rebGo (f : OpV → Bool → List OpV) : Bool → List OpV → List OpV
  | _, [] => []
  | b, o :: l => f o b ++ rebGo f (b && !accessP o) l

def noAcc (l : List OpV) : Bool := l.all fun o => !accessP o

theorem rebGo_append (f : OpV → Bool → List OpV) : ∀ (l1 : List OpV) (b : Bool) (l2 : List OpV), rebGo f b (l1 ++ l2) = rebGo f b l1 ++ rebGo f (b && noAcc l1) l2
  | [], b, l2 => by simp [rebGo, noAcc]
  | o :: l1, b, l2 => by simp [rebGo, rebGo_append f l1, noAcc, Bool.and_assoc]

theorem rebGo_take (f : OpV → Bool → List OpV) {l : List OpV} {j : Nat} (hj : j < l.length) : rebGo f true (l.take (j + 1)) = rebGo f true (l.take j) ++ f l[j] (noAcc (l.take j)) := by
  rw [List.take_succ_eq_append_getElem hj, rebGo_append]; simp [rebGo]

theorem rebGo_len {f : OpV → Bool → List OpV} {l : List OpV} (hf : ∀ o ∈ l, ∀ b, (f o b).length ≤ 3) : ∀ b, (rebGo f b l).length ≤ 3 * l.length := by
  induction l with
  | nil => intro b; simp [rebGo]
  | cons o l ih =>
    intro b
    have h1 := hf o (by simp) b
    have h2 := ih (fun o' ho' => hf o' (by simp [ho'])) (b && !accessP o)
    simp [rebGo]; omega

theorem noAcc_take {l : List OpV} {j : Nat} (hj : j < l.length) : noAcc (l.take (j + 1)) = (noAcc (l.take j) && !accessP l[j]) := by
  unfold noAcc
  rw [List.take_succ_eq_append_getElem hj, List.all_append]; simp

section
variable {M : PHeap}

/-- What a function that takes the place of an operation promises. -/
def ByC (P : Program) (T g : Nat) (f : OpV → Bool → List OpV) (l : List OpV) : Prop :=
  ∀ (M : PHeap) (o : OpV) (b : Bool), o ∈ l → (f o b).length ≤ 3 ∧ Con P g #[vop o, vb b] M [] fun v _ G' => ∃ ov, v = osv ov (f o b).length ∧ osok 5 ov (f o b).length ((f o b).flatMap encOp) ∧ G' = osg T ov ((f o b).flatMap encOp)

theorem ok1_ops (l : List OpV) : ok1 (l.flatMap encOp) := by
  intro v hv
  simp only [List.mem_flatMap] at hv
  obtain ⟨o, _, hv⟩ := hv
  simp at hv
  rcases hv with rfl | rfl | rfl | rfl | rfl <;> rfl

set_option maxHeartbeats 4000000 in
theorem litmus_rebuilt_c (f : OpV → Bool → List OpV) (g : Nat) (ts : List (List OpV)) (s : Value) (hs : SlSl M 5 encOp s ts) (hb : ts.flatten.length < 1000000) (hb' : ts.length < 1000000)
    (hg : ByC Try.prog 55 g f ts.flatten) :
    Con Try.prog 60 #[.agg #[s], .func (.func g) #[] #[]] M [] fun v M' _ => ∃ s', v = .agg #[s'] ∧ SlSl M' 5 encOp s' (ts.map (rebGo f true)) := by
  obtain ⟨a, c, vs, rfl, hl, hrd, hk⟩ := hs
  refine Con.enter Q7_ok (args := [.agg #[.slice a ts.length c], .func (.func g) #[] #[]]) (by simp [Q7]) fun w0 => ?_
  simp only [Q7, argE]
  repeat' first
      | refine EV.seq ?_
      | refine EV.block ?_
      | (refine EV.reg ?_; (conv => (arg 2; whnf)); simp only [push_cast, Int.cast_ofNat_Int, reduceIte, Nat.reduceEqDiff, reduceCtorEq, Nat.reduceAdd, Nat.reduceSub, Nat.reduceMul, Int.reduceToNat, Nat.reduceLeDiff])
      | ((first | with_reducible intro b | refine xs rfl (by simp only [List.length_cons, List.length_nil]; omega) ?_ | fail); try simp only [push_cast, Int.cast_ofNat_Int, reduceIte, Nat.reduceEqDiff, reduceCtorEq, Nat.reduceAdd, Nat.reduceSub, Nat.reduceMul, Int.reduceToNat, Nat.reduceLeDiff])
      | fail
  rename_i b2 b4
  refine EV.to (ρ' := [(1, .func (.func g) #[] #[]), (4, pv b4 0), (5, pv b 0), (13, .slice a ts.length c), (14, vi ts.length), (15, vi (0 : Nat))])
    (G' := [(b, Cl 24 [osv none 0]), (b4, Cl 24 [.slice none 0 0])] ++ osg 53 none []) ?_ ?env0 (by (repeat' first | exact List.Sublist.refl _ | exact List.nil_sublist _ | exact List.sublist_append_left _ _ | refine List.Sublist.cons_cons _ ?_ | refine List.Sublist.append_left ?_ _ | refine List.sublist_append_of_sublist_right ?_ | refine List.Sublist.cons _ ?_))
  case env0 =>
    repeat' first
      | (refine List.forall_mem_cons.2 (And.intro ?_ ?_))
      | (intro _ hnil; cases hnil; done)
      | rfl
      | fail
  refine EV.loop (fun x : Nat × PHeap × Vec × List Value => ([(1, .func (.func g) #[] #[]), (4, pv b4 0), (5, pv b 0), (13, .slice a ts.length c), (14, vi ts.length), (15, vi x.1)], x.2.1,
      [(b, Cl 24 [osv x.2.2.1 x.1]), (b4, Cl 24 [.slice none 0 0])] ++ osg 53 x.2.2.1 x.2.2.2))
    (fun x => x.1 ≤ ts.length ∧ M.le x.2.1 ∧ osok 1 x.2.2.1 x.1 x.2.2.2 ∧ x.2.2.2.length = x.1 ∧ ∀ k (h : k < x.2.2.2.length) (h' : k < ts.length), Sl x.2.1 5 encOp x.2.2.2[k] (rebGo f true ts[k]))
    (fun x => ts.length - x.1) (0, M, none, []) ⟨Nat.zero_le _, PHeap.le_refl _, ⟨rfl, rfl⟩, rfl, fun k h => absurd h (by simp)⟩ ?_
  rintro ⟨i, Mi, oq, vs'⟩ ⟨hi, hMi, hoq, hlen', hSl⟩ ih
  dsimp only at hi hMi hoq hlen' hSl ih ⊢
  repeat' first
      | refine EV.seq ?_
      | refine EV.skip ?_
      | refine EV.block ?_
      | (refine EV.reg ?_; (conv => (arg 2; whnf)); simp only [push_cast, Int.cast_ofNat_Int, reduceIte, Nat.reduceEqDiff, reduceCtorEq, Nat.reduceAdd, Nat.reduceSub, Nat.reduceMul, Int.reduceToNat, Nat.reduceLeDiff])
      | ((refine EV.cond rfl (fun h => ?_) (fun h => ?_) <;> try simp only [reduceCtorEq, reduceIte, if_true, if_false, Bool.not_eq_true', Bool.not_eq_false', decide_eq_true_eq, decide_eq_false_iff_not, Bool.and_eq_true, Bool.or_eq_true, Bool.and_eq_false_iff, Bool.or_eq_false_iff] at h) <;> try (exfalso; first | exact h True.intro | (exact h; done) | omega | (simp only [not_true_eq_false, false_or, or_false] at h; omega)))
      | (refine EV.exit rfl ?_)
      | (refine xr rfl (by simp only [List.length_cons, List.length_nil]; omega) ?_; try simp only [push_cast, Int.cast_ofNat_Int, reduceIte, Nat.reduceEqDiff, reduceCtorEq, Nat.reduceAdd, Nat.reduceSub, Nat.reduceMul, Int.reduceToNat, Nat.reduceLeDiff])
      | (refine xw ?_; simp only [push_cast, Int.cast_ofNat_Int, reduceIte, Nat.reduceEqDiff, reduceCtorEq, Nat.reduceAdd, Nat.reduceSub, Nat.reduceMul, Int.reduceToNat, Nat.reduceLeDiff])
      | fail
  · have hi' : i < ts.length := by omega
    obtain ⟨pb, po, rfl, hat⟩ := SlSl.at (hrd.mono hMi) hl (fun k h h' => (hk k h h').mono hMi) (by omega)
    obtain ⟨a', c', hr1, hr2⟩ := hat i hi'
    simp only [Nat.mul_one] at hr1
    have hlen : ts[i].length ≤ ts.flatten.length := by have := flat_take hi'; have h2 := flat_take_le ts (i + 1); rw [this, List.length_append] at h2; omega
    have hmem : ∀ o ∈ ts[i], o ∈ ts.flatten := fun o ho => List.mem_flatten.2 ⟨ts[i], List.getElem_mem hi', ho⟩
    repeat' first
        | refine EV.seq ?_
        | refine EV.block ?_
        | (refine EV.reg ?_; (conv => (arg 2; whnf)); simp only [push_cast, Int.cast_ofNat_Int, reduceIte, Nat.reduceEqDiff, reduceCtorEq, Nat.reduceAdd, Nat.reduceSub, Nat.reduceMul, Int.reduceToNat, Nat.reduceLeDiff])
        | (refine And.intro (by omega) ?_)
        | (refine Exists.intro _ (Exists.intro _ (Exists.intro _ (And.intro (rd_M (by assumption)) ?_))); try simp only [push_cast, Int.cast_ofNat_Int, reduceIte, Nat.reduceEqDiff, reduceCtorEq, Nat.reduceAdd, Nat.reduceSub, Nat.reduceMul, Int.reduceToNat, Nat.reduceLeDiff])
        | fail
    refine EV.to (ρ' := [(1, .func (.func g) #[] #[]), (4, pv b4 0), (5, pv b 0), (8, osv none (rebGo f true (ts[i].take 0)).length), (9, vb (noAcc (ts[i].take 0))), (13, .slice (some ⟨pb, po, none⟩) ts.length c), (14, vi ts.length), (15, vi i), (19, .slice a' ts[i].length c'), (20, vi ts[i].length), (21, vi (0 : Nat))])
      (G' := [(b, Cl 24 [osv oq i]), (b4, Cl 24 [.slice none 0 0])] ++ (osg 53 oq vs' ++ osg 55 none ((rebGo f true (ts[i].take 0)).flatMap encOp))) ?_ ?env1 (by simp only [osg, List.append_nil]; exact List.Sublist.refl _)
    case env1 =>
      repeat' first
        | (refine List.forall_mem_cons.2 (And.intro ?_ ?_))
        | (intro _ hnil; cases hnil; done)
        | rfl
        | fail
    refine EV.loop (fun x : Nat × Vec => ([(1, .func (.func g) #[] #[]), (4, pv b4 0), (5, pv b 0), (8, osv x.2 (rebGo f true (ts[i].take x.1)).length), (9, vb (noAcc (ts[i].take x.1))), (13, .slice (some ⟨pb, po, none⟩) ts.length c), (14, vi ts.length), (15, vi i), (19, .slice a' ts[i].length c'), (20, vi ts[i].length), (21, vi x.1)], Mi,
        [(b, Cl 24 [osv oq i]), (b4, Cl 24 [.slice none 0 0])] ++ (osg 53 oq vs' ++ osg 55 x.2 ((rebGo f true (ts[i].take x.1)).flatMap encOp))))
      (fun x => x.1 ≤ ts[i].length ∧ osok 5 x.2 (rebGo f true (ts[i].take x.1)).length ((rebGo f true (ts[i].take x.1)).flatMap encOp))
      (fun x => ts[i].length - x.1) (0, none) ⟨Nat.zero_le _, rfl, rfl⟩ ?_
    rintro ⟨j, ov⟩ ⟨hj, hov⟩ ih2
    dsimp only at hj hov ih2 ⊢
    repeat' first
        | refine EV.seq ?_
        | refine EV.skip ?_
        | refine EV.block ?_
        | (refine EV.reg ?_; (conv => (arg 2; whnf)); simp only [push_cast, Int.cast_ofNat_Int, reduceIte, Nat.reduceEqDiff, reduceCtorEq, Nat.reduceAdd, Nat.reduceSub, Nat.reduceMul, Int.reduceToNat, Nat.reduceLeDiff])
        | ((refine EV.cond rfl (fun h => ?_) (fun h => ?_) <;> try simp only [reduceCtorEq, reduceIte, if_true, if_false, Bool.not_eq_true', Bool.not_eq_false', decide_eq_true_eq, decide_eq_false_iff_not, Bool.and_eq_true, Bool.or_eq_true, Bool.and_eq_false_iff, Bool.or_eq_false_iff] at h) <;> try (exfalso; first | exact h True.intro | (exact h; done) | omega | (simp only [not_true_eq_false, false_or, or_false] at h; omega)))
        | (refine EV.exit rfl ?_)
        | ((first | with_reducible intro b | refine xs rfl (by simp only [List.length_cons, List.length_nil]; omega) ?_ | fail); try simp only [push_cast, Int.cast_ofNat_Int, reduceIte, Nat.reduceEqDiff, reduceCtorEq, Nat.reduceAdd, Nat.reduceSub, Nat.reduceMul, Int.reduceToNat, Nat.reduceLeDiff])
        | fail
    · have hj' : j < ts[i].length := by omega
      obtain ⟨qb, qo, rfl, hat2⟩ := Sl.at (enc := encOp) (fun _ => rfl) (by omega) hr2 (by omega)
      have hr3 := hat2 j hj'
      repeat' first
          | refine EV.seq ?_
          | (refine EV.reg ?_; (conv => (arg 2; whnf)); simp only [push_cast, Int.cast_ofNat_Int, reduceIte, Nat.reduceEqDiff, reduceCtorEq, Nat.reduceAdd, Nat.reduceSub, Nat.reduceMul, Int.reduceToNat, Nat.reduceLeDiff])
          | (with_reducible intro b; try simp only [push_cast, Int.cast_ofNat_Int, reduceIte, Nat.reduceEqDiff, reduceCtorEq, Nat.reduceAdd, Nat.reduceSub, Nat.reduceMul, Int.reduceToNat, Nat.reduceLeDiff])
          | (refine And.intro (by omega) ?_)
          | ((first | refine Exists.intro _ (And.intro (rd_M (by assumption)) ?_) | refine xr rfl (by simp only [List.length_cons, List.length_nil]; omega) ?_ | fail); try simp only [push_cast, Int.cast_ofNat_Int, reduceIte, Nat.reduceEqDiff, reduceCtorEq, Nat.reduceAdd, Nat.reduceSub, Nat.reduceMul, Int.reduceToNat, Nat.reduceLeDiff])
          | (refine xw ?_; simp only [push_cast, Int.cast_ofNat_Int, reduceIte, Nat.reduceEqDiff, reduceCtorEq, Nat.reduceAdd, Nat.reduceSub, Nat.reduceMul, Int.reduceToNat, Nat.reduceLeDiff])
          | fail
      have hgj := fun M => hg M ts[i][j] (noAcc (ts[i].take j)) (hmem _ (List.getElem_mem hj'))
      have hlen3 := (hgj M).1
      refine Con.callB (G1 := []) (hgj _).2 (PHeap.le_refl _) (List.Perm.refl _) ?_
      rintro v M' G' ⟨ov', rfl, hov', rfl⟩
      simp only [push_cast, Int.cast_ofNat_Int, reduceIte, Nat.reduceEqDiff, reduceCtorEq, Nat.reduceAdd, Nat.reduceSub, Nat.reduceMul, Int.reduceToNat, Nat.reduceLeDiff]
      have hrl : (rebGo f true (ts[i].take j)).length ≤ 3 * (ts[i].take j).length := rebGo_len (fun o ho b => (hg M o b (hmem _ (List.mem_of_mem_take ho))).1) true
      have htl : (ts[i].take j).length ≤ j := by simp; omega
      refine ⟨_, rd_osg (T := 55) hov' (fun p hp => by simp [hp]), ok1_ops _, Or.inl ⟨ov, _, rfl, _, hov, _, cat_pull [[_, _, _], osg 53 oq vs', osg 55 ov _, osg 55 ov' _] 2 (by simp), ?_, ?_, ?_⟩⟩
      · simp only [maxLen]; omega
      · omega
      intro o' ho' _
      simp only [List.eraseIdx_cons_succ, List.eraseIdx_cons_zero, List.getElem_cons_succ, List.getElem_cons_zero, List.insertIdx_zero, List.insertIdx_succ_cons, cat_two, cat_one, cat_nil, List.nil_append, List.cons_append, List.append_assoc, List.append_nil]
      repeat' first
          | refine EV.inBlock ?_
          | (refine EV.reg ?_; (conv => (arg 2; whnf)); simp only [push_cast, Int.cast_ofNat_Int, reduceIte, Nat.reduceEqDiff, reduceCtorEq, Nat.reduceAdd, Nat.reduceSub, Nat.reduceMul, Int.reduceToNat, Nat.reduceLeDiff])
          | (refine ConQ.call (litmus_access_q _) ?_; try simp only [push_cast, Int.cast_ofNat_Int, reduceIte, Nat.reduceEqDiff, reduceCtorEq, Nat.reduceAdd, Nat.reduceSub, Nat.reduceMul, Int.reduceToNat, Nat.reduceLeDiff])
          | assumption
          | (refine condW.merge ?_ (fun hc K' hK => ?_) ?_; rotate_left)
          | (refine xr rfl (by simp only [List.length_cons, List.length_nil]; omega) ?_; try simp only [push_cast, Int.cast_ofNat_Int, reduceIte, Nat.reduceEqDiff, reduceCtorEq, Nat.reduceAdd, Nat.reduceSub, Nat.reduceMul, Int.reduceToNat, Nat.reduceLeDiff])
          | fail
      have e := rebGo_take (f := f) hj'
      have ih3 := ih2 (j + 1, o') ⟨by dsimp only; omega, by rw [e, List.length_append, List.flatMap_append]; exact ho'⟩ (by dsimp only; omega)
      dsimp only at ih3
      rw [noAcc_take hj', e, List.length_append, List.flatMap_append] at ih3
      refine EV.to ih3 ?_ (by (repeat' first | exact List.Sublist.refl _ | exact List.nil_sublist _ | exact List.sublist_append_left _ _ | refine List.Sublist.cons_cons _ ?_ | refine List.Sublist.append_left ?_ _ | refine List.sublist_append_of_sublist_right ?_ | refine List.Sublist.cons _ ?_))
      repeat' first
        | (refine List.forall_mem_cons.2 (And.intro ?_ ?_))
        | (intro _ hnil; cases hnil; done)
        | rfl
        | (refine env_w64 rfl (by first | rfl | (push_cast; first | rfl | omega)) (by omega) (by omega); done)
        | fail
    · have hj' : j = ts[i].length := by omega
      subst hj'
      rw [List.take_length] at hov ⊢
      refine ⟨[osv ov (rebGo f true ts[i]).length], Or.inr ⟨b, 0, rfl, rd_own' 0 rfl rfl (by simp)⟩, by simp [ok1_cons, ok1_nil, Value.oneCell'], Or.inl ⟨oq, i, rfl, vs', hoq, _, cat_pull [[_, _, _], osg 53 oq vs', osg 55 ov _] 1 (by simp), ?_, ?_, ?_⟩⟩
      · simp only [maxLen]; omega
      · omega
      intro o' ho' _
      simp only [List.eraseIdx_cons_succ, List.eraseIdx_cons_zero, List.getElem_cons_succ, List.getElem_cons_zero, List.insertIdx_zero, List.insertIdx_succ_cons, cat_two, cat_one, cat_nil, List.nil_append, List.cons_append, List.append_assoc, List.append_nil]
      repeat' first
          | refine EV.inBlock ?_
          | (refine EV.reg ?_; (conv => (arg 2; whnf)); simp only [push_cast, Int.cast_ofNat_Int, reduceIte, Nat.reduceEqDiff, reduceCtorEq, Nat.reduceAdd, Nat.reduceSub, Nat.reduceMul, Int.reduceToNat, Nat.reduceLeDiff])
          | (refine xw ?_; simp only [push_cast, Int.cast_ofNat_Int, reduceIte, Nat.reduceEqDiff, reduceCtorEq, Nat.reduceAdd, Nat.reduceSub, Nat.reduceMul, Int.reduceToNat, Nat.reduceLeDiff])
          | fail
      refine EV.permG ?_ (cat_pull [[_, _, _], osg 55 ov _, osg 53 o' _] 1 (by simp))
      simp only [List.eraseIdx_cons_succ, List.eraseIdx_cons_zero, List.getElem_cons_succ, List.getElem_cons_zero, List.insertIdx_zero, List.insertIdx_succ_cons, cat_two, cat_one, cat_nil, List.nil_append, List.cons_append, List.append_assoc, List.append_nil]
      refine EV.freeze ?_
      have ih3 := ih (i + 1, Mi.add (osg 55 ov ((rebGo f true ts[i]).flatMap encOp)), o', vs' ++ [osv ov (rebGo f true ts[i]).length]) ⟨by dsimp only; omega, PHeap.le_trans hMi (PHeap.le_add _ _), ho', by simp [hlen'], ?_⟩ (by dsimp only; omega)
      dsimp only at ih3
      refine EV.to ih3 ?_ (by (repeat' first | exact List.Sublist.refl _ | exact List.nil_sublist _ | exact List.sublist_append_left _ _ | refine List.Sublist.cons_cons _ ?_ | refine List.Sublist.append_left ?_ _ | refine List.sublist_append_of_sublist_right ?_ | refine List.Sublist.cons _ ?_))
      · repeat' first
          | (refine List.forall_mem_cons.2 (And.intro ?_ ?_))
          | (intro _ hnil; cases hnil; done)
          | rfl
          | (refine env_w64 rfl (by first | rfl | (push_cast; first | rfl | omega)) (by omega) (by omega); done)
          | fail
      · intro k hk1 hk2
        dsimp only at hk1 hk2 ⊢
        by_cases hkl : k < vs'.length
        · rw [List.getElem_append_left hkl]
          exact (hSl k hkl hk2).mono (PHeap.le_add _ _)
        · have : k = i := by simp at hk1; omega
          subst this
          rw [List.getElem_append_right (by omega)]
          simp only [hlen', Nat.sub_self, List.getElem_cons_zero]
          exact ⟨_, _, rfl, rd_osg hov (fun p hp => hp)⟩
  · have hi2 : i = ts.length := by omega
    subst hi2
    refine EV.permG ?_ (cat_pull [[_, _], osg 53 oq vs'] 1 (by simp))
    simp only [List.eraseIdx_cons_succ, List.eraseIdx_cons_zero, List.getElem_cons_succ, List.getElem_cons_zero, List.insertIdx_zero, List.insertIdx_succ_cons, cat_two, cat_one, cat_nil, List.nil_append, List.cons_append, List.append_assoc, List.append_nil]
    refine EV.freeze ?_
    refine EV.ret Q7_ok ?_
    simp only [push_cast, Int.cast_ofNat_Int, reduceIte, Nat.reduceEqDiff, reduceCtorEq, Nat.reduceAdd, Nat.reduceSub, Nat.reduceMul, Int.reduceToNat, Nat.reduceLeDiff, Q7]
    refine ⟨_, rd_own' 1 rfl rfl (by simp), _, rfl, oad oq, ocap oq, vs', by simp, by simpa using hlen', ?_, ?_⟩
    · simpa using rd_osg hoq (fun p hp => hp)
    · intro k h1 h2
      simp only [List.getElem_map]
      exact (hSl k h1 (by simpa using h2)).mono (PHeap.le_add _ _)

end
end Go.EV

namespace Go.EV
open Go.Proofs

def expT (l : List OpV) : List OpV := l.flatMap expOp

theorem rebGo_exp : ∀ (b : Bool) (l : List OpV), rebGo (fun o _ => expOp o) b l = expT l
  | _, [] => rfl
  | b, o :: l => by rw [rebGo, rebGo_exp]; simp [expT]

theorem checkP_zero {ts : List (List OpV)} (h : checkP ts = 0) : limitsP ts = true ∧ ts.length ≠ 0 ∧ ts.flatten.all okOp = true := by
  unfold checkP at h
  split at h
  · omega
  · split at h
    · omega
    · split at h
      · rename_i h1 h2 h3; exact ⟨by simpa using h1, h2, h3⟩
      · omega

theorem expOp_len (o : OpV) : (expOp o).length ≤ 3 := by
  unfold expOp; split <;> simp

section
variable {M : PHeap}

theorem exp_byC {l : List OpV} (hl : ∀ o ∈ l, okOp o = true) : ByC Try.prog 55 61 (fun o _ => expOp o) l := by
  intro M o b ho
  refine ⟨expOp_len o, (litmus_Expand_S1_c o b (hl o ho)).mono ?_⟩
  rintro v M' G' ⟨bb, rfl, rfl⟩
  refine ⟨some (bb, (expOp o).length, []), rfl, ⟨?_, ?_, Nat.le_refl _, ?_⟩, by simp [osg]⟩
  · rw [flatMap_length (sz := 5) (fun _ => rfl)]
  · rw [List.append_nil, flatMap_length (sz := 5) (fun _ => rfl)]
  · have := expOp_len o; simp only [maxLen]; omega

theorem litmus_Expand_c (ts : List (List OpV)) (s : Value) (hs : SlSl M 5 encOp s ts) (hb : ts.flatten.length < 1000000) (hb' : ts.length < 1000000) :
    Con Try.prog 27 #[.agg #[s]] M [] fun v M' _ => (checkP ts ≠ 0 ∧ v = .tuple #[.agg #[.slice none 0 0], vi (checkP ts)]) ∨ (checkP ts = 0 ∧ ∃ s', v = .tuple #[.agg #[s'], vi 0] ∧ SlSl M' 5 encOp s' (ts.map expT)) := by
  have hs0 := hs
  obtain ⟨a, c, vs, rfl, hl, hrd, hk⟩ := hs
  refine Con.enter Q1_ok (args := [.agg #[.slice a ts.length c]]) (by simp [Q1]) fun w0 => ?_
  simp only [Q1, argE]
  repeat' first
      | refine EV.seq ?_
      | refine EV.skip ?_
      | (refine EV.reg ?_; (conv => (arg 2; whnf)); simp only [push_cast, Int.cast_ofNat_Int, reduceIte, Nat.reduceEqDiff, reduceCtorEq, Nat.reduceAdd, Nat.reduceSub, Nat.reduceMul, Int.reduceToNat, Nat.reduceLeDiff])
      | (refine ConQ.call (litmus_Check_q _ _ (hs0.mono (PHeap.le_add _ _)) hb hb') ?_; try simp only [push_cast, Int.cast_ofNat_Int, reduceIte, Nat.reduceEqDiff, reduceCtorEq, Nat.reduceAdd, Nat.reduceSub, Nat.reduceMul, Int.reduceToNat, Nat.reduceLeDiff])
      | ((refine EV.cond rfl (fun h => ?_) (fun h => ?_) <;> try simp only [reduceCtorEq, reduceIte, if_true, if_false, Bool.not_eq_true', Bool.not_eq_false', decide_eq_true_eq, decide_eq_false_iff_not, Bool.and_eq_true, Bool.or_eq_true, Bool.and_eq_false_iff, Bool.or_eq_false_iff] at h) <;> try (exfalso; first | exact h True.intro | (exact h; done) | omega | (simp only [not_true_eq_false, false_or, or_false] at h; omega)))
      | (refine EV.ret Q1_ok ?_; simp only [push_cast, Int.cast_ofNat_Int, reduceIte, Nat.reduceEqDiff, reduceCtorEq, Nat.reduceAdd, Nat.reduceSub, Nat.reduceMul, Int.reduceToNat, Nat.reduceLeDiff, Q1])
      | ((first | with_reducible intro b | refine xr rfl (by simp only [List.length_cons, List.length_nil]; omega) ?_ | fail); try simp only [push_cast, Int.cast_ofNat_Int, reduceIte, Nat.reduceEqDiff, reduceCtorEq, Nat.reduceAdd, Nat.reduceSub, Nat.reduceMul, Int.reduceToNat, Nat.reduceLeDiff])
      | (refine xw ?_; simp only [push_cast, Int.cast_ofNat_Int, reduceIte, Nat.reduceEqDiff, reduceCtorEq, Nat.reduceAdd, Nat.reduceSub, Nat.reduceMul, Int.reduceToNat, Nat.reduceLeDiff])
      | fail
  · exact .inl h
  · obtain ⟨_, _, hall⟩ := checkP_zero h
    refine Con.callA (G1 := []) (litmus_rebuilt_c _ _ ts _ hs0 hb hb' (exp_byC (List.all_eq_true.1 hall))) (List.Perm.refl _) ?_
    rintro v M' G' hM' ⟨s', rfl, hs'⟩
    obtain ⟨a', c', vs', rfl, hr'⟩ := hs'
    simp only [push_cast, Int.cast_ofNat_Int, reduceIte, Nat.reduceEqDiff, reduceCtorEq, Nat.reduceAdd, Nat.reduceSub, Nat.reduceMul, Int.reduceToNat, Nat.reduceLeDiff]
    repeat' first
        | (refine EV.ret Q1_ok ?_; simp only [push_cast, Int.cast_ofNat_Int, reduceIte, Nat.reduceEqDiff, reduceCtorEq, Nat.reduceAdd, Nat.reduceSub, Nat.reduceMul, Int.reduceToNat, Nat.reduceLeDiff, Q1])
        | (refine xr rfl (by simp only [List.length_cons, List.length_nil]; omega) ?_; try simp only [push_cast, Int.cast_ofNat_Int, reduceIte, Nat.reduceEqDiff, reduceCtorEq, Nat.reduceAdd, Nat.reduceSub, Nat.reduceMul, Int.reduceToNat, Nat.reduceLeDiff])
        | (refine xw ?_; simp only [push_cast, Int.cast_ofNat_Int, reduceIte, Nat.reduceEqDiff, reduceCtorEq, Nat.reduceAdd, Nat.reduceSub, Nat.reduceMul, Int.reduceToNat, Nat.reduceLeDiff])
        | fail
    refine .inr ⟨h, _, rfl, ?_⟩
    have e : rebGo (fun o _ => expOp o) true = expT := funext fun l => rebGo_exp true l
    rw [← e]
    exact ⟨a', c', vs', rfl, hr'⟩
end
end Go.EV

namespace Go.EV

abbrev Vw := Nat → Int
structure Msg where
  word : Int
  view : Vw
  tied : Bool
structure Thr where
  now : Vw
  gained : Vw
  given : Vw
  read : List Int
  next : Nat
structure VM where
  prog : List (List OpV)
  msgs : List Msg
  line : Nat → List Int
  thr : List Thr
  all : Vw

def upd {α : Type} (f : Nat → α) (i : Nat) (x : α) : Nat → α := fun j => if j = i then x else f j
def noV : Vw := fun _ => -1
def place (line : Nat → List Int) (loc : Nat) (n : Int) : Nat := if n ∈ line loc then (line loc).idxOf n else 0
def joinV (line : Nat → List Int) (a b : Vw) : Vw := fun j => if 0 ≤ b j ∧ (a j < 0 ∨ place line j (a j) < place line j (b j)) then b j else a j

instance : Inhabited Msg := ⟨⟨0, noV, false⟩⟩
instance : Inhabited Thr := ⟨⟨noV, noV, noV, [], 0⟩⟩
instance : Inhabited OpV := ⟨⟨0, 0, 0, 0, 0⟩⟩

/-- The message at a place. -/
def VM.msgAt (m : VM) (loc at_ : Nat) : Msg := m.msgs[((m.line loc)[at_]!).toNat]!
def VM.bound (m : VM) (loc at_ : Nat) : Bool := decide (at_ + 1 < (m.line loc).length) && (m.msgAt loc (at_ + 1)).tied
def OpV.writes (o : OpV) (word : Int) : Bool := decide (o.kind = 1) || decide (o.kind = 2) || (decide (o.kind ≠ 0) && decide (word = o.v))
def VM.choicesAt (m : VM) (o : OpV) (at_ : Nat) : List (Nat × Bool) :=
  (if o.writes (m.msgAt o.loc.toNat at_).word && !m.bound o.loc.toNat at_ then [(at_, true)] else []) ++
  (if !o.writes (m.msgAt o.loc.toNat at_).word || decide (o.kind = 4) then [(at_, false)] else [])
def VM.choicesFrom (m : VM) (o : OpV) (lo n : Nat) : List (Nat × Bool) := (List.range n).flatMap fun k => m.choicesAt o (lo + k)
def VM.low (m : VM) (who : Nat) (o : OpV) : Nat := place m.line o.loc.toNat (m.thr[who]!.now o.loc.toNat)
def VM.choices (m : VM) (who : Nat) (o : OpV) : List (Nat × Bool) :=
  if o.kind = 5 then [(0, false)] else m.choicesFrom o (m.low who o) ((m.line o.loc.toNat).length - m.low who o)

def VM.turn (m : VM) (who : Int) : OpV × Int :=
  if who < 0 ∨ (m.thr.length : Int) ≤ who then (⟨0, 0, 0, 0, 0⟩, 1)
  else if m.thr[who.toNat]!.next = m.prog[who.toNat]!.length then (⟨0, 0, 0, 0, 0⟩, 7)
  else (m.prog[who.toNat]![m.thr[who.toNat]!.next]!, 0)

def VM.setThr (m : VM) (who : Nat) (t : Thr) : VM := { m with thr := m.thr.set who t }

def VM.reads (m : VM) (who : Nat) (number : Int) (o : OpV) : VM :=
  let t := m.thr[who]!
  let s := m.msgs[number.toNat]!
  let now1 := upd t.now o.loc.toNat number
  let now2 := if acqP o.ord then joinV m.line now1 s.view else now1
  m.setThr who { t with read := t.read ++ [s.word], now := now2, gained := joinV m.line (joinV m.line t.gained s.view) now2 }

def VM.writes (m : VM) (who at_ : Nat) (word : Int) (o : OpV) (tied : Bool) : VM :=
  let t := m.thr[who]!
  let l := o.loc.toNat
  let number : Int := m.msgs.length
  let front := (m.line l)[at_]!
  let line := upd m.line l ((m.line l).take (at_ + 1) ++ number :: (m.line l).drop (at_ + 1))
  let now := upd t.now l number
  let gained := joinV line t.gained now
  let v1 := if relP o.ord then now else t.given
  let v2 := if tied then joinV line v1 (m.msgs[front.toNat]!).view else v1
  { m with line := line, msgs := m.msgs ++ [⟨word, upd v2 l number, tied⟩], thr := m.thr.set who { t with now := now, gained := gained } }

def VM.fenced (m : VM) (who : Nat) (o : OpV) : VM :=
  let t := m.thr[who]!
  let now1 := if acqP o.ord then joinV m.line t.now t.gained else t.now
  let now2 := if o.ord = 4 then joinV m.line now1 m.all else now1
  { m with all := (if o.ord = 4 then now2 else m.all), thr := m.thr.set who { t with now := now2, gained := (if o.ord = 4 then joinV m.line t.gained now2 else t.gained), given := (if relP o.ord then now2 else t.given) } }

def VM.nexts (m : VM) (who : Nat) : VM := m.setThr who { m.thr[who]! with next := m.thr[who]!.next + 1 }

def VM.does (m : VM) (who : Nat) (o : OpV) (c : Nat × Bool) : VM :=
  let m := m.nexts who
  if o.kind = 5 then m.fenced who o
  else if o.kind = 1 then (if c.2 then m.writes who c.1 o.v o false else m)
  else
    let number := (m.line o.loc.toNat)[c.1]!
    let m1 := m.reads who number o
    let word := if o.kind = 2 then IntKind.i64.wrap ((m.msgs[number.toNat]!).word + o.v) else o.w
    if c.2 then m1.writes who c.1 word o true else m1

def VM.step (m : VM) (who number : Int) : VM × Int :=
  if (m.turn who).2 ≠ 0 then (m, (m.turn who).2)
  else if number < 0 ∨ ((m.choices who.toNat (m.turn who).1).length : Int) ≤ number then (m, 3)
  else (m.does who.toNat (m.turn who).1 ((m.choices who.toNat (m.turn who).1)[number.toNat]!), 0)

def VM.new (ts : List (List OpV)) : VM :=
  ⟨ts, [⟨0, upd noV 0 0, false⟩, ⟨0, upd noV 1 1, false⟩, ⟨0, upd noV 2 2, false⟩], fun l => if l < 3 then [(l : Int)] else [], ts.map fun _ => ⟨noV, noV, noV, [], 0⟩, noV⟩

end Go.EV

namespace Go.EV
open Go.Proofs

/-- Where a machine's parts lie. -/
structure Ad where
  pg : Option Addr
  pc : Nat
  mb : Nat
  mc : Nat
  lb : Nat → Nat
  lc : Nat → Nat
  tb : Nat
  tc : Nat
  ra : List (Option Addr × Nat)

def encV (v : Vw) : List Value := [vi (v 0), vi (v 1), vi (v 2)]
def encMsg (x : Msg) : List Value := [vi x.word, vi (x.view 0), vi (x.view 1), vi (x.view 2), vb x.tied]
def encThr (p : Thr × (Option Addr × Nat)) : List Value :=
  [vi (p.1.now 0), vi (p.1.now 1), vi (p.1.now 2), vi (p.1.gained 0), vi (p.1.gained 1), vi (p.1.gained 2), vi (p.1.given 0), vi (p.1.given 1), vi (p.1.given 2), .slice p.2.1 p.1.read.length p.2.2, vi p.1.next]
abbrev rowV (b n c : Nat) : Value := .slice (some ⟨b, 0, none⟩) n c
def hdr (ad : Ad) (m : VM) : List Value :=
  [.slice ad.pg m.prog.length ad.pc, rowV ad.mb m.msgs.length ad.mc, rowV (ad.lb 0) (m.line 0).length (ad.lc 0), rowV (ad.lb 1) (m.line 1).length (ad.lc 1), rowV (ad.lb 2) (m.line 2).length (ad.lc 2),
   rowV ad.tb m.thr.length ad.tc, vi (m.all 0), vi (m.all 1), vi (m.all 2)]

structure RdM (M : PHeap) (b : Nat) (ad : Ad) (m : VM) : Prop where
  hd : rd M b 0 9 (hdr ad m)
  pg : SlSl M 5 encOp (.slice ad.pg m.prog.length ad.pc) m.prog
  ms : rd M ad.mb 0 (m.msgs.length * 5) (m.msgs.flatMap encMsg)
  ln : ∀ l, l < 3 → rd M (ad.lb l) 0 (m.line l).length ((m.line l).map vi)
  th : rd M ad.tb 0 (m.thr.length * 11) ((m.thr.zip ad.ra).flatMap encThr)
  rl : ad.ra.length = m.thr.length
  rr : ∀ i (h : i < m.thr.length) (h' : i < ad.ra.length), rdS M 1 ad.ra[i].1 m.thr[i].read.length (m.thr[i].read.map vi)

theorem RdM.mono {M M' : PHeap} (h : M.le M') {b : Nat} {ad : Ad} {m : VM} (r : RdM M b ad m) : RdM M' b ad m :=
  ⟨r.hd.mono h, r.pg.mono h, r.ms.mono h, fun l hl => (r.ln l hl).mono h, r.th.mono h, r.rl, fun i hi hi' => (r.rr i hi hi').mono h⟩

theorem rd.part' {H : PHeap} {b off n : Nat} {cs out : List Value} (h : rd H b off n cs) (i k : Nat) (hm : i + k ≤ n) (e : (cs.drop i).take k = out) : rd H b (off + i) k out := e ▸ h.part hm
theorem rd.part0 {H : PHeap} {b n : Nat} {cs out : List Value} (h : rd H b 0 n cs) (i k : Nat) (hm : i + k ≤ n) (e : (cs.drop i).take k = out) : rd H b i k out := by
  have := h.part' i k hm e
  rwa [Nat.zero_add] at this

def okOpE (o : OpV) : Prop := 0 ≤ o.kind ∧ o.kind < 6 ∧ 0 ≤ o.loc ∧ o.loc < 3 ∧ isOrderP o.ord = true

/-- What holds of a machine at all times. -/
structure VM.Wf (m : VM) (B : Nat) : Prop where
  b0 : B < 1000000
  pl : m.prog.length = m.thr.length
  tp : 0 < m.thr.length
  t3 : m.thr.length ≤ 3
  nx : ∀ i, i < m.thr.length → m.thr[i]!.next ≤ m.prog[i]!.length
  po : ∀ l ∈ m.prog, ∀ o ∈ l, okOpE o
  pb : ∀ l ∈ m.prog, l.length < 1000000
  lp : ∀ l, l < 3 → 0 < (m.line l).length
  ll : ∀ l, l < 3 → (m.line l).length ≤ B
  ml : m.msgs.length ≤ B
  le : ∀ l, l < 3 → ∀ n ∈ m.line l, 0 ≤ n ∧ n < m.msgs.length
  rb : ∀ t ∈ m.thr, t.read.length ≤ B

section
variable {M : PHeap} {b : Nat} {ad : Ad} {m : VM} {B : Nat}

theorem RdM.f0 (r : RdM M b ad m) : rd M b 0 1 [.slice ad.pg m.prog.length ad.pc] := r.hd.part0 0 1 (by omega) rfl
theorem RdM.f1 (r : RdM M b ad m) : rd M b 1 1 [rowV ad.mb m.msgs.length ad.mc] := r.hd.part0 1 1 (by omega) rfl
theorem RdM.f5 (r : RdM M b ad m) : rd M b 5 1 [rowV ad.tb m.thr.length ad.tc] := r.hd.part0 5 1 (by omega) rfl
theorem RdM.f6 (r : RdM M b ad m) : rd M b 6 3 (encV m.all) := r.hd.part0 6 3 (by omega) rfl
theorem RdM.fl (r : RdM M b ad m) {l : Nat} (hl : l < 3) : rd M b (2 + l) 1 [rowV (ad.lb l) (m.line l).length (ad.lc l)] := by
  match l, hl with
  | 0, _ => exact r.hd.part0 2 1 (by omega) rfl
  | 1, _ => exact r.hd.part0 3 1 (by omega) rfl
  | 2, _ => exact r.hd.part0 4 1 (by omega) rfl

theorem getB {α : Type} [Inhabited α] {l : List α} {i : Nat} (h : i < l.length) : l[i]! = l[i] := getElem!_pos l i h

theorem RdM.msg (r : RdM M b ad m) {n : Nat} (hn : n < m.msgs.length) : rd M ad.mb (n * 5) 5 (encMsg m.msgs[n]!) := by
  have := r.ms.part0 (n * 5) 5 (by omega) (flatMap_part (enc := encMsg) (fun _ => rfl) hn)
  rwa [getB hn]

theorem RdM.word (r : RdM M b ad m) {n : Nat} (hn : n < m.msgs.length) : rd M ad.mb (n * 5) 1 [vi m.msgs[n]!.word] := (r.msg hn).part' 0 1 (by omega) rfl
theorem RdM.view (r : RdM M b ad m) {n : Nat} (hn : n < m.msgs.length) : rd M ad.mb (n * 5 + 1) 3 (encV m.msgs[n]!.view) := (r.msg hn).part' 1 3 (by omega) rfl
theorem RdM.tied (r : RdM M b ad m) {n : Nat} (hn : n < m.msgs.length) : rd M ad.mb (n * 5 + 4) 1 [vb m.msgs[n]!.tied] := (r.msg hn).part' 4 1 (by omega) rfl

theorem map_part {α : Type} [Inhabited α] (f : α → Value) : ∀ (l : List α) {i : Nat} (h : i < l.length), ((l.map f).drop i).take 1 = [f l[i]!]
  | x :: l, 0, _ => by simp
  | x :: l, i + 1, h => by
    have := map_part f l (i := i) (by simpa using h)
    simpa using this

theorem RdM.line (r : RdM M b ad m) {l i : Nat} (hl : l < 3) (hi : i < (m.line l).length) : rd M (ad.lb l) i 1 [vi (m.line l)[i]!] :=
  (r.ln l hl).part0 i 1 (by omega) (map_part vi _ hi)

theorem RdM.thr (r : RdM M b ad m) {i : Nat} (hi : i < m.thr.length) : rd M ad.tb (i * 11) 11 (encThr (m.thr[i]!, ad.ra[i]!)) := by
  have hz : (m.thr.zip ad.ra).length = m.thr.length := by simp [r.rl]
  have := r.th.part0 (i * 11) 11 (by omega) (flatMap_part (enc := encThr) (fun _ => rfl) (xs := m.thr.zip ad.ra) (i := i) (by omega))
  rw [getB hi, getB (by rw [r.rl]; exact hi)]
  simpa using this

theorem RdM.now (r : RdM M b ad m) {i : Nat} (hi : i < m.thr.length) : rd M ad.tb (i * 11) 3 (encV m.thr[i]!.now) := (r.thr hi).part' 0 3 (by omega) rfl
theorem RdM.nowAt (r : RdM M b ad m) {i l : Nat} (hi : i < m.thr.length) (hl : l < 3) : rd M ad.tb (i * 11 + l) 1 [vi (m.thr[i]!.now l)] := by
  match l, hl with
  | 0, _ => exact (r.thr hi).part' 0 1 (by omega) rfl
  | 1, _ => exact (r.thr hi).part' 1 1 (by omega) rfl
  | 2, _ => exact (r.thr hi).part' 2 1 (by omega) rfl
theorem RdM.gained (r : RdM M b ad m) {i : Nat} (hi : i < m.thr.length) : rd M ad.tb (i * 11 + 3) 3 (encV m.thr[i]!.gained) := (r.thr hi).part' 3 3 (by omega) rfl
theorem RdM.given (r : RdM M b ad m) {i : Nat} (hi : i < m.thr.length) : rd M ad.tb (i * 11 + 6) 3 (encV m.thr[i]!.given) := (r.thr hi).part' 6 3 (by omega) rfl
theorem RdM.read (r : RdM M b ad m) {i : Nat} (hi : i < m.thr.length) : rd M ad.tb (i * 11 + 9) 1 [.slice ad.ra[i]!.1 m.thr[i]!.read.length ad.ra[i]!.2] := (r.thr hi).part' 9 1 (by omega) rfl
theorem RdM.next (r : RdM M b ad m) {i : Nat} (hi : i < m.thr.length) : rd M ad.tb (i * 11 + 10) 1 [vi m.thr[i]!.next] := (r.thr hi).part' 10 1 (by omega) rfl

end
end Go.EV

namespace Go.EV
open Go.Proofs

def idxI (l : List Int) (x : Int) : Int := if x ∈ l then (l.idxOf x : Int) else -1

theorem idxI_at {l : List Int} {x : Int} {i : Nat} (hi : i < l.length) (h : x ∉ l.take i) (e : x = l[i]!) : idxI l x = i := by
  rw [getB hi] at e
  have hm : x ∈ l := e ▸ List.getElem_mem hi
  rw [idxI, if_pos hm]
  have h2 : l = l.take i ++ x :: l.drop (i + 1) := by
    rw [e, ← List.drop_eq_getElem_cons hi, List.take_append_drop]
  have h3 : l.idxOf x = i := by
    rw [h2, List.idxOf_append, if_neg h, List.idxOf_cons_self]
    simp; omega
  rw [h3]

theorem place_idx (line : Nat → List Int) (l : Nat) (n : Int) : (if 0 < idxI (line l) n then idxI (line l) n else 0) = (place line l n : Int) := by
  unfold place idxI
  split
  · split <;> omega
  · simp

section
variable {M : PHeap}

theorem slices_Index_q (l : List Int) (lb c : Nat) (x : Int) (hrow : rd M lb 0 l.length (l.map vi)) (hb : l.length < 1000000) : ConQ Try.prog 69 #[rowV lb l.length c, vi x] M (vi (idxI l x)) := by
  refine Con.enter Q61_ok (args := [rowV lb l.length c, vi x]) (by simp [Q61]) fun w0 => ?_
  simp only [Q61, argE]
  repeat' first
      | refine EV.seq ?_
      | refine EV.block ?_
      | (refine EV.reg ?_; (conv => (arg 2; whnf)); simp only [push_cast, Int.cast_ofNat_Int, reduceIte, Nat.reduceEqDiff, reduceCtorEq, Nat.reduceAdd, Nat.reduceSub, Nat.reduceMul, Int.reduceToNat, Nat.reduceLeDiff])
      | fail
  refine EV.to (ρ' := [(0, rowV lb l.length c), (1, vi x), (7, vi l.length), (8, vi (0 : Nat))]) (G' := []) ?_ ?env0 (by simp)
  case env0 =>
    repeat' first
      | (refine List.forall_mem_cons.2 (And.intro ?_ ?_))
      | (intro _ hnil; cases hnil; done)
      | rfl
      | fail
  refine EV.loop (fun i : Nat => ([(0, rowV lb l.length c), (1, vi x), (7, vi l.length), (8, vi i)], M, [])) (fun i => i ≤ l.length ∧ x ∉ l.take i) (fun i => l.length - i) 0 (by simp) ?_
  intro i ⟨hi, hok⟩ ih
  dsimp only at ih ⊢
  repeat' first
      | refine EV.seq ?_
      | refine EV.skip ?_
      | refine EV.block ?_
      | (refine EV.reg ?_; (conv => (arg 2; whnf)); simp only [push_cast, Int.cast_ofNat_Int, reduceIte, Nat.reduceEqDiff, reduceCtorEq, Nat.reduceAdd, Nat.reduceSub, Nat.reduceMul, Int.reduceToNat, Nat.reduceLeDiff])
      | ((refine EV.cond rfl (fun h => ?_) (fun h => ?_) <;> try simp only [reduceCtorEq, reduceIte, if_true, if_false, Bool.not_eq_true', Bool.not_eq_false', decide_eq_true_eq, decide_eq_false_iff_not, Bool.and_eq_true, Bool.or_eq_true, Bool.and_eq_false_iff, Bool.or_eq_false_iff] at h) <;> try (exfalso; first | exact h True.intro | (exact h; done) | omega | (simp only [not_true_eq_false, false_or, or_false] at h; omega)))
      | (refine EV.exit rfl ?_)
      | (refine And.intro (by omega) ?_)
      | fail
  · have hi' : i < l.length := by omega
    have hr := hrow.part0 i 1 (by omega) (map_part vi l hi')
    repeat' first
        | refine EV.seq ?_
        | refine EV.skip ?_
        | refine EV.inBlock ?_
        | (refine EV.reg ?_; (conv => (arg 2; whnf)); simp only [push_cast, Int.cast_ofNat_Int, reduceIte, Nat.reduceEqDiff, reduceCtorEq, Nat.reduceAdd, Nat.reduceSub, Nat.reduceMul, Int.reduceToNat, Nat.reduceLeDiff])
        | ((refine EV.cond rfl (fun h => ?_) (fun h => ?_) <;> try simp only [reduceCtorEq, reduceIte, if_true, if_false, Bool.not_eq_true', Bool.not_eq_false', decide_eq_true_eq, decide_eq_false_iff_not, Bool.and_eq_true, Bool.or_eq_true, Bool.and_eq_false_iff, Bool.or_eq_false_iff] at h) <;> try (exfalso; first | exact h True.intro | (exact h; done) | omega | (simp only [not_true_eq_false, false_or, or_false] at h; omega)))
        | (refine EV.ret Q61_ok ?_; simp only [push_cast, Int.cast_ofNat_Int, reduceIte, Nat.reduceEqDiff, reduceCtorEq, Nat.reduceAdd, Nat.reduceSub, Nat.reduceMul, Int.reduceToNat, Nat.reduceLeDiff, Q61])
        | (refine Exists.intro _ (And.intro (rd_M (by assumption)) ?_); try simp only [push_cast, Int.cast_ofNat_Int, reduceIte, Nat.reduceEqDiff, reduceCtorEq, Nat.reduceAdd, Nat.reduceSub, Nat.reduceMul, Int.reduceToNat, Nat.reduceLeDiff])
        | fail
    · rw [idxI_at hi' hok h]
    · refine EV.to (ih (i + 1) ⟨by omega, ?_⟩ (by omega)) ?_ (by simp)
      · rw [List.take_succ_eq_append_getElem hi', ← getB hi']
        simp only [List.mem_append, List.mem_singleton, not_or]
        exact ⟨hok, h⟩
      · repeat' first
          | (refine List.forall_mem_cons.2 (And.intro ?_ ?_))
          | (intro _ hnil; cases hnil; done)
          | rfl
          | (refine env_w64 rfl (by first | rfl | (push_cast; first | rfl | omega)) (by omega) (by omega); done)
          | fail
  · repeat' first
      | (refine EV.ret Q61_ok ?_; simp only [push_cast, Int.cast_ofNat_Int, reduceIte, Nat.reduceEqDiff, reduceCtorEq, Nat.reduceAdd, Nat.reduceSub, Nat.reduceMul, Int.reduceToNat, Nat.reduceLeDiff, Q61])
      | fail
    have hi3 : i = l.length := by omega
    subst hi3
    rw [List.take_length] at hok
    rw [idxI, if_neg hok]

variable {mp : Nat} {ad : Ad} {m : VM} {B : Nat}

theorem view_there_q (r : RdM M mp ad m) (wf : m.Wf B) : ConQ Try.prog 32 #[pv mp 0] M (vb true) := by
  have h5 := r.f5
  have ht := wf.tp
  refine Con.enter Q85_ok (args := [pv mp 0]) (by simp [Q85]) fun w0 => ?_
  simp only [Q85, argE]
  repeat' first
      | refine EV.seq ?_
      | (refine EV.reg ?_; (conv => (arg 2; whnf)); simp only [push_cast, Int.cast_ofNat_Int, reduceIte, Nat.reduceEqDiff, reduceCtorEq, Nat.reduceAdd, Nat.reduceSub, Nat.reduceMul, Int.reduceToNat, Nat.reduceLeDiff])
      | assumption
      | (refine condW.merge ?_ (fun hc K' hK => ?_) ?_; rotate_left)
      | (refine EV.ret Q85_ok ?_; simp only [push_cast, Int.cast_ofNat_Int, reduceIte, Nat.reduceEqDiff, reduceCtorEq, Nat.reduceAdd, Nat.reduceSub, Nat.reduceMul, Int.reduceToNat, Nat.reduceLeDiff, Q85])
      | (refine Exists.intro _ (Exists.intro _ (Exists.intro _ (And.intro (rd_M (by assumption)) ?_))); try simp only [push_cast, Int.cast_ofNat_Int, reduceIte, Nat.reduceEqDiff, reduceCtorEq, Nat.reduceAdd, Nat.reduceSub, Nat.reduceMul, Int.reduceToNat, Nat.reduceLeDiff])
      | fail
  all_goals (first | (simp; omega) | fail)

theorem view_there_nil_q : ConQ Try.prog 32 #[.pointer none] M (vb false) := by
  refine Con.enter Q85_ok (args := [.pointer none]) (by simp [Q85]) fun w0 => ?_
  simp only [Q85, argE]
  repeat' first
      | refine EV.seq ?_
      | (refine EV.reg ?_; (conv => (arg 2; whnf)); simp only [push_cast, Int.cast_ofNat_Int, reduceIte, Nat.reduceEqDiff, reduceCtorEq, Nat.reduceAdd, Nat.reduceSub, Nat.reduceMul, Int.reduceToNat, Nat.reduceLeDiff])
      | (refine condW.merge ?_ (fun hc K' hK => ?_) ?_; rotate_left)
      | (refine EV.ret Q85_ok ?_; simp only [push_cast, Int.cast_ofNat_Int, reduceIte, Nat.reduceEqDiff, reduceCtorEq, Nat.reduceAdd, Nat.reduceSub, Nat.reduceMul, Int.reduceToNat, Nat.reduceLeDiff, Q85])
      | (exfalso; simp at hc; done)
      | exact false
      | fail
  all_goals (first | rfl | simp | fail)

/-- The lines, as they are read. -/
def RdL (M : PHeap) (mp : Nat) (line : Nat → List Int) : Prop :=
  ∀ l, l < 3 → ∃ lb lc, rd M mp (2 + l) 1 [rowV lb (line l).length lc] ∧ rd M lb 0 (line l).length ((line l).map vi) ∧ (line l).length < 1000000

theorem RdM.toL (r : RdM M mp ad m) (wf : m.Wf B) : RdL M mp m.line := fun l hl =>
  ⟨_, _, r.fl hl, r.ln l hl, by have := wf.ll l hl; have := wf.b0; omega⟩

theorem RdL.mono {M' : PHeap} {line : Nat → List Int} (h : M.le M') (r : RdL M mp line) : RdL M' mp line := fun l hl =>
  let ⟨lb, lc, h1, h2, h3⟩ := r l hl; ⟨lb, lc, h1.mono h, h2.mono h, h3⟩

theorem view_place_l {line : Nat → List Int} (r : RdL M mp line) {l : Nat} (hl : l < 3) (n : Int) : ConQ Try.prog 33 #[pv mp 0, vi l, vi n] M (vi (place line l n)) := by
  obtain ⟨lb, lc, h2, hln, hb⟩ := r l hl
  refine Con.enter Q83_ok (args := [pv mp 0, vi l, vi n]) (by simp [Q83]) fun w0 => ?_
  simp only [Q83, argE]
  repeat' first
      | refine EV.seq ?_
      | (refine EV.reg ?_; (conv => (arg 2; whnf)); simp only [push_cast, Int.cast_ofNat_Int, reduceIte, Nat.reduceEqDiff, reduceCtorEq, Nat.reduceAdd, Nat.reduceSub, Nat.reduceMul, Int.reduceToNat, Nat.reduceLeDiff])
      | (refine ConQ.call (slices_Index_q _ _ _ _ (rd_M hln) (by omega)) ?_; try simp only [push_cast, Int.cast_ofNat_Int, reduceIte, Nat.reduceEqDiff, reduceCtorEq, Nat.reduceAdd, Nat.reduceSub, Nat.reduceMul, Int.reduceToNat, Nat.reduceLeDiff])
      | (refine EV.ret Q83_ok ?_; simp only [push_cast, Int.cast_ofNat_Int, reduceIte, Nat.reduceEqDiff, reduceCtorEq, Nat.reduceAdd, Nat.reduceSub, Nat.reduceMul, Int.reduceToNat, Nat.reduceLeDiff, Q83])
      | (refine And.intro (by omega) ?_)
      | (refine Exists.intro _ (Exists.intro _ (Exists.intro _ (And.intro (rd_M (by assumption)) ?_))); try simp only [push_cast, Int.cast_ofNat_Int, reduceIte, Nat.reduceEqDiff, reduceCtorEq, Nat.reduceAdd, Nat.reduceSub, Nat.reduceMul, Int.reduceToNat, Nat.reduceLeDiff])
      | fail
  all_goals (first | (rw [← place_idx]; done) | fail)

theorem view_place_q (r : RdM M mp ad m) (wf : m.Wf B) {l : Nat} (hl : l < 3) (n : Int) : ConQ Try.prog 33 #[pv mp 0, vi l, vi n] M (vi (place m.line l n)) :=
  view_place_l (r.toL wf) hl n

theorem view_bound_q (r : RdM M mp ad m) (wf : m.Wf B) {l i : Nat} (hl : l < 3) (hi : i < (m.line l).length) : ConQ Try.prog 65 #[pv mp 0, vi l, vi i] M (vb (m.bound l i)) := by
  have h2 := r.fl hl
  have h1 := r.f1
  have hb := wf.ll l hl
  have hb0 := wf.b0
  have hln : i + 1 < (m.line l).length → rd M (ad.lb l) (i + 1) 1 [vi (m.line l)[i + 1]!] ∧ 0 ≤ (m.line l)[i + 1]! ∧ (m.line l)[i + 1]! < m.msgs.length ∧ rd M ad.mb ((m.line l)[i+1]!.toNat * 5 + 4) 1 [vb (m.msgAt l (i + 1)).tied] := by
    intro h
    have hm := wf.le l hl ((m.line l)[i + 1]!) (by rw [getB h]; exact List.getElem_mem h)
    exact ⟨r.line hl h, hm.1, hm.2, r.tied (by omega)⟩
  refine Con.enter Q76_ok (args := [pv mp 0, vi l, vi i]) (by simp [Q76]) fun w0 => ?_
  simp only [Q76, argE]
  have hw : IntKind.i64.wrap ((i : Int) + 1) = ((i + 1 : Nat) : Int) := by rw [w64 (by omega) (by omega)]; omega
  by_cases h1 : i + 1 < (m.line l).length
  · obtain ⟨k1, k2, k3, k4⟩ := hln h1
    repeat' first
        | refine EV.seq ?_
        | ((first | refine EV.reg ?_ | refine EV.any _ (List.Sublist.refl _) ?_ | fail); (conv => (arg 2; whnf)); simp only [push_cast, Int.cast_ofNat_Int, reduceIte, Nat.reduceEqDiff, reduceCtorEq, Nat.reduceAdd, Nat.reduceSub, Nat.reduceMul, Int.reduceToNat, Nat.reduceLeDiff, hw, h1])
        | (refine condQ.mk ?_ (fun hc => ?_) ?_; rotate_left; (try simp only [decide_eq_true_eq, decide_eq_false_iff_not, Bool.not_eq_true', Bool.not_eq_false', Bool.and_eq_true, Bool.or_eq_true, Bool.and_eq_false_iff, Bool.or_eq_false_iff] at hc))
        | (with_reducible rfl)
        | (refine EV.ret Q76_ok ?_; simp only [push_cast, Int.cast_ofNat_Int, reduceIte, Nat.reduceEqDiff, reduceCtorEq, Nat.reduceAdd, Nat.reduceSub, Nat.reduceMul, Int.reduceToNat, Nat.reduceLeDiff, hw, h1, Q76])
        | (refine And.intro (by omega) ?_)
        | ((first | refine Exists.intro _ (And.intro (rd_M (by assumption)) ?_) | refine Exists.intro _ (Exists.intro _ (Exists.intro _ (And.intro (rd_M (by assumption)) ?_))) | fail); try simp only [push_cast, Int.cast_ofNat_Int, reduceIte, Nat.reduceEqDiff, reduceCtorEq, Nat.reduceAdd, Nat.reduceSub, Nat.reduceMul, Int.reduceToNat, Nat.reduceLeDiff, hw, h1])
        | fail
    simp only [VM.bound, vb, ← Int.natCast_one, ← Int.natCast_add, Int.ofNat_lt]
  · repeat' first
      | refine EV.seq ?_
      | ((first | refine EV.reg ?_ | refine EV.any _ (List.Sublist.refl _) ?_ | fail); (conv => (arg 2; whnf)); simp only [push_cast, Int.cast_ofNat_Int, reduceIte, Nat.reduceEqDiff, reduceCtorEq, Nat.reduceAdd, Nat.reduceSub, Nat.reduceMul, Int.reduceToNat, Nat.reduceLeDiff, hw, h1])
      | (refine condQ.mk ?_ (fun hc => ?_) ?_; rotate_left; (try simp only [decide_eq_true_eq, decide_eq_false_iff_not, Bool.not_eq_true', Bool.not_eq_false', Bool.and_eq_true, Bool.or_eq_true, Bool.and_eq_false_iff, Bool.or_eq_false_iff] at hc))
      | (refine EV.ret Q76_ok ?_; simp only [push_cast, Int.cast_ofNat_Int, reduceIte, Nat.reduceEqDiff, reduceCtorEq, Nat.reduceAdd, Nat.reduceSub, Nat.reduceMul, Int.reduceToNat, Nat.reduceLeDiff, hw, h1, Q76])
      | (refine And.intro (by omega) ?_)
      | (refine Exists.intro _ (Exists.intro _ (Exists.intro _ (And.intro (rd_M (by assumption)) ?_))); try simp only [push_cast, Int.cast_ofNat_Int, reduceIte, Nat.reduceEqDiff, reduceCtorEq, Nat.reduceAdd, Nat.reduceSub, Nat.reduceMul, Int.reduceToNat, Nat.reduceLeDiff, hw, h1])
      | (exfalso; omega)
      | exact false
      | fail
    simp [VM.bound, h1]


theorem V3.cases (p : Nat → Prop) (h0 : p 0) (h1 : p 1) (h2 : p 2) : ∀ l, l < 3 → p l
  | 0, _ => h0
  | 1, _ => h1
  | 2, _ => h2

theorem encV_at (v : Vw) {l : Nat} (hl : l < 3) : ((encV v).drop l).take 1 = [vi (v l)] := by
  match l, hl with
  | 0, _ => rfl
  | 1, _ => rfl
  | 2, _ => rfl

theorem encV_set (v : Vw) {l : Nat} (hl : l < 3) (x : Int) : splice (encV v) l [vi x] = encV (upd v l x) := by
  match l, hl with
  | 0, _ => rfl
  | 1, _ => rfl
  | 2, _ => rfl

theorem encV_len (v : Vw) : (encV v).length = 3 := rfl
theorem ok1_encV (v : Vw) : ok1 (encV v) ↔ True := by simp [encV, ok1_cons, ok1_nil, Value.oneCell']

/-- The join of the first places. -/
def joinU (line : Nat → List Int) (x y : Vw) (i : Nat) : Vw := fun j => if j < i then joinV line x y j else x j

set_option maxHeartbeats 4000000 in
set_option maxRecDepth 8000 in
theorem view_join_l {line : Nat → List Int} (r : RdL M mp line) (x y : Vw) : ConQ Try.prog 83 #[pv mp 0, .agg (encV x).toArray, .agg (encV y).toArray] M (.agg (encV (joinV line x y)).toArray) := by
  refine Con.enter Q80_ok (args := [pv mp 0, .agg (encV x).toArray, .agg (encV y).toArray]) (by simp [Q80]) fun w0 => ?_
  simp only [Q80, argE]
  repeat' first
      | refine EV.seq ?_
      | refine EV.block ?_
      | (refine EV.reg ?_; (conv => (arg 2; whnf)); simp only [push_cast, Int.cast_ofNat_Int, reduceIte, Nat.reduceEqDiff, reduceCtorEq, Nat.reduceAdd, Nat.reduceSub, Nat.reduceMul, Int.reduceToNat, Nat.reduceLeDiff])
      | (with_reducible intro b; try simp only [push_cast, Int.cast_ofNat_Int, reduceIte, Nat.reduceEqDiff, reduceCtorEq, Nat.reduceAdd, Nat.reduceSub, Nat.reduceMul, Int.reduceToNat, Nat.reduceLeDiff])
      | fail
  rename_i b4 b5
  refine EV.permG ?_ (cat_pull [[_], [_], [_]] 1 (by simp))
  simp only [List.eraseIdx_cons_succ, List.eraseIdx_cons_zero, List.getElem_cons_succ, List.getElem_cons_zero, List.insertIdx_zero, List.insertIdx_succ_cons, cat_two, cat_one, cat_nil, List.nil_append, List.cons_append, List.append_assoc, List.append_nil]
  refine EV.freeze (G₁ := [_]) ?_
  generalize hN : M.add [(b5, Cl 59 (encV y))] = N
  have hMN : M.le N := hN ▸ PHeap.le_add _ _
  have hy : ∀ i, i < 3 → rd N b5 i 1 [vi (y i)] := fun i hi => hN ▸ rd_own' 0 rfl (encV_at y hi) (by simp only [encV, List.length_cons, List.length_nil]; omega)
  clear hN
  have rN := r.mono hMN
  refine EV.to (ρ' := [(0, pv mp 0), (4, pv b4 0), (5, pv b5 0), (6, pv b 0), (8, vi (0 : Nat))]) (G' := [(b, Cl 59 [vi 0, vi 0, vi 0]), (b4, Cl 59 (encV x))]) ?_ ?env0 (by (repeat' first | exact List.Sublist.refl _ | exact List.nil_sublist _ | exact List.sublist_append_left _ _ | refine List.Sublist.cons_cons _ ?_ | refine List.Sublist.append_left ?_ _ | refine List.sublist_append_of_sublist_right ?_ | refine List.Sublist.cons _ ?_))
  case env0 =>
    repeat' first
      | (refine List.forall_mem_cons.2 (And.intro ?_ ?_))
      | (intro _ hnil; cases hnil; done)
      | rfl
      | fail
  refine EV.loop (fun i : Nat => ([(0, pv mp 0), (4, pv b4 0), (5, pv b5 0), (6, pv b 0), (8, vi i)], N, [(b, Cl 59 [vi 0, vi 0, vi 0]), (b4, Cl 59 (encV (joinU line x y i)))])) (fun i => i ≤ 3) (fun i => 3 - i) 0 (by simp) ?_
  intro i hi ih
  dsimp only at ih ⊢
  repeat' first
      | refine EV.seq ?_
      | refine EV.skip ?_
      | refine EV.block ?_
      | ((first | refine EV.reg ?_ | refine EV.any _ (List.Sublist.refl _) ?_ | fail); (conv => (arg 2; whnf)); simp only [push_cast, Int.cast_ofNat_Int, reduceIte, Nat.reduceEqDiff, reduceCtorEq, Nat.reduceAdd, Nat.reduceSub, Nat.reduceMul, Int.reduceToNat, Nat.reduceLeDiff])
      | ((refine EV.cond rfl (fun h => ?_) (fun h => ?_) <;> try simp only [reduceCtorEq, reduceIte, if_true, if_false, Bool.not_eq_true', Bool.not_eq_false', decide_eq_true_eq, decide_eq_false_iff_not, Bool.and_eq_true, Bool.or_eq_true, Bool.and_eq_false_iff, Bool.or_eq_false_iff] at h) <;> try (exfalso; first | exact h True.intro | (exact h; done) | omega | (simp only [not_true_eq_false, false_or, or_false] at h; omega)))
      | (refine EV.exit rfl ?_)
      | (refine And.intro (by omega) ?_)
      | fail
  · have hi' : i < 3 := by omega
    have hyi := hy i hi'
    have hxi : rd (N.add [(b, Cl 59 [vi 0, vi 0, vi 0]), (b4, Cl 59 (encV (joinU line x y i)))]) b4 i 1 [vi (joinU line x y i i)] := rd_own' 1 rfl (encV_at _ hi') (by simp only [encV, List.length_cons, List.length_nil]; omega)
    repeat' first
        | refine EV.skip ?_
        | refine EV.inBlock ?_
        | (refine EV.reg ?_; (conv => (arg 2; whnf)); simp only [push_cast, Int.cast_ofNat_Int, reduceIte, Nat.reduceEqDiff, reduceCtorEq, Nat.reduceAdd, Nat.reduceSub, Nat.reduceMul, Int.reduceToNat, Nat.reduceLeDiff, encV_len, ok1_encV])
        | (refine Exists.intro _ (And.intro (view_place_l (rN.mono (PHeap.le_add _ _)) hi' _) ?_); try simp only [push_cast, Int.cast_ofNat_Int, reduceIte, Nat.reduceEqDiff, reduceCtorEq, Nat.reduceAdd, Nat.reduceSub, Nat.reduceMul, Int.reduceToNat, Nat.reduceLeDiff, encV_len, ok1_encV])
        | (refine condQ.mk ?_ (fun hc => ?_) ?_; rotate_left; (try simp only [decide_eq_true_eq, decide_eq_false_iff_not, Bool.not_eq_true', Bool.not_eq_false', Bool.and_eq_true, Bool.or_eq_true, Bool.and_eq_false_iff, Bool.or_eq_false_iff] at hc))
        | (with_reducible rfl)
        | ((refine EV.cond rfl (fun h => ?_) (fun h => ?_) <;> try simp only [reduceCtorEq, reduceIte, if_true, if_false, Bool.not_eq_true', Bool.not_eq_false', decide_eq_true_eq, decide_eq_false_iff_not, Bool.and_eq_true, Bool.or_eq_true, Bool.and_eq_false_iff, Bool.or_eq_false_iff] at h) <;> try (exfalso; first | exact h True.intro | (exact h; done) | omega | (simp only [not_true_eq_false, false_or, or_false] at h; omega)))
        | (refine And.intro (by omega) ?_)
        | ((first | refine Exists.intro _ (And.intro (rd_M (by assumption)) ?_) | refine Exists.intro _ (And.intro (by assumption) ?_) | fail); try simp only [push_cast, Int.cast_ofNat_Int, reduceIte, Nat.reduceEqDiff, reduceCtorEq, Nat.reduceAdd, Nat.reduceSub, Nat.reduceMul, Int.reduceToNat, Nat.reduceLeDiff, encV_len, ok1_encV])
        | (refine xw ?_; simp only [push_cast, Int.cast_ofNat_Int, reduceIte, Nat.reduceEqDiff, reduceCtorEq, Nat.reduceAdd, Nat.reduceSub, Nat.reduceMul, Int.reduceToNat, Nat.reduceLeDiff, encV_len, ok1_encV])
        | fail
    · have e : (encV (joinU line x y i)).take i ++ Value.int IntKind.i64 (y i) :: (encV (joinU line x y i)).drop (i + 1) = encV (joinU line x y (i + 1)) := by
        have h2 := encV_set (joinU line x y i) hi' (y i)
        simp only [splice, List.length_singleton, List.append_assoc, List.singleton_append] at h2
        rw [h2]
        congr 1
        funext j
        simp only [upd, joinU]
        by_cases hj : j = i
        · subst hj
          have hh : 0 ≤ y j ∧ (x j < 0 ∨ place line j (x j) < place line j (y j)) := by
            simp only [joinU, Nat.lt_irrefl, if_false] at h
            exact ⟨h.1, h.2.imp id (by omega)⟩
          rw [if_pos rfl, if_pos (by omega), joinV, if_pos hh]
        · have : j < i + 1 ↔ j < i := by omega
          simp only [hj, this, if_false]
      rw [e]
      refine EV.to (ih (i + 1) (by omega) (by omega)) ?_ (by (repeat' first | exact List.Sublist.refl _ | exact List.nil_sublist _ | exact List.sublist_append_left _ _ | refine List.Sublist.cons_cons _ ?_ | refine List.Sublist.append_left ?_ _ | refine List.sublist_append_of_sublist_right ?_ | refine List.Sublist.cons _ ?_))
      repeat' first
        | (refine List.forall_mem_cons.2 (And.intro ?_ ?_))
        | (intro _ hnil; cases hnil; done)
        | rfl
        | (refine env_w64 rfl (by first | rfl | (push_cast; first | rfl | omega)) (by omega) (by omega); done)
        | fail
    · have e : joinU line x y i = joinU line x y (i + 1) := by
        funext j
        simp only [joinU]
        by_cases hj : j = i
        · subst hj
          have hh : ¬ (0 ≤ y j ∧ (x j < 0 ∨ place line j (x j) < place line j (y j))) := by
            simp only [joinU, Nat.lt_irrefl, if_false] at h
            omega
          rw [if_neg (by omega), if_pos (by omega), joinV, if_neg hh]
        · have : j < i + 1 ↔ j < i := by omega
          simp only [this]
      rw [e]
      refine EV.to (ih (i + 1) (by omega) (by omega)) ?_ (by (repeat' first | exact List.Sublist.refl _ | exact List.nil_sublist _ | exact List.sublist_append_left _ _ | refine List.Sublist.cons_cons _ ?_ | refine List.Sublist.append_left ?_ _ | refine List.sublist_append_of_sublist_right ?_ | refine List.Sublist.cons _ ?_))
      repeat' first
        | (refine List.forall_mem_cons.2 (And.intro ?_ ?_))
        | (intro _ hnil; cases hnil; done)
        | rfl
        | (refine env_w64 rfl (by first | rfl | (push_cast; first | rfl | omega)) (by omega) (by omega); done)
        | fail
  · have hi' : i = 3 := by omega
    subst hi'
    have hx3 : rd (N.add [(b, Cl 59 [vi 0, vi 0, vi 0]), (b4, Cl 59 (encV (joinU line x y 3)))]) b4 0 3 (encV (joinU line x y 3)) := rd_own' 1 rfl rfl (by simp [encV])
    repeat' first
        | (refine EV.ret Q80_ok ?_; simp only [push_cast, Int.cast_ofNat_Int, reduceIte, Nat.reduceEqDiff, reduceCtorEq, Nat.reduceAdd, Nat.reduceSub, Nat.reduceMul, Int.reduceToNat, Nat.reduceLeDiff, encV_len, ok1_encV, Q80])
        | (refine Exists.intro _ (And.intro (by assumption) ?_); try simp only [push_cast, Int.cast_ofNat_Int, reduceIte, Nat.reduceEqDiff, reduceCtorEq, Nat.reduceAdd, Nat.reduceSub, Nat.reduceMul, Int.reduceToNat, Nat.reduceLeDiff, encV_len, ok1_encV])
        | (refine xw ?_; simp only [push_cast, Int.cast_ofNat_Int, reduceIte, Nat.reduceEqDiff, reduceCtorEq, Nat.reduceAdd, Nat.reduceSub, Nat.reduceMul, Int.reduceToNat, Nat.reduceLeDiff, encV_len, ok1_encV])
        | fail
    refine ⟨_, rd_own' 0 rfl rfl (by simp [encV]), ?_⟩
    simp [encV, joinU]

end
end Go.EV

namespace Go.EV
open Go.Proofs
section
variable {M : PHeap} {mp : Nat} {ad : Ad} {m : VM} {B : Nat}

abbrev opZ : OpV := ⟨0, 0, 0, 0, 0⟩

theorem turn_bad {who : Int} (h : who < 0 ∨ (m.thr.length : Int) ≤ who) : m.turn who = (opZ, 1) := by simp only [VM.turn, if_pos h]
theorem turn_over {w : Nat} (h : w < m.thr.length) (h2 : m.thr[w]!.next = m.prog[w]!.length) : m.turn w = (opZ, 7) := by
  simp only [VM.turn]
  rw [if_neg (by omega), Int.toNat_natCast, if_pos h2]
theorem turn_ok {w : Nat} (h : w < m.thr.length) (h2 : m.thr[w]!.next ≠ m.prog[w]!.length) : m.turn w = (m.prog[w]![m.thr[w]!.next]!, 0) := by
  simp only [VM.turn]
  rw [if_neg (by omega), Int.toNat_natCast, if_neg h2]

theorem view_turn_q (r : RdM M mp ad m) (wf : m.Wf B) (who : Int) : ConQ Try.prog 29 #[pv mp 0, vi who] M (.tuple #[vop (m.turn who).1, vi (m.turn who).2]) := by
  have h0 := r.f0
  have h5 := r.f5
  refine Con.enter Q86_ok (args := [pv mp 0, vi who]) (by simp [Q86]) fun w0 => ?_
  simp only [Q86, argE]
  by_cases hw : who < 0 ∨ (m.thr.length : Int) ≤ who
  · rw [turn_bad hw]
    repeat' first
        | refine EV.seq ?_
        | (refine EV.reg ?_; (conv => (arg 2; whnf)); simp only [push_cast, Int.cast_ofNat_Int, reduceIte, Nat.reduceEqDiff, reduceCtorEq, Nat.reduceAdd, Nat.reduceSub, Nat.reduceMul, Int.reduceToNat, Nat.reduceLeDiff])
        | (refine ConQ.call (view_there_q (r.mono (PHeap.le_add _ _)) wf) ?_; try simp only [push_cast, Int.cast_ofNat_Int, reduceIte, Nat.reduceEqDiff, reduceCtorEq, Nat.reduceAdd, Nat.reduceSub, Nat.reduceMul, Int.reduceToNat, Nat.reduceLeDiff])
        | assumption
        | (refine condW.merge ?_ (fun hc K' hK => ?_) ?_; rotate_left)
        | ((refine EV.cond rfl (fun h => ?_) (fun h => ?_) <;> try simp only [reduceCtorEq, reduceIte, if_true, if_false, Bool.not_eq_true', Bool.not_eq_false', decide_eq_true_eq, decide_eq_false_iff_not, Bool.and_eq_true, Bool.or_eq_true, Bool.and_eq_false_iff, Bool.or_eq_false_iff] at h) <;> try (exfalso; first | exact h True.intro | (exact h; done) | omega | (simp only [not_true_eq_false, false_or, or_false] at h; omega)))
        | (refine EV.ret Q86_ok ?_; simp only [push_cast, Int.cast_ofNat_Int, reduceIte, Nat.reduceEqDiff, reduceCtorEq, Nat.reduceAdd, Nat.reduceSub, Nat.reduceMul, Int.reduceToNat, Nat.reduceLeDiff, Q86])
        | ((first | with_reducible intro b | refine Exists.intro _ (Exists.intro _ (Exists.intro _ (And.intro (rd_M (by assumption)) ?_))) | refine xr rfl (by simp only [List.length_cons, List.length_nil]; omega) ?_ | fail); try simp only [push_cast, Int.cast_ofNat_Int, reduceIte, Nat.reduceEqDiff, reduceCtorEq, Nat.reduceAdd, Nat.reduceSub, Nat.reduceMul, Int.reduceToNat, Nat.reduceLeDiff])
        | (refine xw ?_; simp only [push_cast, Int.cast_ofNat_Int, reduceIte, Nat.reduceEqDiff, reduceCtorEq, Nat.reduceAdd, Nat.reduceSub, Nat.reduceMul, Int.reduceToNat, Nat.reduceLeDiff])
        | fail
    all_goals (first | rfl | omega | (exfalso; simp only [false_or, or_false] at h; omega) | fail)
  · obtain ⟨w, rfl⟩ : ∃ w : Nat, who = w := ⟨who.toNat, by omega⟩
    have hwt : w < m.thr.length := by omega
    obtain ⟨a, c, vs, he, hl, hrd, hk⟩ := r.pg
    cases he
    obtain ⟨pb, po, epg, hat⟩ := SlSl.at hrd hl hk (by have := wf.pl; omega)
    obtain ⟨a', c', hr1, hr2⟩ := hat w (by have := wf.pl; omega)
    simp only [Nat.mul_one, ← getB (show w < m.prog.length by have := wf.pl; omega)] at hr1 hr2
    rw [epg] at h0
    have hnx := r.next hwt
    have hnl := wf.nx w hwt
    have hpl := wf.pl
    by_cases h2 : m.thr[w]!.next = m.prog[w]!.length
    · rw [turn_over hwt h2]
      repeat' first
          | refine EV.seq ?_
          | refine EV.skip ?_
          | (refine EV.reg ?_; (conv => (arg 2; whnf)); simp only [push_cast, Int.cast_ofNat_Int, reduceIte, Nat.reduceEqDiff, reduceCtorEq, Nat.reduceAdd, Nat.reduceSub, Nat.reduceMul, Int.reduceToNat, Nat.reduceLeDiff])
          | (refine ConQ.call (view_there_q (r.mono (PHeap.le_add _ _)) wf) ?_; try simp only [push_cast, Int.cast_ofNat_Int, reduceIte, Nat.reduceEqDiff, reduceCtorEq, Nat.reduceAdd, Nat.reduceSub, Nat.reduceMul, Int.reduceToNat, Nat.reduceLeDiff])
          | assumption
          | (refine condW.merge ?_ (fun hc K' hK => ?_) ?_; rotate_left)
          | ((refine EV.cond rfl (fun h => ?_) (fun h => ?_) <;> try simp only [reduceCtorEq, reduceIte, if_true, if_false, Bool.not_eq_true', Bool.not_eq_false', decide_eq_true_eq, decide_eq_false_iff_not, Bool.and_eq_true, Bool.or_eq_true, Bool.and_eq_false_iff, Bool.or_eq_false_iff] at h) <;> try (exfalso; first | exact h True.intro | (exact h; done) | omega | (simp only [not_true_eq_false, false_or, or_false] at h; omega)))
          | (refine EV.ret Q86_ok ?_; simp only [push_cast, Int.cast_ofNat_Int, reduceIte, Nat.reduceEqDiff, reduceCtorEq, Nat.reduceAdd, Nat.reduceSub, Nat.reduceMul, Int.reduceToNat, Nat.reduceLeDiff, Q86])
          | (with_reducible intro b; try simp only [push_cast, Int.cast_ofNat_Int, reduceIte, Nat.reduceEqDiff, reduceCtorEq, Nat.reduceAdd, Nat.reduceSub, Nat.reduceMul, Int.reduceToNat, Nat.reduceLeDiff])
          | (refine And.intro (by omega) ?_)
          | ((first | refine Exists.intro _ (And.intro (rd_M (by assumption)) ?_) | refine Exists.intro _ (Exists.intro _ (Exists.intro _ (And.intro (rd_M (by assumption)) ?_))) | refine xr rfl (by simp only [List.length_cons, List.length_nil]; omega) ?_ | fail); try simp only [push_cast, Int.cast_ofNat_Int, reduceIte, Nat.reduceEqDiff, reduceCtorEq, Nat.reduceAdd, Nat.reduceSub, Nat.reduceMul, Int.reduceToNat, Nat.reduceLeDiff])
          | (refine xw ?_; simp only [push_cast, Int.cast_ofNat_Int, reduceIte, Nat.reduceEqDiff, reduceCtorEq, Nat.reduceAdd, Nat.reduceSub, Nat.reduceMul, Int.reduceToNat, Nat.reduceLeDiff])
          | fail
      all_goals (first | rfl | omega | (exfalso; simp only [false_or, or_false] at h; omega) | fail)
    · have hlt : m.thr[w]!.next < m.prog[w]!.length := by omega
      obtain ⟨qb, qo, rfl, hat2⟩ := Sl.at (enc := encOp) (fun _ => rfl) (by omega) hr2 (by omega)
      have hr3 := hat2 _ hlt
      rw [← getB hlt] at hr3
      rw [turn_ok hwt h2]
      repeat' first
          | refine EV.seq ?_
          | refine EV.skip ?_
          | (refine EV.reg ?_; (conv => (arg 2; whnf)); simp only [push_cast, Int.cast_ofNat_Int, reduceIte, Nat.reduceEqDiff, reduceCtorEq, Nat.reduceAdd, Nat.reduceSub, Nat.reduceMul, Int.reduceToNat, Nat.reduceLeDiff])
          | (refine ConQ.call (view_there_q (r.mono (PHeap.le_add _ _)) wf) ?_; try simp only [push_cast, Int.cast_ofNat_Int, reduceIte, Nat.reduceEqDiff, reduceCtorEq, Nat.reduceAdd, Nat.reduceSub, Nat.reduceMul, Int.reduceToNat, Nat.reduceLeDiff])
          | assumption
          | (refine condW.merge ?_ (fun hc K' hK => ?_) ?_; rotate_left)
          | ((refine EV.cond rfl (fun h => ?_) (fun h => ?_) <;> try simp only [reduceCtorEq, reduceIte, if_true, if_false, Bool.not_eq_true', Bool.not_eq_false', decide_eq_true_eq, decide_eq_false_iff_not, Bool.and_eq_true, Bool.or_eq_true, Bool.and_eq_false_iff, Bool.or_eq_false_iff] at h) <;> try (exfalso; first | exact h True.intro | (exact h; done) | omega | (simp only [not_true_eq_false, false_or, or_false] at h; omega)))
          | (refine EV.ret Q86_ok ?_; simp only [push_cast, Int.cast_ofNat_Int, reduceIte, Nat.reduceEqDiff, reduceCtorEq, Nat.reduceAdd, Nat.reduceSub, Nat.reduceMul, Int.reduceToNat, Nat.reduceLeDiff, Q86])
          | (with_reducible intro b; try simp only [push_cast, Int.cast_ofNat_Int, reduceIte, Nat.reduceEqDiff, reduceCtorEq, Nat.reduceAdd, Nat.reduceSub, Nat.reduceMul, Int.reduceToNat, Nat.reduceLeDiff])
          | (refine And.intro (by omega) ?_)
          | ((first | refine Exists.intro _ (And.intro (rd_M (by assumption)) ?_) | refine Exists.intro _ (Exists.intro _ (Exists.intro _ (And.intro (rd_M (by assumption)) ?_))) | refine xr rfl (by simp only [List.length_cons, List.length_nil]; omega) ?_ | fail); try simp only [push_cast, Int.cast_ofNat_Int, reduceIte, Nat.reduceEqDiff, reduceCtorEq, Nat.reduceAdd, Nat.reduceSub, Nat.reduceMul, Int.reduceToNat, Nat.reduceLeDiff])
          | (refine xw ?_; simp only [push_cast, Int.cast_ofNat_Int, reduceIte, Nat.reduceEqDiff, reduceCtorEq, Nat.reduceAdd, Nat.reduceSub, Nat.reduceMul, Int.reduceToNat, Nat.reduceLeDiff])
          | fail
      all_goals (first | rfl | omega | (exfalso; simp only [false_or, or_false] at h; omega) | fail)

def encCh (c : Nat × Bool) : List Value := [vi c.1, vb c.2]

theorem place_lt (line : Nat → List Int) (l : Nat) (n : Int) (h : 0 < (line l).length) : place line l n < (line l).length := by
  unfold place
  split
  · exact List.idxOf_lt_length_iff.2 (by assumption)
  · exact h

theorem choicesAt_len (o : OpV) (i : Nat) : (m.choicesAt o i).length ≤ 2 := by
  unfold VM.choicesAt; split <;> split <;> simp

theorem choicesFrom_succ (o : OpV) (lo k : Nat) : m.choicesFrom o lo (k + 1) = m.choicesFrom o lo k ++ m.choicesAt o (lo + k) := by
  simp [VM.choicesFrom, List.range_succ]

theorem choicesFrom_len (o : OpV) (lo : Nat) : ∀ k, (m.choicesFrom o lo k).length ≤ 2 * k
  | 0 => by simp [VM.choicesFrom]
  | k + 1 => by
    have := choicesFrom_len o lo k
    have h2 := choicesAt_len (m := m) o (lo + k)
    rw [choicesFrom_succ, List.length_append]; omega

set_option maxRecDepth 8000 in
set_option maxHeartbeats 4000000 in
theorem view_choices_c (r : RdM M mp ad m) (wf : m.Wf B) {w : Nat} (hw : w < m.thr.length) (o : OpV) (ho : okOpE o) : Con Try.prog 30 #[pv mp 0, vi w, vop o] M [] fun v _ G' =>
    ∃ ov, v = osv ov (m.choices w o).length ∧ osok 2 ov (m.choices w o).length ((m.choices w o).flatMap encCh) ∧ G' = osg 76 ov ((m.choices w o).flatMap encCh) := by
  obtain ⟨kd, lo, v, w', od⟩ := o
  obtain ⟨o1, o2, o3, o4, o5⟩ := ho
  dsimp only at o1 o2 o3 o4 o5
  obtain ⟨l, rfl⟩ : ∃ l : Nat, lo = l := ⟨lo.toNat, by omega⟩
  have hl : l < 3 := by omega
  have h1 := r.f1
  have h5 := r.f5
  have h2 := r.fl hl
  have hnow := r.nowAt hw hl
  have hlb := wf.ll l hl
  have hlp := wf.lp l hl
  have hb0 := wf.b0
  refine Con.enter Q77_ok (args := [pv mp 0, vi w, vop ⟨kd, l, v, w', od⟩]) (by simp [Q77]) fun w0 => ?_
  simp only [Q77, argE]
  repeat' first
      | refine EV.seq ?_
      | refine EV.skip ?_
      | ((first | refine EV.reg ?_ | refine EV.any _ (List.Sublist.refl _) ?_ | fail); (conv => (arg 2; whnf)); simp only [push_cast, Int.cast_ofNat_Int, reduceIte, Nat.reduceEqDiff, reduceCtorEq, Nat.reduceAdd, Nat.reduceSub, Nat.reduceMul, Int.reduceToNat, Nat.reduceLeDiff])
      | ((refine EV.cond rfl (fun h => ?_) (fun h => ?_) <;> try simp only [reduceCtorEq, reduceIte, if_true, if_false, Bool.not_eq_true', Bool.not_eq_false', decide_eq_true_eq, decide_eq_false_iff_not, Bool.and_eq_true, Bool.or_eq_true, Bool.and_eq_false_iff, Bool.or_eq_false_iff] at h) <;> try (exfalso; first | exact h True.intro | (exact h; done) | omega | (simp only [not_true_eq_false, false_or, or_false] at h; omega)))
      | (with_reducible intro b; try simp only [push_cast, Int.cast_ofNat_Int, reduceIte, Nat.reduceEqDiff, reduceCtorEq, Nat.reduceAdd, Nat.reduceSub, Nat.reduceMul, Int.reduceToNat, Nat.reduceLeDiff])
      | (refine And.intro (by omega) ?_)
      | ((first | refine Exists.intro _ (And.intro (rd_M (by assumption)) ?_) | refine Exists.intro _ (Exists.intro _ (Exists.intro _ (And.intro (rd_M (by assumption)) ?_))) | refine xi rfl (by simp only [List.length_cons, List.length_nil]; omega) ?_ | fail); try simp only [push_cast, Int.cast_ofNat_Int, reduceIte, Nat.reduceEqDiff, reduceCtorEq, Nat.reduceAdd, Nat.reduceSub, Nat.reduceMul, Int.reduceToNat, Nat.reduceLeDiff])
      | fail
  · refine EV.to (ρ' := [(6, rowV b 1 1)]) (G' := [(b, Cl 76 [vi 0, vb false])]) ?_ ?env0 (by (repeat' first | exact List.Sublist.refl _ | exact List.nil_sublist _ | exact List.sublist_append_left _ _ | refine List.Sublist.cons_cons _ ?_ | refine List.Sublist.append_left ?_ _ | refine List.sublist_append_of_sublist_right ?_ | refine List.Sublist.cons _ ?_))
    case env0 =>
      repeat' first
        | (refine List.forall_mem_cons.2 (And.intro ?_ ?_))
        | (intro _ hnil; cases hnil; done)
        | rfl
        | fail
    refine EV.ret Q77_ok ?_
    simp only [push_cast, Int.cast_ofNat_Int, reduceIte, Nat.reduceEqDiff, reduceCtorEq, Nat.reduceAdd, Nat.reduceSub, Nat.reduceMul, Int.reduceToNat, Nat.reduceLeDiff, Q77]
    have e : m.choices w ⟨kd, l, v, w', od⟩ = [(0, false)] := by simp only [VM.choices, if_pos h]
    rw [e]
    exact ⟨some (b, 1, []), rfl, ⟨rfl, rfl, Nat.le_refl _, by simp [maxLen]⟩, rfl⟩
  · have _ := h
    repeat' first
        | refine EV.block ?_
        | (refine Exists.intro _ (And.intro (view_place_q (r.mono (PHeap.le_add _ _)) wf hl _) ?_); try simp only [push_cast, Int.cast_ofNat_Int, reduceIte, Nat.reduceEqDiff, reduceCtorEq, Nat.reduceAdd, Nat.reduceSub, Nat.reduceMul, Int.reduceToNat, Nat.reduceLeDiff])
        | fail
    have hch : m.choices w ⟨kd, l, v, w', od⟩ = m.choicesFrom ⟨kd, l, v, w', od⟩ (place m.line l (m.thr[w]!.now l)) ((m.line l).length - place m.line l (m.thr[w]!.now l)) := by
      simp only [VM.choices, if_neg h, VM.low, Int.toNat_natCast]
    have hplt := place_lt m.line l (m.thr[w]!.now l) hlp
    rw [hch]
    generalize place m.line l (m.thr[w]!.now l) = lo at hplt ⊢
    have hsn := fun k => choicesFrom_succ (m := m) ⟨kd, l, v, w', od⟩ lo k
    have hln := fun k => choicesFrom_len (m := m) ⟨kd, l, v, w', od⟩ lo k
    refine EV.freeze (G₁ := [_]) (G₂ := []) ?_
    generalize hN : M.add [(b, Cl 55 [vi kd, vi l, vi v, vi w', vi od])] = N
    have hMN : M.le N := hN ▸ PHeap.le_add _ _
    have hk0 : rd N b 0 1 [vi kd] := hN ▸ rd_own' 0 rfl rfl (by simp)
    have hk1 : rd N b 1 1 [vi l] := hN ▸ rd_own' 0 rfl rfl (by simp)
    have hk2 : rd N b 2 1 [vi v] := hN ▸ rd_own' 0 rfl rfl (by simp)
    clear hN
    have rN := r.mono hMN
    replace h1 := rN.f1
    replace h2 := rN.fl hl
    have hbd := wf.le l hl
    have hb5 := wf.ml
    obtain ⟨CF, hCF⟩ : ∃ CF : Nat → List (Nat × Bool), CF = fun i => m.choicesFrom ⟨kd, l, v, w', od⟩ lo (i - lo) := ⟨_, rfl⟩
    have hCe : m.choicesFrom ⟨kd, l, v, w', od⟩ lo ((m.line l).length - lo) = CF (m.line l).length := by rw [hCF]
    have hC0 : CF lo = [] := by rw [hCF]; simp [VM.choicesFrom]
    have hCs : ∀ i, lo ≤ i → CF (i + 1) = CF i ++ m.choicesAt ⟨kd, l, v, w', od⟩ i := fun i hi => by
      rw [hCF]; dsimp only
      have e1 : i + 1 - lo = (i - lo) + 1 := by omega
      have e2 : lo + (i - lo) = i := by omega
      rw [e1, hsn, e2]
    have hCl : ∀ i, (CF i).length ≤ 2 * i := fun i => by rw [hCF]; have := hln (i - lo); dsimp only; omega
    rw [hCe]
    clear hCF hCe hsn hln hch
    refine EV.to (ρ' := [(0, pv mp 0), (5, pv b 0), (7, osv none (CF lo).length), (8, vi lo)]) (G' := osg 76 none ((CF lo).flatMap encCh)) ?_ ?env1 (by (repeat' first | exact List.Sublist.refl _ | exact List.nil_sublist _ | exact List.sublist_append_left _ _ | refine List.Sublist.cons_cons _ ?_ | refine List.Sublist.append_left ?_ _ | refine List.sublist_append_of_sublist_right ?_ | refine List.Sublist.cons _ ?_))
    case env1 =>
      rw [hC0]
      repeat' first
        | (refine List.forall_mem_cons.2 (And.intro ?_ ?_))
        | (intro _ hnil; cases hnil; done)
        | rfl
        | fail
    refine EV.loop (fun x : Nat × Vec => ([(0, pv mp 0), (5, pv b 0), (7, osv x.2 (CF x.1).length), (8, vi x.1)], N, osg 76 x.2 ((CF x.1).flatMap encCh)))
      (fun x => lo ≤ x.1 ∧ x.1 ≤ (m.line l).length ∧ osok 2 x.2 (CF x.1).length ((CF x.1).flatMap encCh))
      (fun x => (m.line l).length - x.1) (lo, none) ⟨Nat.le_refl _, by dsimp only; omega, by rw [hC0]; exact ⟨rfl, rfl⟩⟩ ?_
    rintro ⟨i, ov⟩ ⟨hlo, hk, hov⟩ ih
    dsimp only at hlo hk hov ih ⊢
    have hC1 := hCs i hlo
    have hC2 := hCl i
    have hAt : m.choicesAt ⟨kd, l, v, w', od⟩ i = (if (decide (kd = 1) || decide (kd = 2) || (!decide (kd = 0) && decide (m.msgs[(m.line l)[i]!.toNat]!.word = v))) && !m.bound l i then [(i, true)] else []) ++ (if !(decide (kd = 1) || decide (kd = 2) || (!decide (kd = 0) && decide (m.msgs[(m.line l)[i]!.toNat]!.word = v))) || decide (kd = 4) then [(i, false)] else []) := by
      simp [VM.choicesAt, OpV.writes, VM.msgAt]
    repeat' first
        | refine EV.seq ?_
        | refine EV.skip ?_
        | refine EV.block ?_
        | ((first | refine EV.reg ?_ | refine EV.any _ (List.Sublist.refl _) ?_ | fail); (conv => (arg 2; whnf)); simp only [push_cast, Int.cast_ofNat_Int, reduceIte, Nat.reduceEqDiff, reduceCtorEq, Nat.reduceAdd, Nat.reduceSub, Nat.reduceMul, Int.reduceToNat, Nat.reduceLeDiff])
        | ((refine EV.cond rfl (fun h => ?_) (fun h => ?_) <;> try simp only [reduceCtorEq, reduceIte, if_true, if_false, Bool.not_eq_true', Bool.not_eq_false', decide_eq_true_eq, decide_eq_false_iff_not, Bool.and_eq_true, Bool.or_eq_true, Bool.and_eq_false_iff, Bool.or_eq_false_iff] at h) <;> try (exfalso; first | exact h True.intro | (exact h; done) | omega | (simp only [not_true_eq_false, false_or, or_false] at h; omega)))
        | (refine EV.exit rfl ?_)
        | (refine And.intro (by omega) ?_)
        | ((first | refine Exists.intro _ (And.intro (rd_M (by assumption)) ?_) | refine Exists.intro _ (Exists.intro _ (Exists.intro _ (And.intro (rd_M (by assumption)) ?_))) | fail); try simp only [push_cast, Int.cast_ofNat_Int, reduceIte, Nat.reduceEqDiff, reduceCtorEq, Nat.reduceAdd, Nat.reduceSub, Nat.reduceMul, Int.reduceToNat, Nat.reduceLeDiff])
        | fail
    · have hi : i < (m.line l).length := by omega
      have hli := rN.line hl hi
      obtain ⟨hn1, hn2⟩ := hbd ((m.line l)[i]!) (by rw [getB hi]; exact List.getElem_mem hi)
      have hwd := rN.word (n := (m.line l)[i]!.toNat) (by omega)
      repeat' first
          | refine EV.seq ?_
          | refine EV.skip ?_
          | refine EV.inBlock ?_
          | (refine EV.reg ?_; (conv => (arg 2; whnf)); simp only [push_cast, Int.cast_ofNat_Int, reduceIte, Nat.reduceEqDiff, reduceCtorEq, Nat.reduceAdd, Nat.reduceSub, Nat.reduceMul, Int.reduceToNat, Nat.reduceLeDiff])
          | (refine ConQ.call (view_bound_q (rN.mono (PHeap.le_add _ _)) wf hl hi) ?_; try simp only [push_cast, Int.cast_ofNat_Int, reduceIte, Nat.reduceEqDiff, reduceCtorEq, Nat.reduceAdd, Nat.reduceSub, Nat.reduceMul, Int.reduceToNat, Nat.reduceLeDiff])
          | assumption
          | (refine condW.merge ?_ (fun hc K' hK => ?_) ?_; rotate_left)
          | ((refine EV.cond rfl (fun h => ?_) (fun h => ?_) <;> try simp only [reduceCtorEq, reduceIte, if_true, if_false, Bool.not_eq_true', Bool.not_eq_false', decide_eq_true_eq, decide_eq_false_iff_not, Bool.and_eq_true, Bool.or_eq_true, Bool.and_eq_false_iff, Bool.or_eq_false_iff] at h) <;> try (exfalso; first | exact h True.intro | (exact h; done) | omega | (simp only [not_true_eq_false, false_or, or_false] at h; omega)))
          | (with_reducible intro b; try simp only [push_cast, Int.cast_ofNat_Int, reduceIte, Nat.reduceEqDiff, reduceCtorEq, Nat.reduceAdd, Nat.reduceSub, Nat.reduceMul, Int.reduceToNat, Nat.reduceLeDiff])
          | (refine And.intro (by omega) ?_)
          | (refine Exists.intro _ (And.intro (rd_M (by assumption)) ?_); try simp only [push_cast, Int.cast_ofNat_Int, reduceIte, Nat.reduceEqDiff, reduceCtorEq, Nat.reduceAdd, Nat.reduceSub, Nat.reduceMul, Int.reduceToNat, Nat.reduceLeDiff])
          | fail
      · refine ⟨_, Or.inr ⟨_, 0, rfl, rd_own' 0 rfl rfl (by simp)⟩, by simp [ok1_cons, ok1_nil, Value.oneCell'], Or.inl ⟨_, _, rfl, _, hov, _, cat_pull [[_], osg 76 ov _] 1 (by simp), ?_, ?_, ?_⟩⟩
        · simp only [maxLen]; omega
        · omega
        intro o1 ho1 _
        simp only [List.eraseIdx_cons_succ, List.eraseIdx_cons_zero, List.getElem_cons_succ, List.getElem_cons_zero, cat_two, cat_one, cat_nil, List.nil_append, List.cons_append, List.append_assoc, List.append_nil]
        repeat' first
            | refine EV.seq ?_
            | refine EV.skip ?_
            | refine EV.inBlock ?_
            | (refine EV.reg ?_; (conv => (arg 2; whnf)); simp only [push_cast, Int.cast_ofNat_Int, reduceIte, Nat.reduceEqDiff, reduceCtorEq, Nat.reduceAdd, Nat.reduceSub, Nat.reduceMul, Int.reduceToNat, Nat.reduceLeDiff])
            | assumption
            | (refine condW.merge ?_ (fun hc K' hK => ?_) ?_; rotate_left)
            | ((refine EV.cond rfl (fun h => ?_) (fun h => ?_) <;> try simp only [reduceCtorEq, reduceIte, if_true, if_false, Bool.not_eq_true', Bool.not_eq_false', decide_eq_true_eq, decide_eq_false_iff_not, Bool.and_eq_true, Bool.or_eq_true, Bool.and_eq_false_iff, Bool.or_eq_false_iff] at h) <;> try (exfalso; first | exact h True.intro | (exact h; done) | omega | (simp only [not_true_eq_false, false_or, or_false] at h; omega)))
            | ((first | with_reducible intro b | refine Exists.intro _ (And.intro (rd_M (by assumption)) ?_) | fail); try simp only [push_cast, Int.cast_ofNat_Int, reduceIte, Nat.reduceEqDiff, reduceCtorEq, Nat.reduceAdd, Nat.reduceSub, Nat.reduceMul, Int.reduceToNat, Nat.reduceLeDiff])
            | fail
        · rename_i hA _ hB
          refine ⟨_, Or.inr ⟨_, 0, rfl, rd_own' 0 rfl rfl (by simp)⟩, by simp [ok1_cons, ok1_nil, Value.oneCell'], Or.inl ⟨_, _, rfl, _, ho1, _, cat_pull [[_, _], osg 76 o1 _] 1 (by simp), ?_, ?_, ?_⟩⟩
          · simp only [maxLen]; omega
          · omega
          intro o2 ho2 _
          simp only [List.eraseIdx_cons_succ, List.eraseIdx_cons_zero, List.getElem_cons_succ, List.getElem_cons_zero, cat_two, cat_one, cat_nil, List.nil_append, List.cons_append, List.append_assoc, List.append_nil]
          repeat' first
              | refine EV.inBlock ?_
              | (refine EV.reg ?_; (conv => (arg 2; whnf)); simp only [push_cast, Int.cast_ofNat_Int, reduceIte, Nat.reduceEqDiff, reduceCtorEq, Nat.reduceAdd, Nat.reduceSub, Nat.reduceMul, Int.reduceToNat, Nat.reduceLeDiff])
              | fail
          have e : CF (i + 1) = CF i ++ [(i, true), (i, false)] := by
            rw [hC1, hAt]; congr 1; clear ih hov ho1 ho2; grind
          have ih3 := ih (i + 1, o2) ⟨by dsimp only; omega, by dsimp only; omega, by rw [e]; simpa [encCh] using ho2⟩ (by dsimp only; omega)
          simp only [e, List.length_append, List.flatMap_append] at ih3
          refine EV.to ih3 ?_ (by (repeat' first | exact List.Sublist.refl _ | exact List.nil_sublist _ | exact List.sublist_append_left _ _ | refine List.Sublist.cons_cons _ ?_ | refine List.Sublist.append_left ?_ _ | refine List.sublist_append_of_sublist_right ?_ | refine List.Sublist.cons _ ?_))
          repeat' first
            | (refine List.forall_mem_cons.2 (And.intro ?_ ?_))
            | (intro _ hnil; cases hnil; done)
            | rfl
            | (refine env_w64 rfl (by first | rfl | (push_cast; first | rfl | omega)) (by omega) (by omega); done)
            | fail
        · have e : CF (i + 1) = CF i ++ [(i, true)] := by
            rw [hC1, hAt]; congr 1; clear ih hov ho1; grind
          have ih3 := ih (i + 1, o1) ⟨by dsimp only; omega, by dsimp only; omega, by rw [e]; simpa [encCh] using ho1⟩ (by dsimp only; omega)
          simp only [e, List.length_append, List.flatMap_append] at ih3
          refine EV.to ih3 ?_ (by (repeat' first | exact List.Sublist.refl _ | exact List.nil_sublist _ | exact List.sublist_append_left _ _ | refine List.Sublist.cons_cons _ ?_ | refine List.Sublist.append_left ?_ _ | refine List.sublist_append_of_sublist_right ?_ | refine List.Sublist.cons _ ?_))
          repeat' first
            | (refine List.forall_mem_cons.2 (And.intro ?_ ?_))
            | (intro _ hnil; cases hnil; done)
            | rfl
            | (refine env_w64 rfl (by first | rfl | (push_cast; first | rfl | omega)) (by omega) (by omega); done)
            | fail
      · refine ⟨_, Or.inr ⟨_, 0, rfl, rd_own' 0 rfl rfl (by simp)⟩, by simp [ok1_cons, ok1_nil, Value.oneCell'], Or.inl ⟨_, _, rfl, _, hov, _, cat_pull [[_], osg 76 ov _] 1 (by simp), ?_, ?_, ?_⟩⟩
        · simp only [maxLen]; omega
        · omega
        intro o1 ho1 _
        simp only [List.eraseIdx_cons_succ, List.eraseIdx_cons_zero, List.getElem_cons_succ, List.getElem_cons_zero, cat_two, cat_one, cat_nil, List.nil_append, List.cons_append, List.append_assoc, List.append_nil]
        repeat' first
            | refine EV.inBlock ?_
            | (refine EV.reg ?_; (conv => (arg 2; whnf)); simp only [push_cast, Int.cast_ofNat_Int, reduceIte, Nat.reduceEqDiff, reduceCtorEq, Nat.reduceAdd, Nat.reduceSub, Nat.reduceMul, Int.reduceToNat, Nat.reduceLeDiff])
            | fail
        have e : CF (i + 1) = CF i ++ [(i, false)] := by
          rw [hC1, hAt]; congr 1; clear ih hov ho1; grind
        have ih3 := ih (i + 1, o1) ⟨by dsimp only; omega, by dsimp only; omega, by rw [e]; simpa [encCh] using ho1⟩ (by dsimp only; omega)
        simp only [e, List.length_append, List.flatMap_append] at ih3
        refine EV.to ih3 ?_ (by (repeat' first | exact List.Sublist.refl _ | exact List.nil_sublist _ | exact List.sublist_append_left _ _ | refine List.Sublist.cons_cons _ ?_ | refine List.Sublist.append_left ?_ _ | refine List.sublist_append_of_sublist_right ?_ | refine List.Sublist.cons _ ?_))
        repeat' first
          | (refine List.forall_mem_cons.2 (And.intro ?_ ?_))
          | (intro _ hnil; cases hnil; done)
          | rfl
          | (refine env_w64 rfl (by first | rfl | (push_cast; first | rfl | omega)) (by omega) (by omega); done)
          | fail
      · have e : CF (i + 1) = CF i := by
          rw [hC1, hAt]; clear ih hov; grind
        have ih3 := ih (i + 1, ov) ⟨by dsimp only; omega, by dsimp only; omega, by rw [e]; simpa [encCh] using hov⟩ (by dsimp only; omega)
        simp only [e] at ih3
        refine EV.to ih3 ?_ (by (repeat' first | exact List.Sublist.refl _ | exact List.nil_sublist _ | exact List.sublist_append_left _ _ | refine List.Sublist.cons_cons _ ?_ | refine List.Sublist.append_left ?_ _ | refine List.sublist_append_of_sublist_right ?_ | refine List.Sublist.cons _ ?_))
        repeat' first
          | (refine List.forall_mem_cons.2 (And.intro ?_ ?_))
          | (intro _ hnil; cases hnil; done)
          | rfl
          | (refine env_w64 rfl (by first | rfl | (push_cast; first | rfl | omega)) (by omega) (by omega); done)
          | fail
    · have e : i = (m.line l).length := by omega
      subst e
      refine EV.ret Q77_ok ?_
      simp only [push_cast, Int.cast_ofNat_Int, reduceIte, Nat.reduceEqDiff, reduceCtorEq, Nat.reduceAdd, Nat.reduceSub, Nat.reduceMul, Int.reduceToNat, Nat.reduceLeDiff, Q77]
      exact ⟨ov, rfl, hov, rfl⟩

end
end Go.EV

namespace Go.EV
open Go.Proofs
section
variable {M : PHeap} {mp : Nat} {ad : Ad} {m : VM} {B : Nat}

def VM.leftOf (m : VM) (i : Nat) : Int := (m.prog[i]!.length : Int) - m.thr[i]!.next
def VM.lefts (m : VM) (n : Nat) : List Int := (List.range n).map m.leftOf

theorem RdM.progAt (r : RdM M mp ad m) (wf : m.Wf B) : ∃ pb po, ad.pg = some ⟨pb, po, none⟩ ∧ ∀ i, i < m.thr.length → ∃ a c, rd M pb (po + i) 1 [.slice a m.prog[i]!.length c] ∧ rdS M 5 a m.prog[i]!.length (m.prog[i]!.flatMap encOp) := by
  obtain ⟨a, c, vs, he, hl, hrd, hk⟩ := r.pg
  cases he
  have hpl := wf.pl
  have htp := wf.tp
  obtain ⟨pb, po, epg, hat⟩ := SlSl.at hrd hl hk (by omega)
  refine ⟨pb, po, epg, fun i hi => ?_⟩
  obtain ⟨a', c', h1, h2⟩ := hat i (by omega)
  rw [getB (show i < m.prog.length by omega)]
  rw [Nat.mul_one] at h1
  exact ⟨a', c', h1, h2⟩

set_option maxHeartbeats 4000000 in
set_option maxRecDepth 8000 in
theorem view_left_c (r : RdM M mp ad m) (wf : m.Wf B) : Con Try.prog 36 #[pv mp 0] M [] fun v _ G' =>
    ∃ ov, v = osv ov (m.lefts m.thr.length).length ∧ osok 1 ov (m.lefts m.thr.length).length ((m.lefts m.thr.length).map vi) ∧ G' = osg 3 ov ((m.lefts m.thr.length).map vi) := by
  have h0 := r.f0
  have h5 := r.f5
  have ht3 := wf.t3
  have hpl := wf.pl
  obtain ⟨pb, po, epg, hpg⟩ := r.progAt wf
  rw [epg] at h0
  refine Con.enter Q81_ok (args := [pv mp 0]) (by simp [Q81]) fun w0 => ?_
  simp only [Q81, argE]
  repeat' first
      | refine EV.seq ?_
      | refine EV.block ?_
      | (refine EV.reg ?_; (conv => (arg 2; whnf)); simp only [push_cast, Int.cast_ofNat_Int, reduceIte, Nat.reduceEqDiff, reduceCtorEq, Nat.reduceAdd, Nat.reduceSub, Nat.reduceMul, Int.reduceToNat, Nat.reduceLeDiff])
      | (refine Exists.intro _ (Exists.intro _ (Exists.intro _ (And.intro (rd_M (by assumption)) ?_))); try simp only [push_cast, Int.cast_ofNat_Int, reduceIte, Nat.reduceEqDiff, reduceCtorEq, Nat.reduceAdd, Nat.reduceSub, Nat.reduceMul, Int.reduceToNat, Nat.reduceLeDiff])
      | fail
  refine EV.to (ρ' := [(0, pv mp 0), (3, osv none (m.lefts 0).length), (9, rowV ad.tb m.thr.length ad.tc), (10, vi m.thr.length), (11, vi (0 : Nat))]) (G' := osg 3 none ((m.lefts 0).map vi)) ?_ ?env1 (by (repeat' first | exact List.Sublist.refl _ | exact List.nil_sublist _ | exact List.sublist_append_left _ _ | refine List.Sublist.cons_cons _ ?_ | refine List.Sublist.append_left ?_ _ | refine List.sublist_append_of_sublist_right ?_ | refine List.Sublist.cons _ ?_))
  case env1 =>
    repeat' first
      | (refine List.forall_mem_cons.2 (And.intro ?_ ?_))
      | (intro _ hnil; cases hnil; done)
      | rfl
      | fail
  refine EV.loop (fun x : Nat × Vec => ([(0, pv mp 0), (3, osv x.2 (m.lefts x.1).length), (9, rowV ad.tb m.thr.length ad.tc), (10, vi m.thr.length), (11, vi x.1)], M, osg 3 x.2 ((m.lefts x.1).map vi)))
    (fun x => x.1 ≤ m.thr.length ∧ osok 1 x.2 (m.lefts x.1).length ((m.lefts x.1).map vi))
    (fun x => m.thr.length - x.1) (0, none) ⟨Nat.zero_le _, rfl, rfl⟩ ?_
  rintro ⟨i, ov⟩ ⟨hi, hov⟩ ih
  dsimp only at hi hov ih ⊢
  have hll : (m.lefts i).length = i := by simp [VM.lefts]
  repeat' first
      | refine EV.seq ?_
      | refine EV.skip ?_
      | refine EV.block ?_
      | (refine EV.reg ?_; (conv => (arg 2; whnf)); simp only [push_cast, Int.cast_ofNat_Int, reduceIte, Nat.reduceEqDiff, reduceCtorEq, Nat.reduceAdd, Nat.reduceSub, Nat.reduceMul, Int.reduceToNat, Nat.reduceLeDiff])
      | ((refine EV.cond rfl (fun h => ?_) (fun h => ?_) <;> try simp only [reduceCtorEq, reduceIte, if_true, if_false, Bool.not_eq_true', Bool.not_eq_false', decide_eq_true_eq, decide_eq_false_iff_not, Bool.and_eq_true, Bool.or_eq_true, Bool.and_eq_false_iff, Bool.or_eq_false_iff] at h) <;> try (exfalso; first | exact h True.intro | (exact h; done) | omega | (simp only [not_true_eq_false, false_or, or_false] at h; omega)))
      | (refine EV.exit rfl ?_)
      | (refine And.intro (by omega) ?_)
      | fail
  · have hi' : i < m.thr.length := by omega
    obtain ⟨a, c, hp1, hp2⟩ := hpg i hi'
    have hth := r.thr hi'
    simp only [encThr] at hth
    have hnx := wf.nx i hi'
    have hpb : m.prog[i]!.length < 1000000 := by
      have hpl := wf.pl
      rw [getB (show i < m.prog.length by omega)]
      exact wf.pb _ (List.getElem_mem _)
    have hw : IntKind.i64.wrap ((m.prog[i]!.length : Int) - m.thr[i]!.next) = m.leftOf i := w64 (by omega) (by omega)
    repeat' first
        | (refine EV.any _ (List.Sublist.refl _) ?_; (conv => (arg 2; whnf)); simp only [push_cast, Int.cast_ofNat_Int, reduceIte, Nat.reduceEqDiff, reduceCtorEq, Nat.reduceAdd, Nat.reduceSub, Nat.reduceMul, Int.reduceToNat, Nat.reduceLeDiff, hw])
        | (with_reducible intro b; try simp only [push_cast, Int.cast_ofNat_Int, reduceIte, Nat.reduceEqDiff, reduceCtorEq, Nat.reduceAdd, Nat.reduceSub, Nat.reduceMul, Int.reduceToNat, Nat.reduceLeDiff, hw])
        | (refine And.intro (by omega) ?_)
        | ((first | refine Exists.intro _ (And.intro (rd_M (by assumption)) ?_) | refine Exists.intro _ (Exists.intro _ (Exists.intro _ (And.intro (rd_M (by assumption)) ?_))) | refine xi rfl (by simp only [List.length_cons, List.length_nil]; omega) ?_ | fail); try simp only [push_cast, Int.cast_ofNat_Int, reduceIte, Nat.reduceEqDiff, reduceCtorEq, Nat.reduceAdd, Nat.reduceSub, Nat.reduceMul, Int.reduceToNat, Nat.reduceLeDiff, hw])
        | (refine xw ?_; simp only [push_cast, Int.cast_ofNat_Int, reduceIte, Nat.reduceEqDiff, reduceCtorEq, Nat.reduceAdd, Nat.reduceSub, Nat.reduceMul, Int.reduceToNat, Nat.reduceLeDiff, hw])
        | (refine And.intro (PHeap.le_refl _) (And.intro (fun p hp => List.mem_cons_of_mem _ hp) ?_))
        | fail
    refine ⟨_, Or.inr ⟨_, 0, rfl, rd_own' 0 rfl rfl (by simp)⟩, by simp [ok1_cons, ok1_nil, Value.oneCell'], Or.inl ⟨_, _, rfl, _, hov, _, cat_pull [[_, _], osg 3 ov _] 1 (by simp), ?_, ?_, ?_⟩⟩
    · simp only [maxLen]; omega
    · omega
    intro o1 ho1 _
    simp only [List.eraseIdx_cons_succ, List.eraseIdx_cons_zero, List.getElem_cons_succ, List.getElem_cons_zero, cat_two, cat_one, cat_nil, List.nil_append, List.cons_append, List.append_assoc, List.append_nil]
    repeat' first
        | refine EV.inBlock ?_
        | (refine EV.reg ?_; (conv => (arg 2; whnf)); simp only [push_cast, Int.cast_ofNat_Int, reduceIte, Nat.reduceEqDiff, reduceCtorEq, Nat.reduceAdd, Nat.reduceSub, Nat.reduceMul, Int.reduceToNat, Nat.reduceLeDiff])
        | fail
    have e : m.lefts (i + 1) = m.lefts i ++ [m.leftOf i] := by simp [VM.lefts, List.range_succ]
    have ih3 := ih (i + 1, o1) ⟨by dsimp only; omega, by rw [e]; simpa using ho1⟩ (by dsimp only; omega)
    simp only [e, List.length_append, List.map_append] at ih3
    refine EV.to ih3 ?_ (by (repeat' first | exact List.Sublist.refl _ | exact List.nil_sublist _ | exact List.sublist_append_left _ _ | refine List.Sublist.cons_cons _ ?_ | refine List.Sublist.append_left ?_ _ | refine List.sublist_append_of_sublist_right ?_ | refine List.Sublist.cons _ ?_))
    repeat' first
      | (refine List.forall_mem_cons.2 (And.intro ?_ ?_))
      | (intro _ hnil; cases hnil; done)
      | rfl
      | (refine env_w64 rfl (by first | rfl | (push_cast; first | rfl | omega)) (by omega) (by omega); done)
      | fail
  · have e : i = m.thr.length := by omega
    subst e
    refine EV.ret Q81_ok ?_
    simp only [push_cast, Int.cast_ofNat_Int, reduceIte, Nat.reduceEqDiff, reduceCtorEq, Nat.reduceAdd, Nat.reduceSub, Nat.reduceMul, Int.reduceToNat, Nat.reduceLeDiff, Q81]
    exact ⟨ov, rfl, hov, rfl⟩

theorem view_Over_S1_q (x : Int) : ConQ Try.prog 58 #[vi x] M (vb (decide (0 < x))) := by
  refine Con.enter Q72_ok (args := [vi x]) (by simp [Q72]) fun w0 => ?_
  simp only [Q72, argE]
  repeat' first
      | refine EV.seq ?_
      | (refine EV.reg ?_; (conv => (arg 2; whnf)); simp only [push_cast, Int.cast_ofNat_Int, reduceIte, Nat.reduceEqDiff, reduceCtorEq, Nat.reduceAdd, Nat.reduceSub, Nat.reduceMul, Int.reduceToNat, Nat.reduceLeDiff])
      | (refine EV.ret Q72_ok ?_; simp only [push_cast, Int.cast_ofNat_Int, reduceIte, Nat.reduceEqDiff, reduceCtorEq, Nat.reduceAdd, Nat.reduceSub, Nat.reduceMul, Int.reduceToNat, Nat.reduceLeDiff, Q72])
      | fail

theorem slices_IndexFunc_c (l : List Int) (a : Option Addr) (c : Nat) (hrow : rdS M 1 a l.length (l.map vi)) (hb : l.length < 1000000) : Con Try.prog 78 #[.slice a l.length c, .func (.func 58) #[] #[]] M [] fun v _ _ => ∃ n, v = vi n ∧ (0 ≤ n ↔ l.any (fun x => decide (0 < x)) = true) := by
  refine Con.enter Q60_ok (args := [.slice a l.length c, .func (.func 58) #[] #[]]) (by simp [Q60]) fun w0 => ?_
  simp only [Q60, argE]
  repeat' first
      | refine EV.seq ?_
      | refine EV.block ?_
      | (refine EV.reg ?_; (conv => (arg 2; whnf)); simp only [push_cast, Int.cast_ofNat_Int, reduceIte, Nat.reduceEqDiff, reduceCtorEq, Nat.reduceAdd, Nat.reduceSub, Nat.reduceMul, Int.reduceToNat, Nat.reduceLeDiff])
      | fail
  refine EV.to (ρ' := [(0, .slice a l.length c), (1, .func (.func 58) #[] #[]), (7, vi l.length), (8, vi (0 : Nat))]) (G' := []) ?_ ?env0 (by simp)
  case env0 =>
    repeat' first
      | (refine List.forall_mem_cons.2 (And.intro ?_ ?_))
      | (intro _ hnil; cases hnil; done)
      | rfl
      | fail
  refine EV.loop (fun i : Nat => ([(0, .slice a l.length c), (1, .func (.func 58) #[] #[]), (7, vi l.length), (8, vi i)], M, [])) (fun i => i ≤ l.length ∧ (l.take i).any (fun x => decide (0 < x)) = false) (fun i => l.length - i) 0 (by simp) ?_
  intro i ⟨hi, hok⟩ ih
  dsimp only at ih ⊢
  repeat' first
      | refine EV.seq ?_
      | refine EV.skip ?_
      | refine EV.block ?_
      | (refine EV.reg ?_; (conv => (arg 2; whnf)); simp only [push_cast, Int.cast_ofNat_Int, reduceIte, Nat.reduceEqDiff, reduceCtorEq, Nat.reduceAdd, Nat.reduceSub, Nat.reduceMul, Int.reduceToNat, Nat.reduceLeDiff])
      | ((refine EV.cond rfl (fun h => ?_) (fun h => ?_) <;> try simp only [reduceCtorEq, reduceIte, if_true, if_false, Bool.not_eq_true', Bool.not_eq_false', decide_eq_true_eq, decide_eq_false_iff_not, Bool.and_eq_true, Bool.or_eq_true, Bool.and_eq_false_iff, Bool.or_eq_false_iff] at h) <;> try (exfalso; first | exact h True.intro | (exact h; done) | omega | (simp only [not_true_eq_false, false_or, or_false] at h; omega)))
      | (refine EV.exit rfl ?_)
      | fail
  · have hi' : i < l.length := by omega
    obtain ⟨lb, lo, rfl, hat⟩ : ∃ lb lo, a = some ⟨lb, lo, none⟩ ∧ rd M lb (lo + i) 1 [vi l[i]] := by
      rcases hrow with ⟨h0, _⟩ | ⟨lb, lo, e, hr⟩
      · omega
      · refine ⟨lb, lo, e, ?_⟩
        have := hr.part' i 1 (by omega) (map_part vi l hi')
        rwa [getB hi'] at this
    repeat' first
        | refine EV.seq ?_
        | refine EV.skip ?_
        | refine EV.inBlock ?_
        | (refine EV.reg ?_; (conv => (arg 2; whnf)); simp only [push_cast, Int.cast_ofNat_Int, reduceIte, Nat.reduceEqDiff, reduceCtorEq, Nat.reduceAdd, Nat.reduceSub, Nat.reduceMul, Int.reduceToNat, Nat.reduceLeDiff])
        | (refine ConQ.call (view_Over_S1_q _) ?_; try simp only [push_cast, Int.cast_ofNat_Int, reduceIte, Nat.reduceEqDiff, reduceCtorEq, Nat.reduceAdd, Nat.reduceSub, Nat.reduceMul, Int.reduceToNat, Nat.reduceLeDiff])
        | ((refine EV.cond rfl (fun h => ?_) (fun h => ?_) <;> try simp only [reduceCtorEq, reduceIte, if_true, if_false, Bool.not_eq_true', Bool.not_eq_false', decide_eq_true_eq, decide_eq_false_iff_not, Bool.and_eq_true, Bool.or_eq_true, Bool.and_eq_false_iff, Bool.or_eq_false_iff] at h) <;> try (exfalso; first | exact h True.intro | (exact h; done) | omega | (simp only [not_true_eq_false, false_or, or_false] at h; omega)))
        | (refine EV.ret Q60_ok ?_; simp only [push_cast, Int.cast_ofNat_Int, reduceIte, Nat.reduceEqDiff, reduceCtorEq, Nat.reduceAdd, Nat.reduceSub, Nat.reduceMul, Int.reduceToNat, Nat.reduceLeDiff, Q60])
        | (refine And.intro (by omega) ?_)
        | (refine Exists.intro _ (And.intro (rd_M (by assumption)) ?_); try simp only [push_cast, Int.cast_ofNat_Int, reduceIte, Nat.reduceEqDiff, reduceCtorEq, Nat.reduceAdd, Nat.reduceSub, Nat.reduceMul, Int.reduceToNat, Nat.reduceLeDiff])
        | fail
    · refine ⟨_, rfl, ?_⟩
      simp only [List.any_eq_true]
      exact ⟨fun _ => ⟨l[i], List.getElem_mem _, by simpa using h⟩, fun _ => by omega⟩
    · refine EV.to (ih (i + 1) ⟨by omega, ?_⟩ (by omega)) ?_ (by simp)
      · rw [List.take_succ_eq_append_getElem hi', List.any_append, hok]
        simpa using h
      · repeat' first
          | (refine List.forall_mem_cons.2 (And.intro ?_ ?_))
          | (intro _ hnil; cases hnil; done)
          | rfl
          | (refine env_w64 rfl (by first | rfl | (push_cast; first | rfl | omega)) (by omega) (by omega); done)
          | fail
  · repeat' first
      | (refine EV.ret Q60_ok ?_; simp only [push_cast, Int.cast_ofNat_Int, reduceIte, Nat.reduceEqDiff, reduceCtorEq, Nat.reduceAdd, Nat.reduceSub, Nat.reduceMul, Int.reduceToNat, Nat.reduceLeDiff, Q60])
      | fail
    have hi3 : i = l.length := by omega
    subst hi3
    rw [List.take_length] at hok
    refine ⟨_, rfl, ?_⟩
    simp [hok]

theorem slices_ContainsFunc_q (l : List Int) (a : Option Addr) (c : Nat) (hrow : rdS M 1 a l.length (l.map vi)) (hb : l.length < 1000000) : ConQ Try.prog 57 #[.slice a l.length c, .func (.func 58) #[] #[]] M (vb (l.any fun x => decide (0 < x))) := by
  refine Con.enter Q59_ok (args := [.slice a l.length c, .func (.func 58) #[] #[]]) (by simp [Q59]) fun w0 => ?_
  simp only [Q59, argE]
  repeat' first
      | refine EV.seq ?_
      | (refine EV.reg ?_; (conv => (arg 2; whnf)); simp only [push_cast, Int.cast_ofNat_Int, reduceIte, Nat.reduceEqDiff, reduceCtorEq, Nat.reduceAdd, Nat.reduceSub, Nat.reduceMul, Int.reduceToNat, Nat.reduceLeDiff])
      | fail
  refine Con.callA (G1 := []) (slices_IndexFunc_c l a c hrow hb) (List.Perm.refl _) ?_
  rintro v M' G' _ ⟨n, rfl, hn⟩
  repeat' first
      | (refine EV.ret Q59_ok ?_; simp only [push_cast, Int.cast_ofNat_Int, reduceIte, Nat.reduceEqDiff, reduceCtorEq, Nat.reduceAdd, Nat.reduceSub, Nat.reduceMul, Int.reduceToNat, Nat.reduceLeDiff, Q59])
      | fail
  rw [Value.bool.injEq, Bool.eq_iff_iff, decide_eq_true_eq]
  exact hn

def VM.over (m : VM) : Bool := !((m.lefts m.thr.length).any fun x => decide (0 < x))

theorem view_Over_q (r : RdM M mp ad m) (wf : m.Wf B) : ConQ Try.prog 26 #[pv mp 0] M (vb m.over) := by
  have ht3 := wf.t3
  have hll : (m.lefts m.thr.length).length = m.thr.length := by simp [VM.lefts]
  refine Con.enter Q71_ok (args := [pv mp 0]) (by simp [Q71]) fun w0 => ?_
  simp only [Q71, argE]
  repeat' first
      | refine EV.seq ?_
      | (refine EV.reg ?_; (conv => (arg 2; whnf)); simp only [push_cast, Int.cast_ofNat_Int, reduceIte, Nat.reduceEqDiff, reduceCtorEq, Nat.reduceAdd, Nat.reduceSub, Nat.reduceMul, Int.reduceToNat, Nat.reduceLeDiff])
      | (refine ConQ.call (view_there_q (r.mono (PHeap.le_add _ _)) wf) ?_; try simp only [push_cast, Int.cast_ofNat_Int, reduceIte, Nat.reduceEqDiff, reduceCtorEq, Nat.reduceAdd, Nat.reduceSub, Nat.reduceMul, Int.reduceToNat, Nat.reduceLeDiff])
      | (refine condW.intro (fun hc => ?_) (fun hc => ?_) <;> try simp only [ne_eq, Bool.not_true, Bool.not_false, not_true_eq_false, not_false_eq_true, reduceCtorEq] at hc <;> try (exfalso; first | exact hc | omega | (simp at hc; done)))
      | fail
  refine Con.callB (G1 := []) (view_left_c (r.mono (PHeap.le_add _ _)) wf) (PHeap.le_refl _) (List.Perm.refl _) ?_
  rintro v M' G' ⟨ov, rfl, hov, rfl⟩
  repeat' first
      | (refine ConQ.call (slices_ContainsFunc_q _ _ _ (rd_osg (T := 3) hov (fun p hp => by simpa using hp)) (by omega)) ?_; try simp only [push_cast, Int.cast_ofNat_Int, reduceIte, Nat.reduceEqDiff, reduceCtorEq, Nat.reduceAdd, Nat.reduceSub, Nat.reduceMul, Int.reduceToNat, Nat.reduceLeDiff])
      | (refine EV.ret Q71_ok ?_; simp only [push_cast, Int.cast_ofNat_Int, reduceIte, Nat.reduceEqDiff, reduceCtorEq, Nat.reduceAdd, Nat.reduceSub, Nat.reduceMul, Int.reduceToNat, Nat.reduceLeDiff, Q71])
      | fail
  rfl

theorem view_Over_nil_q : ConQ Try.prog 26 #[.pointer none] M (vb true) := by
  refine Con.enter Q71_ok (args := [.pointer none]) (by simp [Q71]) fun w0 => ?_
  simp only [Q71, argE]
  repeat' first
      | refine EV.seq ?_
      | (refine EV.reg ?_; (conv => (arg 2; whnf)); simp only [push_cast, Int.cast_ofNat_Int, reduceIte, Nat.reduceEqDiff, reduceCtorEq, Nat.reduceAdd, Nat.reduceSub, Nat.reduceMul, Int.reduceToNat, Nat.reduceLeDiff])
      | (refine ConQ.call (view_there_nil_q) ?_; try simp only [push_cast, Int.cast_ofNat_Int, reduceIte, Nat.reduceEqDiff, reduceCtorEq, Nat.reduceAdd, Nat.reduceSub, Nat.reduceMul, Int.reduceToNat, Nat.reduceLeDiff])
      | (refine condW.intro (fun hc => ?_) (fun hc => ?_) <;> try simp only [ne_eq, Bool.not_true, Bool.not_false, not_true_eq_false, not_false_eq_true, reduceCtorEq] at hc <;> try (exfalso; first | exact hc | omega | (simp at hc; done)))
      | (refine EV.ret Q71_ok ?_; simp only [push_cast, Int.cast_ofNat_Int, reduceIte, Nat.reduceEqDiff, reduceCtorEq, Nat.reduceAdd, Nat.reduceSub, Nat.reduceMul, Int.reduceToNat, Nat.reduceLeDiff, Q71])
      | fail
  rfl

end
end Go.EV

namespace Go.EV
open Go.Proofs
section
variable {M : PHeap} {mp : Nat} {ad : Ad} {m : VM} {B : Nat}

def VM.bad (m : VM) (who : Int) : Bool := decide (who < 0) || decide ((m.thr.length : Int) ≤ who)
def VM.leftR (m : VM) (who : Int) : Int × Int := if m.bad who then (0, 1) else (m.leftOf who.toNat, 0)
def VM.reachR (m : VM) (who loc : Int) : Int × Int :=
  if m.bad who || decide (loc < 0) || decide (3 ≤ loc) then (0, 1) else (place m.line loc.toNat (m.thr[who.toNat]!.now loc.toNat), 0)
def VM.choicesR (m : VM) (who : Int) : Int × Int :=
  if (m.turn who).2 ≠ 0 then (0, (m.turn who).2) else ((m.choices who.toNat (m.turn who).1).length, 0)

abbrev ie (p : Int × Int) : Value := .tuple #[vi p.1, vi p.2]

theorem bad_no {who : Int} (h : ¬ m.bad who = true) : ∃ w : Nat, who = w ∧ w < m.thr.length := by
  simp [VM.bad] at h
  exact ⟨who.toNat, by omega, by omega⟩
theorem bad_ok {w : Nat} (h : w < m.thr.length) : m.bad w = false := by
  simp [VM.bad]; omega

theorem view_Left_q (r : RdM M mp ad m) (wf : m.Wf B) (who : Int) : ConQ Try.prog 23 #[pv mp 0, vi who] M (ie (m.leftR who)) := by
  have h5 := r.f5
  refine Con.enter Q69_ok (args := [pv mp 0, vi who]) (by simp [Q69]) fun w0 => ?_
  simp only [Q69, argE]
  by_cases hb : m.bad who = true
  · have hb2 : who < 0 ∨ (m.thr.length : Int) ≤ who := by simpa [VM.bad] using hb
    repeat' first
        | refine EV.seq ?_
        | (refine EV.reg ?_; (conv => (arg 2; whnf)); simp only [push_cast, Int.cast_ofNat_Int, reduceIte, Nat.reduceEqDiff, reduceCtorEq, Nat.reduceAdd, Nat.reduceSub, Nat.reduceMul, Int.reduceToNat, Nat.reduceLeDiff])
        | (refine ConQ.call (view_there_q (r.mono (PHeap.le_add _ _)) wf) ?_; try simp only [push_cast, Int.cast_ofNat_Int, reduceIte, Nat.reduceEqDiff, reduceCtorEq, Nat.reduceAdd, Nat.reduceSub, Nat.reduceMul, Int.reduceToNat, Nat.reduceLeDiff])
        | assumption
        | (refine condW.merge ?_ (fun hc K' hK => ?_) ?_; rotate_left)
        | ((refine EV.cond rfl (fun h => ?_) (fun h => ?_) <;> try simp only [reduceCtorEq, reduceIte, if_true, if_false, Bool.not_eq_true', Bool.not_eq_false', decide_eq_true_eq, decide_eq_false_iff_not, Bool.and_eq_true, Bool.or_eq_true, Bool.and_eq_false_iff, Bool.or_eq_false_iff] at h) <;> try (exfalso; first | exact h True.intro | (exact h; done) | omega | (simp only [not_true_eq_false, false_or, or_false] at h; omega)))
        | (refine EV.ret Q69_ok ?_; simp only [push_cast, Int.cast_ofNat_Int, reduceIte, Nat.reduceEqDiff, reduceCtorEq, Nat.reduceAdd, Nat.reduceSub, Nat.reduceMul, Int.reduceToNat, Nat.reduceLeDiff, Q69])
        | (refine Exists.intro _ (Exists.intro _ (Exists.intro _ (And.intro (rd_M (by assumption)) ?_))); try simp only [push_cast, Int.cast_ofNat_Int, reduceIte, Nat.reduceEqDiff, reduceCtorEq, Nat.reduceAdd, Nat.reduceSub, Nat.reduceMul, Int.reduceToNat, Nat.reduceLeDiff])
        | fail
    · simp [VM.leftR, hb]
  · obtain ⟨w, rfl, hw⟩ := bad_no hb
    repeat' first
        | refine EV.seq ?_
        | refine EV.skip ?_
        | (refine EV.reg ?_; (conv => (arg 2; whnf)); simp only [push_cast, Int.cast_ofNat_Int, reduceIte, Nat.reduceEqDiff, reduceCtorEq, Nat.reduceAdd, Nat.reduceSub, Nat.reduceMul, Int.reduceToNat, Nat.reduceLeDiff])
        | (refine ConQ.call (view_there_q (r.mono (PHeap.le_add _ _)) wf) ?_; try simp only [push_cast, Int.cast_ofNat_Int, reduceIte, Nat.reduceEqDiff, reduceCtorEq, Nat.reduceAdd, Nat.reduceSub, Nat.reduceMul, Int.reduceToNat, Nat.reduceLeDiff])
        | assumption
        | (refine condW.merge ?_ (fun hc K' hK => ?_) ?_; rotate_left)
        | ((refine EV.cond rfl (fun h => ?_) (fun h => ?_) <;> try simp only [reduceCtorEq, reduceIte, if_true, if_false, Bool.not_eq_true', Bool.not_eq_false', decide_eq_true_eq, decide_eq_false_iff_not, Bool.and_eq_true, Bool.or_eq_true, Bool.and_eq_false_iff, Bool.or_eq_false_iff] at h) <;> try (exfalso; first | exact h True.intro | (exact h; done) | omega | (simp only [not_true_eq_false, false_or, or_false] at h; omega)))
        | (refine Exists.intro _ (Exists.intro _ (Exists.intro _ (And.intro (rd_M (by assumption)) ?_))); try simp only [push_cast, Int.cast_ofNat_Int, reduceIte, Nat.reduceEqDiff, reduceCtorEq, Nat.reduceAdd, Nat.reduceSub, Nat.reduceMul, Int.reduceToNat, Nat.reduceLeDiff])
        | fail
    refine Con.callB (G1 := []) (view_left_c (r.mono (PHeap.le_add _ _)) wf) (PHeap.le_refl _) (List.Perm.refl _) ?_
    rintro v M' G' ⟨ov, rfl, hov, rfl⟩
    have hll : (m.lefts m.thr.length).length = m.thr.length := by simp [VM.lefts]
    obtain ⟨⟨ob, oc, os⟩, rfl⟩ : ∃ x, ov = some x := by
      cases ov with
      | none => exfalso; have := hov.1; omega
      | some x => exact ⟨x, rfl⟩
    have hrd : rd (M.add (osg 3 (some (ob, oc, os)) ((m.lefts m.thr.length).map vi))) ob w 1 [vi (m.leftOf w)] := by
      have hr := rd_osg (M := M) (T := 3) hov (fun p hp => hp)
      rcases hr with ⟨h0, _⟩ | ⟨lb, lo, e, hr⟩
      · omega
      · simp only [oad_some, Option.some.injEq, Addr.mk.injEq] at e
        obtain ⟨rfl, rfl, _⟩ := e
        have h3 := hr.part0 w 1 (by omega) (map_part vi (m.lefts m.thr.length) (by omega))
        have h4 : (m.lefts m.thr.length)[w]! = m.leftOf w := by rw [getB (by omega)]; simp [VM.lefts]
        rwa [h4] at h3
    rw [hll] at *
    simp only [push_cast, Int.cast_ofNat_Int, reduceIte, Nat.reduceEqDiff, reduceCtorEq, Nat.reduceAdd, Nat.reduceSub, Nat.reduceMul, Int.reduceToNat, Nat.reduceLeDiff]
    repeat' first
        | (refine EV.ret Q69_ok ?_; simp only [push_cast, Int.cast_ofNat_Int, reduceIte, Nat.reduceEqDiff, reduceCtorEq, Nat.reduceAdd, Nat.reduceSub, Nat.reduceMul, Int.reduceToNat, Nat.reduceLeDiff, Q69])
        | (refine And.intro (by omega) ?_)
        | (refine Exists.intro _ (And.intro (by assumption) ?_); try simp only [push_cast, Int.cast_ofNat_Int, reduceIte, Nat.reduceEqDiff, reduceCtorEq, Nat.reduceAdd, Nat.reduceSub, Nat.reduceMul, Int.reduceToNat, Nat.reduceLeDiff])
        | fail
    all_goals (first | (simp [VM.leftR, bad_ok hw]; done) | fail)

theorem view_Left_nil_q (who : Int) : ConQ Try.prog 23 #[.pointer none, vi who] M (ie (0, 1)) := by
  refine Con.enter Q69_ok (args := [.pointer none, vi who]) (by simp [Q69]) fun w0 => ?_
  simp only [Q69, argE]
  repeat' first
      | refine EV.seq ?_
      | (refine EV.reg ?_; (conv => (arg 2; whnf)); simp only [push_cast, Int.cast_ofNat_Int, reduceIte, Nat.reduceEqDiff, reduceCtorEq, Nat.reduceAdd, Nat.reduceSub, Nat.reduceMul, Int.reduceToNat, Nat.reduceLeDiff])
      | (refine ConQ.call (view_there_nil_q) ?_; try simp only [push_cast, Int.cast_ofNat_Int, reduceIte, Nat.reduceEqDiff, reduceCtorEq, Nat.reduceAdd, Nat.reduceSub, Nat.reduceMul, Int.reduceToNat, Nat.reduceLeDiff])
      | (refine condW.intro (fun hc => ?_) (fun hc => ?_) <;> try simp only [ne_eq, Bool.not_true, Bool.not_false, not_true_eq_false, not_false_eq_true, reduceCtorEq] at hc <;> try (exfalso; first | exact hc | omega | (simp at hc; done)))
      | ((refine EV.cond rfl (fun h => ?_) (fun h => ?_) <;> try simp only [reduceCtorEq, reduceIte, if_true, if_false, Bool.not_eq_true', Bool.not_eq_false', decide_eq_true_eq, decide_eq_false_iff_not, Bool.and_eq_true, Bool.or_eq_true, Bool.and_eq_false_iff, Bool.or_eq_false_iff] at h) <;> try (exfalso; first | exact h True.intro | (exact h; done) | omega | (simp only [not_true_eq_false, false_or, or_false] at h; omega)))
      | (refine EV.ret Q69_ok ?_; simp only [push_cast, Int.cast_ofNat_Int, reduceIte, Nat.reduceEqDiff, reduceCtorEq, Nat.reduceAdd, Nat.reduceSub, Nat.reduceMul, Int.reduceToNat, Nat.reduceLeDiff, Q69])
      | fail

theorem view_Reach_q (r : RdM M mp ad m) (wf : m.Wf B) (who loc : Int) : ConQ Try.prog 12 #[pv mp 0, vi who, vi loc] M (ie (m.reachR who loc)) := by
  have h5 := r.f5
  refine Con.enter Q73_ok (args := [pv mp 0, vi who, vi loc]) (by simp [Q73]) fun w0 => ?_
  simp only [Q73, argE]
  by_cases hb : (m.bad who || decide (loc < 0) || decide (3 ≤ loc)) = true
  · have hb2 : ((who < 0 ∨ (m.thr.length : Int) ≤ who) ∨ loc < 0) ∨ 3 ≤ loc := by simpa [VM.bad] using hb
    repeat' first
        | refine EV.seq ?_
        | (refine EV.reg ?_; (conv => (arg 2; whnf)); simp only [push_cast, Int.cast_ofNat_Int, reduceIte, Nat.reduceEqDiff, reduceCtorEq, Nat.reduceAdd, Nat.reduceSub, Nat.reduceMul, Int.reduceToNat, Nat.reduceLeDiff])
        | (refine ConQ.call (view_there_q (r.mono (PHeap.le_add _ _)) wf) ?_; try simp only [push_cast, Int.cast_ofNat_Int, reduceIte, Nat.reduceEqDiff, reduceCtorEq, Nat.reduceAdd, Nat.reduceSub, Nat.reduceMul, Int.reduceToNat, Nat.reduceLeDiff])
        | assumption
        | (refine condW.merge ?_ (fun hc K' hK => ?_) ?_; rotate_left)
        | ((refine EV.cond rfl (fun h => ?_) (fun h => ?_) <;> try simp only [reduceCtorEq, reduceIte, if_true, if_false, Bool.not_eq_true', Bool.not_eq_false', decide_eq_true_eq, decide_eq_false_iff_not, Bool.and_eq_true, Bool.or_eq_true, Bool.and_eq_false_iff, Bool.or_eq_false_iff] at h) <;> try (exfalso; first | exact h True.intro | (exact h; done) | omega | (simp only [not_true_eq_false, false_or, or_false] at h; omega)))
        | (refine EV.ret Q73_ok ?_; simp only [push_cast, Int.cast_ofNat_Int, reduceIte, Nat.reduceEqDiff, reduceCtorEq, Nat.reduceAdd, Nat.reduceSub, Nat.reduceMul, Int.reduceToNat, Nat.reduceLeDiff, Q73])
        | (refine Exists.intro _ (Exists.intro _ (Exists.intro _ (And.intro (rd_M (by assumption)) ?_))); try simp only [push_cast, Int.cast_ofNat_Int, reduceIte, Nat.reduceEqDiff, reduceCtorEq, Nat.reduceAdd, Nat.reduceSub, Nat.reduceMul, Int.reduceToNat, Nat.reduceLeDiff])
        | fail
    · simp [VM.reachR, hb]
  · have hb2 : m.bad who = false ∧ ¬ loc < 0 ∧ ¬ 3 ≤ loc := by simpa [and_assoc] using hb
    obtain ⟨w, rfl, hw⟩ := bad_no (m := m) (who := who) (by rw [hb2.1]; simp)
    obtain ⟨l, rfl⟩ : ∃ l : Nat, loc = l := ⟨loc.toNat, by omega⟩
    have hl : l < 3 := by omega
    have hn := r.nowAt hw hl
    repeat' first
        | refine EV.seq ?_
        | refine EV.skip ?_
        | (refine EV.reg ?_; (conv => (arg 2; whnf)); simp only [push_cast, Int.cast_ofNat_Int, reduceIte, Nat.reduceEqDiff, reduceCtorEq, Nat.reduceAdd, Nat.reduceSub, Nat.reduceMul, Int.reduceToNat, Nat.reduceLeDiff])
        | ((first | refine ConQ.call (view_place_q (r.mono (PHeap.le_add _ _)) wf hl _) ?_ | refine ConQ.call (view_there_q (r.mono (PHeap.le_add _ _)) wf) ?_ | fail); try simp only [push_cast, Int.cast_ofNat_Int, reduceIte, Nat.reduceEqDiff, reduceCtorEq, Nat.reduceAdd, Nat.reduceSub, Nat.reduceMul, Int.reduceToNat, Nat.reduceLeDiff])
        | assumption
        | (refine condW.merge ?_ (fun hc K' hK => ?_) ?_; rotate_left)
        | ((refine EV.cond rfl (fun h => ?_) (fun h => ?_) <;> try simp only [reduceCtorEq, reduceIte, if_true, if_false, Bool.not_eq_true', Bool.not_eq_false', decide_eq_true_eq, decide_eq_false_iff_not, Bool.and_eq_true, Bool.or_eq_true, Bool.and_eq_false_iff, Bool.or_eq_false_iff] at h) <;> try (exfalso; first | exact h True.intro | (exact h; done) | omega | (simp only [not_true_eq_false, false_or, or_false] at h; omega)))
        | (refine EV.ret Q73_ok ?_; simp only [push_cast, Int.cast_ofNat_Int, reduceIte, Nat.reduceEqDiff, reduceCtorEq, Nat.reduceAdd, Nat.reduceSub, Nat.reduceMul, Int.reduceToNat, Nat.reduceLeDiff, Q73])
        | (refine And.intro (by omega) ?_)
        | ((first | refine Exists.intro _ (And.intro (rd_M (by assumption)) ?_) | refine Exists.intro _ (Exists.intro _ (Exists.intro _ (And.intro (rd_M (by assumption)) ?_))) | fail); try simp only [push_cast, Int.cast_ofNat_Int, reduceIte, Nat.reduceEqDiff, reduceCtorEq, Nat.reduceAdd, Nat.reduceSub, Nat.reduceMul, Int.reduceToNat, Nat.reduceLeDiff])
        | fail
    all_goals (first | (simp only [VM.reachR, if_neg hb, Int.toNat_natCast]; done) | fail)

theorem view_Reach_nil_q (who loc : Int) : ConQ Try.prog 12 #[.pointer none, vi who, vi loc] M (ie (0, 1)) := by
  refine Con.enter Q73_ok (args := [.pointer none, vi who, vi loc]) (by simp [Q73]) fun w0 => ?_
  simp only [Q73, argE]
  repeat' first
      | refine EV.seq ?_
      | (refine EV.reg ?_; (conv => (arg 2; whnf)); simp only [push_cast, Int.cast_ofNat_Int, reduceIte, Nat.reduceEqDiff, reduceCtorEq, Nat.reduceAdd, Nat.reduceSub, Nat.reduceMul, Int.reduceToNat, Nat.reduceLeDiff])
      | (refine ConQ.call (view_there_nil_q) ?_; try simp only [push_cast, Int.cast_ofNat_Int, reduceIte, Nat.reduceEqDiff, reduceCtorEq, Nat.reduceAdd, Nat.reduceSub, Nat.reduceMul, Int.reduceToNat, Nat.reduceLeDiff])
      | (refine condW.intro (fun hc => ?_) (fun hc => ?_) <;> try simp only [ne_eq, Bool.not_true, Bool.not_false, not_true_eq_false, not_false_eq_true, reduceCtorEq] at hc <;> try (exfalso; first | exact hc | omega | (simp at hc; done)))
      | ((refine EV.cond rfl (fun h => ?_) (fun h => ?_) <;> try simp only [reduceCtorEq, reduceIte, if_true, if_false, Bool.not_eq_true', Bool.not_eq_false', decide_eq_true_eq, decide_eq_false_iff_not, Bool.and_eq_true, Bool.or_eq_true, Bool.and_eq_false_iff, Bool.or_eq_false_iff] at h) <;> try (exfalso; first | exact h True.intro | (exact h; done) | omega | (simp only [not_true_eq_false, false_or, or_false] at h; omega)))
      | (refine EV.ret Q73_ok ?_; simp only [push_cast, Int.cast_ofNat_Int, reduceIte, Nat.reduceEqDiff, reduceCtorEq, Nat.reduceAdd, Nat.reduceSub, Nat.reduceMul, Int.reduceToNat, Nat.reduceLeDiff, Q73])
      | fail

theorem view_turn_nil_q (who : Int) : ConQ Try.prog 29 #[.pointer none, vi who] M (.tuple #[vop opZ, vi 1]) := by
  refine Con.enter Q86_ok (args := [.pointer none, vi who]) (by simp [Q86]) fun w0 => ?_
  simp only [Q86, argE]
  repeat' first
      | refine EV.seq ?_
      | (refine EV.reg ?_; (conv => (arg 2; whnf)); simp only [push_cast, Int.cast_ofNat_Int, reduceIte, Nat.reduceEqDiff, reduceCtorEq, Nat.reduceAdd, Nat.reduceSub, Nat.reduceMul, Int.reduceToNat, Nat.reduceLeDiff])
      | (refine ConQ.call (view_there_nil_q) ?_; try simp only [push_cast, Int.cast_ofNat_Int, reduceIte, Nat.reduceEqDiff, reduceCtorEq, Nat.reduceAdd, Nat.reduceSub, Nat.reduceMul, Int.reduceToNat, Nat.reduceLeDiff])
      | (refine condW.intro (fun hc => ?_) (fun hc => ?_) <;> try simp only [ne_eq, Bool.not_true, Bool.not_false, not_true_eq_false, not_false_eq_true, reduceCtorEq] at hc <;> try (exfalso; first | exact hc | omega | (simp at hc; done)))
      | ((refine EV.cond rfl (fun h => ?_) (fun h => ?_) <;> try simp only [reduceCtorEq, reduceIte, if_true, if_false, Bool.not_eq_true', Bool.not_eq_false', decide_eq_true_eq, decide_eq_false_iff_not, Bool.and_eq_true, Bool.or_eq_true, Bool.and_eq_false_iff, Bool.or_eq_false_iff] at h) <;> try (exfalso; first | exact h True.intro | (exact h; done) | omega | (simp only [not_true_eq_false, false_or, or_false] at h; omega)))
      | (refine EV.ret Q86_ok ?_; simp only [push_cast, Int.cast_ofNat_Int, reduceIte, Nat.reduceEqDiff, reduceCtorEq, Nat.reduceAdd, Nat.reduceSub, Nat.reduceMul, Int.reduceToNat, Nat.reduceLeDiff, Q86])
      | ((first | with_reducible intro b | refine xr rfl (by simp only [List.length_cons, List.length_nil]; omega) ?_ | fail); try simp only [push_cast, Int.cast_ofNat_Int, reduceIte, Nat.reduceEqDiff, reduceCtorEq, Nat.reduceAdd, Nat.reduceSub, Nat.reduceMul, Int.reduceToNat, Nat.reduceLeDiff])
      | (refine xw ?_; simp only [push_cast, Int.cast_ofNat_Int, reduceIte, Nat.reduceEqDiff, reduceCtorEq, Nat.reduceAdd, Nat.reduceSub, Nat.reduceMul, Int.reduceToNat, Nat.reduceLeDiff])
      | fail

theorem view_Choices_nil_q (who : Int) : ConQ Try.prog 22 #[.pointer none, vi who] M (ie (0, 1)) := by
  refine Con.enter Q67_ok (args := [.pointer none, vi who]) (by simp [Q67]) fun w0 => ?_
  simp only [Q67, argE]
  repeat' first
      | refine EV.seq ?_
      | (refine EV.reg ?_; (conv => (arg 2; whnf)); simp only [push_cast, Int.cast_ofNat_Int, reduceIte, Nat.reduceEqDiff, reduceCtorEq, Nat.reduceAdd, Nat.reduceSub, Nat.reduceMul, Int.reduceToNat, Nat.reduceLeDiff])
      | (refine ConQ.call (view_turn_nil_q _) ?_; try simp only [push_cast, Int.cast_ofNat_Int, reduceIte, Nat.reduceEqDiff, reduceCtorEq, Nat.reduceAdd, Nat.reduceSub, Nat.reduceMul, Int.reduceToNat, Nat.reduceLeDiff])
      | ((refine EV.cond rfl (fun h => ?_) (fun h => ?_) <;> try simp only [reduceCtorEq, reduceIte, if_true, if_false, Bool.not_eq_true', Bool.not_eq_false', decide_eq_true_eq, decide_eq_false_iff_not, Bool.and_eq_true, Bool.or_eq_true, Bool.and_eq_false_iff, Bool.or_eq_false_iff] at h) <;> try (exfalso; first | exact h True.intro | (exact h; done) | omega | (simp only [not_true_eq_false, false_or, or_false] at h; omega)))
      | (refine EV.ret Q67_ok ?_; simp only [push_cast, Int.cast_ofNat_Int, reduceIte, Nat.reduceEqDiff, reduceCtorEq, Nat.reduceAdd, Nat.reduceSub, Nat.reduceMul, Int.reduceToNat, Nat.reduceLeDiff, Q67])
      | (with_reducible intro b; try simp only [push_cast, Int.cast_ofNat_Int, reduceIte, Nat.reduceEqDiff, reduceCtorEq, Nat.reduceAdd, Nat.reduceSub, Nat.reduceMul, Int.reduceToNat, Nat.reduceLeDiff])
      | (refine xw ?_; simp only [push_cast, Int.cast_ofNat_Int, reduceIte, Nat.reduceEqDiff, reduceCtorEq, Nat.reduceAdd, Nat.reduceSub, Nat.reduceMul, Int.reduceToNat, Nat.reduceLeDiff])
      | fail

theorem turn_zero {who : Int} (h : (m.turn who).2 = 0) : ∃ w : Nat, who = w ∧ w < m.thr.length ∧ m.thr[w]!.next ≠ m.prog[w]!.length ∧ (m.turn who).1 = m.prog[w]![m.thr[w]!.next]! := by
  by_cases hb : who < 0 ∨ (m.thr.length : Int) ≤ who
  · rw [turn_bad hb] at h; cases h
  · obtain ⟨w, rfl⟩ : ∃ w : Nat, who = w := ⟨who.toNat, by omega⟩
    have hw : w < m.thr.length := by omega
    by_cases h2 : m.thr[w]!.next = m.prog[w]!.length
    · rw [turn_over hw h2] at h; cases h
    · exact ⟨w, rfl, hw, h2, by rw [turn_ok hw h2]⟩

theorem turn_okOp (wf : m.Wf B) {w : Nat} (hw : w < m.thr.length) (h2 : m.thr[w]!.next ≠ m.prog[w]!.length) : okOpE (m.prog[w]![m.thr[w]!.next]!) := by
  have hpl := wf.pl
  have hnl := wf.nx w hw
  have hlt : m.thr[w]!.next < m.prog[w]!.length := by omega
  rw [getB hlt]
  exact wf.po _ (by rw [getB (show w < m.prog.length by omega)]; exact List.getElem_mem _) _ (List.getElem_mem _)

theorem view_Choices_q (r : RdM M mp ad m) (wf : m.Wf B) (who : Int) : ConQ Try.prog 22 #[pv mp 0, vi who] M (ie (m.choicesR who)) := by
  refine Con.enter Q67_ok (args := [pv mp 0, vi who]) (by simp [Q67]) fun w0 => ?_
  simp only [Q67, argE]
  repeat' first
      | refine EV.seq ?_
      | refine EV.skip ?_
      | (refine EV.reg ?_; (conv => (arg 2; whnf)); simp only [push_cast, Int.cast_ofNat_Int, reduceIte, Nat.reduceEqDiff, reduceCtorEq, Nat.reduceAdd, Nat.reduceSub, Nat.reduceMul, Int.reduceToNat, Nat.reduceLeDiff])
      | (refine ConQ.call (view_turn_q (r.mono (PHeap.le_add _ _)) wf _) ?_; try simp only [push_cast, Int.cast_ofNat_Int, reduceIte, Nat.reduceEqDiff, reduceCtorEq, Nat.reduceAdd, Nat.reduceSub, Nat.reduceMul, Int.reduceToNat, Nat.reduceLeDiff])
      | ((refine EV.cond rfl (fun h => ?_) (fun h => ?_) <;> try simp only [reduceCtorEq, reduceIte, if_true, if_false, Bool.not_eq_true', Bool.not_eq_false', decide_eq_true_eq, decide_eq_false_iff_not, Bool.and_eq_true, Bool.or_eq_true, Bool.and_eq_false_iff, Bool.or_eq_false_iff] at h) <;> try (exfalso; first | exact h True.intro | (exact h; done) | omega | (simp only [not_true_eq_false, false_or, or_false] at h; omega)))
      | (refine EV.ret Q67_ok ?_; simp only [push_cast, Int.cast_ofNat_Int, reduceIte, Nat.reduceEqDiff, reduceCtorEq, Nat.reduceAdd, Nat.reduceSub, Nat.reduceMul, Int.reduceToNat, Nat.reduceLeDiff, Q67])
      | ((first | with_reducible intro b | refine xr rfl (by simp only [List.length_cons, List.length_nil]; omega) ?_ | fail); try simp only [push_cast, Int.cast_ofNat_Int, reduceIte, Nat.reduceEqDiff, reduceCtorEq, Nat.reduceAdd, Nat.reduceSub, Nat.reduceMul, Int.reduceToNat, Nat.reduceLeDiff])
      | (refine xw ?_; simp only [push_cast, Int.cast_ofNat_Int, reduceIte, Nat.reduceEqDiff, reduceCtorEq, Nat.reduceAdd, Nat.reduceSub, Nat.reduceMul, Int.reduceToNat, Nat.reduceLeDiff])
      | fail
  · simp only [VM.choicesR, ne_eq, h, not_false_eq_true, if_true]
  · obtain ⟨w, rfl, hw, hw2, e⟩ := turn_zero h
    have ho := turn_okOp wf hw hw2
    rw [← e] at ho
    refine Con.callB (G1 := []) (view_choices_c (r.mono (PHeap.le_add _ _)) wf hw _ ho) (PHeap.le_refl _) (List.Perm.refl _) ?_
    rintro v M' G' ⟨ov, rfl, hov, rfl⟩
    repeat' first
        | (refine EV.ret Q67_ok ?_; simp only [push_cast, Int.cast_ofNat_Int, reduceIte, Nat.reduceEqDiff, reduceCtorEq, Nat.reduceAdd, Nat.reduceSub, Nat.reduceMul, Int.reduceToNat, Nat.reduceLeDiff, Q67])
        | fail
    simp only [VM.choicesR, h, ne_eq, not_true_eq_false, if_false, Int.toNat_natCast]

end
end Go.EV

namespace Go.EV
open Go.Proofs
section
variable {M : PHeap} {mp : Nat} {ad : Ad} {m : VM} {B : Nat}

/-- A row of numbers and an error. -/
def RowT (L : List Int) (e : Int) (v : Value) (_ : PHeap) (G' : Own) : Prop :=
  ∃ ov, v = .tuple #[osv ov L.length, vi e] ∧ osok 1 ov L.length (L.map vi) ∧ G' = osg 3 ov (L.map vi)
def RowC (L : List Int) (v : Value) (_ : PHeap) (G' : Own) : Prop :=
  ∃ ov, v = osv ov L.length ∧ osok 1 ov L.length (L.map vi) ∧ G' = osg 3 ov (L.map vi)

def VM.wordOf (m : VM) (n : Int) : Int := m.msgs[n.toNat]!.word
def VM.wordsR (m : VM) (loc : Int) : List Int × Int := if loc < 0 ∨ 3 ≤ loc then ([], 1) else ((m.line loc.toNat).map m.wordOf, 0)
def VM.lastW (m : VM) (l : Nat) : Int := m.wordOf (m.line l)[(m.line l).length - 1]!
def VM.outcome (m : VM) : List Int := (m.thr.map (·.read)).flatten ++ (List.range 3).map m.lastW
def VM.outcomeR (m : VM) : List Int × Int := if m.over then (m.outcome, 0) else ([], 7)

set_option maxRecDepth 8000 in
set_option maxHeartbeats 4000000 in
theorem view_Words_c (r : RdM M mp ad m) (wf : m.Wf B) (loc : Int) : Con Try.prog 24 #[pv mp 0, vi loc] M [] (RowT (m.wordsR loc).1 (m.wordsR loc).2) := by
  refine Con.enter Q75_ok (args := [pv mp 0, vi loc]) (by simp [Q75]) fun w0 => ?_
  simp only [Q75, argE]
  by_cases hb : loc < 0 ∨ 3 ≤ loc
  · have e : m.wordsR loc = ([], 1) := by simp only [VM.wordsR, if_pos hb]
    rw [e]
    repeat' first
        | refine EV.seq ?_
        | (refine EV.reg ?_; (conv => (arg 2; whnf)); simp only [push_cast, Int.cast_ofNat_Int, reduceIte, Nat.reduceEqDiff, reduceCtorEq, Nat.reduceAdd, Nat.reduceSub, Nat.reduceMul, Int.reduceToNat, Nat.reduceLeDiff])
        | (refine ConQ.call (view_there_q (r.mono (PHeap.le_add _ _)) wf) ?_; try simp only [push_cast, Int.cast_ofNat_Int, reduceIte, Nat.reduceEqDiff, reduceCtorEq, Nat.reduceAdd, Nat.reduceSub, Nat.reduceMul, Int.reduceToNat, Nat.reduceLeDiff])
        | assumption
        | (refine condW.merge ?_ (fun hc K' hK => ?_) ?_; rotate_left)
        | ((refine EV.cond rfl (fun h => ?_) (fun h => ?_) <;> try simp only [reduceCtorEq, reduceIte, if_true, if_false, Bool.not_eq_true', Bool.not_eq_false', decide_eq_true_eq, decide_eq_false_iff_not, Bool.and_eq_true, Bool.or_eq_true, Bool.and_eq_false_iff, Bool.or_eq_false_iff] at h) <;> try (exfalso; first | exact h True.intro | (exact h; done) | omega | (simp only [not_true_eq_false, false_or, or_false] at h; omega)))
        | (refine EV.ret Q75_ok ?_; simp only [push_cast, Int.cast_ofNat_Int, reduceIte, Nat.reduceEqDiff, reduceCtorEq, Nat.reduceAdd, Nat.reduceSub, Nat.reduceMul, Int.reduceToNat, Nat.reduceLeDiff, Q75])
        | fail
    exact ⟨none, rfl, ⟨rfl, rfl⟩, rfl⟩
  · obtain ⟨l, rfl⟩ : ∃ l : Nat, loc = l := ⟨loc.toNat, by omega⟩
    have hl : l < 3 := by omega
    have e : m.wordsR l = ((m.line l).map m.wordOf, 0) := by simp only [VM.wordsR, if_neg hb, Int.toNat_natCast]
    rw [e]
    have h1 := r.f1
    have h2 := r.fl hl
    have hlb := wf.ll l hl
    have hB := wf.b0
    repeat' first
        | refine EV.seq ?_
        | refine EV.skip ?_
        | refine EV.block ?_
        | (refine EV.reg ?_; (conv => (arg 2; whnf)); simp only [push_cast, Int.cast_ofNat_Int, reduceIte, Nat.reduceEqDiff, reduceCtorEq, Nat.reduceAdd, Nat.reduceSub, Nat.reduceMul, Int.reduceToNat, Nat.reduceLeDiff])
        | (refine ConQ.call (view_there_q (r.mono (PHeap.le_add _ _)) wf) ?_; try simp only [push_cast, Int.cast_ofNat_Int, reduceIte, Nat.reduceEqDiff, reduceCtorEq, Nat.reduceAdd, Nat.reduceSub, Nat.reduceMul, Int.reduceToNat, Nat.reduceLeDiff])
        | assumption
        | (refine condW.merge ?_ (fun hc K' hK => ?_) ?_; rotate_left)
        | ((refine EV.cond rfl (fun h => ?_) (fun h => ?_) <;> try simp only [reduceCtorEq, reduceIte, if_true, if_false, Bool.not_eq_true', Bool.not_eq_false', decide_eq_true_eq, decide_eq_false_iff_not, Bool.and_eq_true, Bool.or_eq_true, Bool.and_eq_false_iff, Bool.or_eq_false_iff] at h) <;> try (exfalso; first | exact h True.intro | (exact h; done) | omega | (simp only [not_true_eq_false, false_or, or_false] at h; omega)))
        | (refine And.intro (by omega) ?_)
        | (refine Exists.intro _ (Exists.intro _ (Exists.intro _ (And.intro (rd_M (by assumption)) ?_))); try simp only [push_cast, Int.cast_ofNat_Int, reduceIte, Nat.reduceEqDiff, reduceCtorEq, Nat.reduceAdd, Nat.reduceSub, Nat.reduceMul, Int.reduceToNat, Nat.reduceLeDiff])
        | fail
    refine EV.to (ρ' := [(0, pv mp 0), (6, osv none ((m.line l).take 0 |>.map m.wordOf).length), (25, rowV (ad.lb l) (m.line l).length (ad.lc l)), (26, vi (m.line l).length), (27, vi (0 : Nat))]) (G' := osg 3 none (((m.line l).take 0 |>.map m.wordOf).map vi)) ?_ ?env1 (by (repeat' first | exact List.Sublist.refl _ | exact List.nil_sublist _ | exact List.sublist_append_left _ _ | refine List.Sublist.cons_cons _ ?_ | refine List.Sublist.append_left ?_ _ | refine List.sublist_append_of_sublist_right ?_ | refine List.Sublist.cons _ ?_))
    case env1 =>
      repeat' first
        | (refine List.forall_mem_cons.2 (And.intro ?_ ?_))
        | (intro _ hnil; cases hnil; done)
        | rfl
        | fail
    refine EV.loop (fun x : Nat × Vec => ([(0, pv mp 0), (6, osv x.2 ((m.line l).take x.1 |>.map m.wordOf).length), (25, rowV (ad.lb l) (m.line l).length (ad.lc l)), (26, vi (m.line l).length), (27, vi x.1)], M, osg 3 x.2 (((m.line l).take x.1 |>.map m.wordOf).map vi)))
      (fun x => x.1 ≤ (m.line l).length ∧ osok 1 x.2 ((m.line l).take x.1 |>.map m.wordOf).length (((m.line l).take x.1 |>.map m.wordOf).map vi))
      (fun x => (m.line l).length - x.1) (0, none) ⟨Nat.zero_le _, rfl, rfl⟩ ?_
    rintro ⟨i, ov⟩ ⟨hi, hov⟩ ih
    dsimp only at hi hov ih ⊢
    obtain ⟨L, hL⟩ : ∃ L, L = ((m.line l).take i).map m.wordOf := ⟨_, rfl⟩
    have hLl : L.length ≤ i := by rw [hL]; simp; omega
    rw [← hL] at hov ⊢
    repeat' first
        | refine EV.seq ?_
        | refine EV.skip ?_
        | refine EV.block ?_
        | (refine EV.reg ?_; (conv => (arg 2; whnf)); simp only [push_cast, Int.cast_ofNat_Int, reduceIte, Nat.reduceEqDiff, reduceCtorEq, Nat.reduceAdd, Nat.reduceSub, Nat.reduceMul, Int.reduceToNat, Nat.reduceLeDiff])
        | ((refine EV.cond rfl (fun h => ?_) (fun h => ?_) <;> try simp only [reduceCtorEq, reduceIte, if_true, if_false, Bool.not_eq_true', Bool.not_eq_false', decide_eq_true_eq, decide_eq_false_iff_not, Bool.and_eq_true, Bool.or_eq_true, Bool.and_eq_false_iff, Bool.or_eq_false_iff] at h) <;> try (exfalso; first | exact h True.intro | (exact h; done) | omega | (simp only [not_true_eq_false, false_or, or_false] at h; omega)))
        | (refine EV.exit rfl ?_)
        | (refine And.intro (by omega) ?_)
        | fail
    · have hi' : i < (m.line l).length := by omega
      have hli := r.line hl hi'
      obtain ⟨hn1, hn2⟩ := wf.le l hl ((m.line l)[i]!) (by rw [getB hi']; exact List.getElem_mem _)
      have hwd := r.word (n := (m.line l)[i]!.toNat) (by omega)
      repeat' first
          | (refine EV.reg ?_; (conv => (arg 2; whnf)); simp only [push_cast, Int.cast_ofNat_Int, reduceIte, Nat.reduceEqDiff, reduceCtorEq, Nat.reduceAdd, Nat.reduceSub, Nat.reduceMul, Int.reduceToNat, Nat.reduceLeDiff])
          | (with_reducible intro b; try simp only [push_cast, Int.cast_ofNat_Int, reduceIte, Nat.reduceEqDiff, reduceCtorEq, Nat.reduceAdd, Nat.reduceSub, Nat.reduceMul, Int.reduceToNat, Nat.reduceLeDiff])
          | (refine And.intro (by omega) ?_)
          | ((first | refine Exists.intro _ (And.intro (rd_M (by assumption)) ?_) | refine Exists.intro _ (Exists.intro _ (Exists.intro _ (And.intro (rd_M (by assumption)) ?_))) | fail); try simp only [push_cast, Int.cast_ofNat_Int, reduceIte, Nat.reduceEqDiff, reduceCtorEq, Nat.reduceAdd, Nat.reduceSub, Nat.reduceMul, Int.reduceToNat, Nat.reduceLeDiff])
          | fail
      refine ⟨_, Or.inr ⟨_, 0, rfl, rd_own' 0 rfl rfl (by simp)⟩, by simp [ok1_cons, ok1_nil, Value.oneCell'], Or.inl ⟨_, _, rfl, _, hov, _, cat_pull [[_], osg 3 ov _] 1 (by simp), ?_, ?_, ?_⟩⟩
      · simp only [maxLen]; omega
      · omega
      intro o1 ho1 _
      simp only [List.eraseIdx_cons_succ, List.eraseIdx_cons_zero, List.getElem_cons_succ, List.getElem_cons_zero, cat_two, cat_one, cat_nil, List.nil_append, List.cons_append, List.append_assoc, List.append_nil]
      repeat' first
          | refine EV.inBlock ?_
          | (refine EV.reg ?_; (conv => (arg 2; whnf)); simp only [push_cast, Int.cast_ofNat_Int, reduceIte, Nat.reduceEqDiff, reduceCtorEq, Nat.reduceAdd, Nat.reduceSub, Nat.reduceMul, Int.reduceToNat, Nat.reduceLeDiff])
          | fail
      have e2 : ((m.line l).take (i + 1)).map m.wordOf = L ++ [m.wordOf (m.line l)[i]!] := by
        rw [List.take_succ_eq_append_getElem hi', List.map_append, hL, getB hi']; rfl
      have ih3 := ih (i + 1, o1) ⟨by dsimp only; omega, by dsimp only; rw [e2]; simpa [VM.wordOf] using ho1⟩ (by dsimp only; omega)
      simp only [e2, List.length_append, List.map_append] at ih3
      refine EV.to ih3 ?_ (by (repeat' first | exact List.Sublist.refl _ | exact List.nil_sublist _ | exact List.sublist_append_left _ _ | refine List.Sublist.cons_cons _ ?_ | refine List.Sublist.append_left ?_ _ | refine List.sublist_append_of_sublist_right ?_ | refine List.Sublist.cons _ ?_))
      repeat' first
        | (refine List.forall_mem_cons.2 (And.intro ?_ ?_))
        | (intro _ hnil; cases hnil; done)
        | rfl
        | (refine env_w64 rfl (by first | rfl | (push_cast; first | rfl | omega)) (by omega) (by omega); done)
        | fail
    · have e3 : i = (m.line l).length := by omega
      subst e3
      rw [List.take_length] at hL
      refine EV.ret Q75_ok ?_
      simp only [push_cast, Int.cast_ofNat_Int, reduceIte, Nat.reduceEqDiff, reduceCtorEq, Nat.reduceAdd, Nat.reduceSub, Nat.reduceMul, Int.reduceToNat, Nat.reduceLeDiff, Q75]
      rw [← hL]
      exact ⟨ov, rfl, hov, rfl⟩

theorem RdM.f234 (r : RdM M mp ad m) : rd M mp 2 3 [rowV (ad.lb 0) (m.line 0).length (ad.lc 0), rowV (ad.lb 1) (m.line 1).length (ad.lc 1), rowV (ad.lb 2) (m.line 2).length (ad.lc 2)] := r.hd.part0 2 3 (by omega) rfl

set_option maxRecDepth 8000 in
set_option maxHeartbeats 4000000 in
theorem view_outcome_c (r : RdM M mp ad m) (wf : m.Wf B) : Con Try.prog 38 #[pv mp 0] M [] (RowC m.outcome) := by
  have h5 := r.f5
  have h1 := r.f1
  have hf2 := r.f234
  have hB := wf.b0
  have ht3 := wf.t3
  refine Con.enter Q82_ok (args := [pv mp 0]) (by simp [Q82]) fun w0 => ?_
  simp only [Q82, argE]
  repeat' first
      | refine EV.seq ?_
      | refine EV.block ?_
      | (refine EV.reg ?_; (conv => (arg 2; whnf)); simp only [push_cast, Int.cast_ofNat_Int, reduceIte, Nat.reduceEqDiff, reduceCtorEq, Nat.reduceAdd, Nat.reduceSub, Nat.reduceMul, Int.reduceToNat, Nat.reduceLeDiff])
      | (refine Exists.intro _ (Exists.intro _ (Exists.intro _ (And.intro (rd_M (by assumption)) ?_))); try simp only [push_cast, Int.cast_ofNat_Int, reduceIte, Nat.reduceEqDiff, reduceCtorEq, Nat.reduceAdd, Nat.reduceSub, Nat.reduceMul, Int.reduceToNat, Nat.reduceLeDiff])
      | fail
  refine EV.to (ρ' := [(0, pv mp 0), (3, osv none ((m.thr.take 0).map (·.read)).flatten.length), (11, rowV ad.tb m.thr.length ad.tc), (12, vi m.thr.length), (13, vi (0 : Nat))]) (G' := osg 3 none (((m.thr.take 0).map (·.read)).flatten.map vi)) ?_ ?env1 (by (repeat' first | exact List.Sublist.refl _ | exact List.nil_sublist _ | exact List.sublist_append_left _ _ | refine List.Sublist.cons_cons _ ?_ | refine List.Sublist.append_left ?_ _ | refine List.sublist_append_of_sublist_right ?_ | refine List.Sublist.cons _ ?_))
  case env1 =>
    repeat' first
      | (refine List.forall_mem_cons.2 (And.intro ?_ ?_))
      | (intro _ hnil; cases hnil; done)
      | rfl
      | fail
  refine EV.loop (fun x : Nat × Vec => ([(0, pv mp 0), (3, osv x.2 ((m.thr.take x.1).map (·.read)).flatten.length), (11, rowV ad.tb m.thr.length ad.tc), (12, vi m.thr.length), (13, vi x.1)], M, osg 3 x.2 (((m.thr.take x.1).map (·.read)).flatten.map vi)))
    (fun x => x.1 ≤ m.thr.length ∧ ((m.thr.take x.1).map (·.read)).flatten.length ≤ x.1 * B ∧ osok 1 x.2 ((m.thr.take x.1).map (·.read)).flatten.length (((m.thr.take x.1).map (·.read)).flatten.map vi))
    (fun x => m.thr.length - x.1) (0, none) ⟨Nat.zero_le _, by simp, rfl, rfl⟩ ?_
  rintro ⟨i, ov⟩ ⟨hi, hLl, hov⟩ ih
  dsimp only at hi hLl hov ih ⊢
  obtain ⟨L, hL⟩ : ∃ L, L = ((m.thr.take i).map (·.read)).flatten := ⟨_, rfl⟩
  rw [← hL] at hov hLl ⊢
  have hLb : L.length ≤ 3 * 1000000 := by
    have : i * B ≤ 3 * 1000000 := Nat.mul_le_mul (by omega) (by omega)
    omega
  repeat' first
      | refine EV.seq ?_
      | refine EV.skip ?_
      | refine EV.block ?_
      | (refine EV.reg ?_; (conv => (arg 2; whnf)); simp only [push_cast, Int.cast_ofNat_Int, reduceIte, Nat.reduceEqDiff, reduceCtorEq, Nat.reduceAdd, Nat.reduceSub, Nat.reduceMul, Int.reduceToNat, Nat.reduceLeDiff])
      | ((refine EV.cond rfl (fun h => ?_) (fun h => ?_) <;> try simp only [reduceCtorEq, reduceIte, if_true, if_false, Bool.not_eq_true', Bool.not_eq_false', decide_eq_true_eq, decide_eq_false_iff_not, Bool.and_eq_true, Bool.or_eq_true, Bool.and_eq_false_iff, Bool.or_eq_false_iff] at h) <;> try (exfalso; first | exact h True.intro | (exact h; done) | omega | (simp only [not_true_eq_false, false_or, or_false] at h; omega)))
      | (refine EV.exit rfl ?_)
      | (refine And.intro (by omega) ?_)
      | (refine Exists.intro _ (And.intro (rd_M (by assumption)) ?_); try simp only [push_cast, Int.cast_ofNat_Int, reduceIte, Nat.reduceEqDiff, reduceCtorEq, Nat.reduceAdd, Nat.reduceSub, Nat.reduceMul, Int.reduceToNat, Nat.reduceLeDiff])
      | fail
  · have hi' : i < m.thr.length := by omega
    have hth := r.thr hi'
    have hrr := r.rr i hi' (by rw [r.rl]; exact hi')
    rw [← getB hi', ← getB (show i < ad.ra.length by rw [r.rl]; exact hi')] at hrr
    simp only [encThr] at hth
    have hrb := wf.rb m.thr[i]! (by rw [getB hi']; exact List.getElem_mem _)
    repeat' first
        | (refine EV.reg ?_; (conv => (arg 2; whnf)); simp only [push_cast, Int.cast_ofNat_Int, reduceIte, Nat.reduceEqDiff, reduceCtorEq, Nat.reduceAdd, Nat.reduceSub, Nat.reduceMul, Int.reduceToNat, Nat.reduceLeDiff])
        | ((first | with_reducible intro b | refine Exists.intro _ (And.intro (rd_M (by assumption)) ?_) | refine xs rfl (by simp only [List.length_cons, List.length_nil]; omega) ?_ | fail); try simp only [push_cast, Int.cast_ofNat_Int, reduceIte, Nat.reduceEqDiff, reduceCtorEq, Nat.reduceAdd, Nat.reduceSub, Nat.reduceMul, Int.reduceToNat, Nat.reduceLeDiff])
        | (refine xw ?_; simp only [push_cast, Int.cast_ofNat_Int, reduceIte, Nat.reduceEqDiff, reduceCtorEq, Nat.reduceAdd, Nat.reduceSub, Nat.reduceMul, Int.reduceToNat, Nat.reduceLeDiff])
        | fail
    have hokr : ok1 (m.thr[i]!.read.map vi) := by
      intro v hv
      obtain ⟨y, _, rfl⟩ := List.mem_map.1 hv
      rfl
    refine ⟨_, (rdS_M hrr),  hokr, Or.inl ⟨_, _, rfl, _, hov, _, cat_pull [[_], osg 3 ov _] 1 (by simp), ?_, ?_, ?_⟩⟩
    · simp only [maxLen]; omega
    · omega
    intro o1 ho1 _
    simp only [List.eraseIdx_cons_succ, List.eraseIdx_cons_zero, List.getElem_cons_succ, List.getElem_cons_zero, cat_two, cat_one, cat_nil, List.nil_append, List.cons_append, List.append_assoc, List.append_nil]
    repeat' first
        | refine EV.inBlock ?_
        | (refine EV.reg ?_; (conv => (arg 2; whnf)); simp only [push_cast, Int.cast_ofNat_Int, reduceIte, Nat.reduceEqDiff, reduceCtorEq, Nat.reduceAdd, Nat.reduceSub, Nat.reduceMul, Int.reduceToNat, Nat.reduceLeDiff])
        | fail
    have e2 : ((m.thr.take (i + 1)).map (·.read)).flatten = L ++ m.thr[i]!.read := by
      rw [List.take_succ_eq_append_getElem hi', List.map_append, List.flatten_append, ← hL, getB hi']; simp
    have ih3 := ih (i + 1, o1) ⟨by dsimp only; omega, by dsimp only; rw [e2, List.length_append, Nat.succ_mul]; omega, by dsimp only; rw [e2]; simpa using ho1⟩ (by dsimp only; omega)
    simp only [e2, List.length_append, List.map_append] at ih3
    refine EV.to ih3 ?_ (by (repeat' first | exact List.Sublist.refl _ | exact List.nil_sublist _ | exact List.sublist_append_left _ _ | refine List.Sublist.cons_cons _ ?_ | refine List.Sublist.append_left ?_ _ | refine List.sublist_append_of_sublist_right ?_ | refine List.Sublist.cons _ ?_))
    repeat' first
      | (refine List.forall_mem_cons.2 (And.intro ?_ ?_))
      | (intro _ hnil; cases hnil; done)
      | rfl
      | (refine env_w64 rfl (by first | rfl | (push_cast; first | rfl | omega)) (by omega) (by omega); done)
      | fail
  · have e3 : i = m.thr.length := by omega
    subst e3
    rw [List.take_length] at hL
    have hout : ∀ k, L ++ (List.range (k + 1)).map m.lastW = (L ++ (List.range k).map m.lastW) ++ [m.lastW k] := fun k => by rw [List.range_succ, List.map_append, List.append_assoc]; rfl
    obtain ⟨O, hO⟩ : ∃ O : Nat → List Int, O = fun k => L ++ (List.range k).map m.lastW := ⟨_, rfl⟩
    have hO0 : O 0 = L := by rw [hO]; simp
    have hO3 : O 3 = m.outcome := by rw [hO, hL]; rfl
    have hOs : ∀ k, O (k + 1) = O k ++ [m.lastW k] := fun k => by rw [hO]; exact hout k
    have hOl : ∀ k, (O k).length = L.length + k := fun k => by rw [hO]; simp
    rw [← hO3]
    rw [← hO0] at hov
    clear hout
    refine EV.to (ρ' := [(0, pv mp 0), (3, osv ov (O 0).length), (25, .agg #[rowV (ad.lb 0) (m.line 0).length (ad.lc 0), rowV (ad.lb 1) (m.line 1).length (ad.lc 1), rowV (ad.lb 2) (m.line 2).length (ad.lc 2)]), (26, vi (0 : Nat))]) (G' := osg 3 ov ((O 0).map vi)) ?_ ?env2 (by rw [hO0]; exact List.Sublist.refl _)
    case env2 =>
      rw [hO0]
      repeat' first
        | (refine List.forall_mem_cons.2 (And.intro ?_ ?_))
        | (intro _ hnil; cases hnil; done)
        | rfl
        | fail
    refine EV.loop (fun x : Nat × Vec => ([(0, pv mp 0), (3, osv x.2 (O x.1).length), (25, .agg #[rowV (ad.lb 0) (m.line 0).length (ad.lc 0), rowV (ad.lb 1) (m.line 1).length (ad.lc 1), rowV (ad.lb 2) (m.line 2).length (ad.lc 2)]), (26, vi x.1)], M, osg 3 x.2 ((O x.1).map vi)))
      (fun x => x.1 ≤ 3 ∧ osok 1 x.2 (O x.1).length ((O x.1).map vi)) (fun x => 3 - x.1) (0, ov) ⟨by dsimp only; omega, hov⟩ ?_
    rintro ⟨l, ov⟩ ⟨hl, hov⟩ ih
    dsimp only at hl hov ih ⊢
    have hOll := hOl l
    repeat' first
        | refine EV.seq ?_
        | refine EV.skip ?_
        | refine EV.block ?_
        | (refine EV.reg ?_; (conv => (arg 2; whnf)); simp only [push_cast, Int.cast_ofNat_Int, reduceIte, Nat.reduceEqDiff, reduceCtorEq, Nat.reduceAdd, Nat.reduceSub, Nat.reduceMul, Int.reduceToNat, Nat.reduceLeDiff])
        | ((refine EV.cond rfl (fun h => ?_) (fun h => ?_) <;> try simp only [reduceCtorEq, reduceIte, if_true, if_false, Bool.not_eq_true', Bool.not_eq_false', decide_eq_true_eq, decide_eq_false_iff_not, Bool.and_eq_true, Bool.or_eq_true, Bool.and_eq_false_iff, Bool.or_eq_false_iff] at h) <;> try (exfalso; first | exact h True.intro | (exact h; done) | omega | (simp only [not_true_eq_false, false_or, or_false] at h; omega)))
        | (refine EV.exit rfl ?_)
        | (refine And.intro (by omega) ?_)
        | fail
    · have hl' : l < 3 := by omega
      have h25 : [rowV (ad.lb 0) (m.line 0).length (ad.lc 0), rowV (ad.lb 1) (m.line 1).length (ad.lc 1), rowV (ad.lb 2) (m.line 2).length (ad.lc 2)][l]? = some (rowV (ad.lb l) (m.line l).length (ad.lc l)) := by
        match l, hl' with
        | 0, _ => rfl
        | 1, _ => rfl
        | 2, _ => rfl
      have hlp := wf.lp l hl'
      have hlb := wf.ll l hl'
      have hli := r.line hl' (i := (m.line l).length - 1) (by omega)
      obtain ⟨hn1, hn2⟩ := wf.le l hl' ((m.line l)[(m.line l).length - 1]!) (by rw [getB (by omega)]; exact List.getElem_mem _)
      have hwd := r.word (n := (m.line l)[(m.line l).length - 1]!.toNat) (by omega)
      have hw1 : IntKind.i64.wrap (((m.line l).length : Int) - 1) = ((m.line l).length : Int) - 1 := w64 (by omega) (by omega)
      have hw2 : (((m.line l).length : Int) - 1).toNat = (m.line l).length - 1 := by omega
      simp only [h25, onv_some]
      repeat' first
          | (refine EV.any _ (List.Sublist.refl _) ?_; (conv => (arg 2; whnf)); simp only [push_cast, Int.cast_ofNat_Int, reduceIte, Nat.reduceEqDiff, reduceCtorEq, Nat.reduceAdd, Nat.reduceSub, Nat.reduceMul, Int.reduceToNat, Nat.reduceLeDiff, hw1, hw2])
          | (with_reducible intro b; try simp only [push_cast, Int.cast_ofNat_Int, reduceIte, Nat.reduceEqDiff, reduceCtorEq, Nat.reduceAdd, Nat.reduceSub, Nat.reduceMul, Int.reduceToNat, Nat.reduceLeDiff, hw1, hw2])
          | (refine And.intro (by omega) ?_)
          | ((first | refine Exists.intro _ (And.intro (rd_M (by assumption)) ?_) | refine Exists.intro _ (Exists.intro _ (Exists.intro _ (And.intro (rd_M (by assumption)) ?_))) | fail); try simp only [push_cast, Int.cast_ofNat_Int, reduceIte, Nat.reduceEqDiff, reduceCtorEq, Nat.reduceAdd, Nat.reduceSub, Nat.reduceMul, Int.reduceToNat, Nat.reduceLeDiff, hw1, hw2])
          | (refine And.intro (PHeap.le_refl _) (And.intro (fun p hp => List.mem_cons_of_mem _ hp) ?_))
          | fail
      refine ⟨_, Or.inr ⟨_, 0, rfl, rd_own' 0 rfl rfl (by simp)⟩, by simp [ok1_cons, ok1_nil, Value.oneCell'], Or.inl ⟨_, _, rfl, _, hov, _, cat_pull [[_], osg 3 ov _] 1 (by simp), ?_, ?_, ?_⟩⟩
      · simp only [maxLen]; omega
      · omega
      intro o1 ho1 _
      simp only [List.eraseIdx_cons_succ, List.eraseIdx_cons_zero, List.getElem_cons_succ, List.getElem_cons_zero, cat_two, cat_one, cat_nil, List.nil_append, List.cons_append, List.append_assoc, List.append_nil]
      repeat' first
          | refine EV.inBlock ?_
          | (refine EV.reg ?_; (conv => (arg 2; whnf)); simp only [push_cast, Int.cast_ofNat_Int, reduceIte, Nat.reduceEqDiff, reduceCtorEq, Nat.reduceAdd, Nat.reduceSub, Nat.reduceMul, Int.reduceToNat, Nat.reduceLeDiff])
          | fail
      have ih3 := ih (l + 1, o1) ⟨by dsimp only; omega, by dsimp only; rw [hOs l]; simpa [VM.lastW, VM.wordOf] using ho1⟩ (by dsimp only; omega)
      simp only [hOs l, List.length_append, List.map_append] at ih3
      refine EV.to ih3 ?_ (by (repeat' first | exact List.Sublist.refl _ | exact List.nil_sublist _ | exact List.sublist_append_left _ _ | refine List.Sublist.cons_cons _ ?_ | refine List.Sublist.append_left ?_ _ | refine List.sublist_append_of_sublist_right ?_ | refine List.Sublist.cons _ ?_))
      repeat' first
        | (refine List.forall_mem_cons.2 (And.intro ?_ ?_))
        | (intro _ hnil; cases hnil; done)
        | rfl
        | (refine env_w64 rfl (by first | rfl | (push_cast; first | rfl | omega)) (by omega) (by omega); done)
        | fail
    · have e3 : l = 3 := by omega
      subst e3
      refine EV.ret Q82_ok ?_
      simp only [push_cast, Int.cast_ofNat_Int, reduceIte, Nat.reduceEqDiff, reduceCtorEq, Nat.reduceAdd, Nat.reduceSub, Nat.reduceMul, Int.reduceToNat, Nat.reduceLeDiff, Q82]
      exact ⟨ov, rfl, hov, rfl⟩

theorem view_Outcome_c (r : RdM M mp ad m) (wf : m.Wf B) : Con Try.prog 25 #[pv mp 0] M [] (RowT m.outcomeR.1 m.outcomeR.2) := by
  refine Con.enter Q70_ok (args := [pv mp 0]) (by simp [Q70]) fun w0 => ?_
  simp only [Q70, argE]
  repeat' first
      | refine EV.seq ?_
      | refine EV.skip ?_
      | (refine EV.reg ?_; (conv => (arg 2; whnf)); simp only [push_cast, Int.cast_ofNat_Int, reduceIte, Nat.reduceEqDiff, reduceCtorEq, Nat.reduceAdd, Nat.reduceSub, Nat.reduceMul, Int.reduceToNat, Nat.reduceLeDiff])
      | ((first | refine ConQ.call (view_Over_q (r.mono (PHeap.le_add _ _)) wf) ?_ | refine ConQ.call (view_there_q (r.mono (PHeap.le_add _ _)) wf) ?_ | fail); try simp only [push_cast, Int.cast_ofNat_Int, reduceIte, Nat.reduceEqDiff, reduceCtorEq, Nat.reduceAdd, Nat.reduceSub, Nat.reduceMul, Int.reduceToNat, Nat.reduceLeDiff])
      | ((refine EV.cond rfl (fun h => ?_) (fun h => ?_) <;> try simp only [reduceCtorEq, reduceIte, if_true, if_false, Bool.not_eq_true', Bool.not_eq_false', decide_eq_true_eq, decide_eq_false_iff_not, Bool.and_eq_true, Bool.or_eq_true, Bool.and_eq_false_iff, Bool.or_eq_false_iff] at h) <;> try (exfalso; first | exact h True.intro | (exact h; done) | omega | (simp only [not_true_eq_false, false_or, or_false] at h; omega)))
      | fail
  · refine EV.ret Q70_ok ?_
    simp only [push_cast, Int.cast_ofNat_Int, reduceIte, Nat.reduceEqDiff, reduceCtorEq, Nat.reduceAdd, Nat.reduceSub, Nat.reduceMul, Int.reduceToNat, Nat.reduceLeDiff, Q70]
    have e : m.outcomeR = ([], 7) := by simp only [VM.outcomeR, h, Bool.false_eq_true, if_false]
    rw [e]
    exact ⟨none, rfl, ⟨rfl, rfl⟩, rfl⟩
  · refine Con.callB (G1 := []) (view_outcome_c r wf) (PHeap.le_add _ _) (List.Perm.refl _) ?_
    rintro v M1 G1 ⟨ov, rfl, hov, rfl⟩
    simp only [push_cast, Int.cast_ofNat_Int, reduceIte, Nat.reduceEqDiff, reduceCtorEq, Nat.reduceAdd, Nat.reduceSub, Nat.reduceMul, Int.reduceToNat, Nat.reduceLeDiff]
    repeat' first
        | (refine EV.ret Q70_ok ?_; simp only [push_cast, Int.cast_ofNat_Int, reduceIte, Nat.reduceEqDiff, reduceCtorEq, Nat.reduceAdd, Nat.reduceSub, Nat.reduceMul, Int.reduceToNat, Nat.reduceLeDiff, Q70])
        | fail
    have e : m.outcomeR = (m.outcome, 0) := by simp only [VM.outcomeR, h, if_true]
    rw [e]
    exact ⟨ov, rfl, hov, rfl⟩

end
end Go.EV

namespace Go.EV
open Go.Proofs
section
variable {M : PHeap}

theorem ref_may_q (k o : Int) : ConQ Try.prog 95 #[vi k, vi o] M (vb (mayR k o && mayP k o)) := by
  refine Con.enter Q26_ok (args := [vi k, vi o]) (by simp [Q26]) fun w0 => ?_
  simp only [Q26, argE]
  repeat' first
      | refine EV.seq ?_
      | refine EV.skip ?_
      | (refine EV.reg ?_; (conv => (arg 2; whnf)); simp only [push_cast, Int.cast_ofNat_Int, reduceIte, Nat.reduceEqDiff, reduceCtorEq, Nat.reduceAdd, Nat.reduceSub, Nat.reduceMul, Int.reduceToNat, Nat.reduceLeDiff])
      | assumption
      | (refine condW.merge ?_ (fun hc K' hK => ?_) ?_; rotate_left)
      | ((refine EV.cond rfl (fun h => ?_) (fun h => ?_) <;> try simp only [reduceCtorEq, reduceIte, if_true, if_false, Bool.not_eq_true', Bool.not_eq_false', decide_eq_true_eq, decide_eq_false_iff_not, Bool.and_eq_true, Bool.or_eq_true, Bool.and_eq_false_iff, Bool.or_eq_false_iff] at h) <;> try (exfalso; first | exact h True.intro | (exact h; done) | omega | (simp only [not_true_eq_false, false_or, or_false] at h; omega)))
      | (refine EV.ret Q26_ok ?_; simp only [push_cast, Int.cast_ofNat_Int, reduceIte, Nat.reduceEqDiff, reduceCtorEq, Nat.reduceAdd, Nat.reduceSub, Nat.reduceMul, Int.reduceToNat, Nat.reduceLeDiff, Q26])
      | fail
  all_goals (simp only [vb, Value.bool.injEq, mayR, mayP, isOrderP]; rw [Bool.eq_iff_iff]; (repeat' split) <;> simp <;> omega)

theorem ref_isAccess_q (o : OpV) : ConQ Try.prog 87 #[vop o] M (vb (accessP o)) := by
  refine Con.enter Q24_ok (args := [vop o]) (by simp [Q24]) fun w0 => ?_
  simp only [Q24, argE]
  repeat' first
      | refine EV.seq ?_
      | (refine EV.reg ?_; (conv => (arg 2; whnf)); simp only [push_cast, Int.cast_ofNat_Int, reduceIte, Nat.reduceEqDiff, reduceCtorEq, Nat.reduceAdd, Nat.reduceSub, Nat.reduceMul, Int.reduceToNat, Nat.reduceLeDiff])
      | assumption
      | (refine condW.merge ?_ (fun hc K' hK => ?_) ?_; rotate_left)
      | (refine EV.ret Q24_ok ?_; simp only [push_cast, Int.cast_ofNat_Int, reduceIte, Nat.reduceEqDiff, reduceCtorEq, Nat.reduceAdd, Nat.reduceSub, Nat.reduceMul, Int.reduceToNat, Nat.reduceLeDiff, Q24])
      | ((first | with_reducible intro b | refine xi rfl (by simp only [List.length_cons, List.length_nil]; omega) ?_ | fail); try simp only [push_cast, Int.cast_ofNat_Int, reduceIte, Nat.reduceEqDiff, reduceCtorEq, Nat.reduceAdd, Nat.reduceSub, Nat.reduceMul, Int.reduceToNat, Nat.reduceLeDiff])
      | fail
  all_goals (simp only [vb, Value.bool.injEq, accessP]; grind)

theorem ref_isOp_q (o : OpV) : ConQ Try.prog 86 #[vop o] M (vb (okOp o)) := by
  refine Con.enter Q25_ok (args := [vop o]) (by simp [Q25]) fun w0 => ?_
  simp only [Q25, argE]
  repeat' first
      | refine EV.seq ?_
      | refine EV.skip ?_
      | (refine EV.reg ?_; (conv => (arg 2; whnf)); simp only [push_cast, Int.cast_ofNat_Int, reduceIte, Nat.reduceEqDiff, reduceCtorEq, Nat.reduceAdd, Nat.reduceSub, Nat.reduceMul, Int.reduceToNat, Nat.reduceLeDiff])
      | (refine ConQ.call (ref_may_q _ _) ?_; try simp only [push_cast, Int.cast_ofNat_Int, reduceIte, Nat.reduceEqDiff, reduceCtorEq, Nat.reduceAdd, Nat.reduceSub, Nat.reduceMul, Int.reduceToNat, Nat.reduceLeDiff])
      | assumption
      | (refine condW.merge ?_ (fun hc K' hK => ?_) ?_; rotate_left)
      | ((refine EV.cond rfl (fun h => ?_) (fun h => ?_) <;> try simp only [reduceCtorEq, reduceIte, if_true, if_false, Bool.not_eq_true', Bool.not_eq_false', decide_eq_true_eq, decide_eq_false_iff_not, Bool.and_eq_true, Bool.or_eq_true, Bool.and_eq_false_iff, Bool.or_eq_false_iff] at h) <;> try (exfalso; first | exact h True.intro | (exact h; done) | omega | (simp only [not_true_eq_false, false_or, or_false] at h; omega)))
      | (refine EV.ret Q25_ok ?_; simp only [push_cast, Int.cast_ofNat_Int, reduceIte, Nat.reduceEqDiff, reduceCtorEq, Nat.reduceAdd, Nat.reduceSub, Nat.reduceMul, Int.reduceToNat, Nat.reduceLeDiff, Q25])
      | ((first | with_reducible intro b | refine xi rfl (by simp only [List.length_cons, List.length_nil]; omega) ?_ | fail); try simp only [push_cast, Int.cast_ofNat_Int, reduceIte, Nat.reduceEqDiff, reduceCtorEq, Nat.reduceAdd, Nat.reduceSub, Nat.reduceMul, Int.reduceToNat, Nat.reduceLeDiff])
      | fail
  all_goals (simp only [vb, Value.bool.injEq, okOp, fitsP, digitP]; try simp_all; try omega)
  · intro h1 h2 h3 h4
    exfalso
    simp only [h1, h2, reduceCtorEq, or_self, false_or] at h
    omega
  · have hk : 0 ≤ o.kind ∧ o.kind < 6 := by
      have h1 : mayR o.kind o.ord = true := by simp_all
      simp only [mayR, Bool.and_eq_true, decide_eq_true_eq] at h1
      exact h1.1
    have : (decide (o.kind = 3) || decide (o.kind = 4)) = true := by
      rw [Bool.or_eq_true, decide_eq_true_eq, decide_eq_true_eq]; omega
    rw [this]
    simp [Bool.and_assoc]

theorem ref_plain_q (o : OpV) : ConQ Try.prog 72 #[vop o] M (vi (plainP o.kind o.ord)) := by
  refine Con.enter Q27_ok (args := [vop o]) (by simp [Q27]) fun w0 => ?_
  simp only [Q27, argE]
  repeat' first
      | refine EV.seq ?_
      | refine EV.skip ?_
      | (refine EV.reg ?_; (conv => (arg 2; whnf)); simp only [push_cast, Int.cast_ofNat_Int, reduceIte, Nat.reduceEqDiff, reduceCtorEq, Nat.reduceAdd, Nat.reduceSub, Nat.reduceMul, Int.reduceToNat, Nat.reduceLeDiff])
      | ((refine EV.cond rfl (fun h => ?_) (fun h => ?_) <;> try simp only [reduceCtorEq, reduceIte, if_true, if_false, Bool.not_eq_true', Bool.not_eq_false', decide_eq_true_eq, decide_eq_false_iff_not, Bool.and_eq_true, Bool.or_eq_true, Bool.and_eq_false_iff, Bool.or_eq_false_iff] at h) <;> try (exfalso; first | exact h True.intro | (exact h; done) | omega | (simp only [not_true_eq_false, false_or, or_false] at h; omega)))
      | (refine EV.ret Q27_ok ?_; simp only [push_cast, Int.cast_ofNat_Int, reduceIte, Nat.reduceEqDiff, reduceCtorEq, Nat.reduceAdd, Nat.reduceSub, Nat.reduceMul, Int.reduceToNat, Nat.reduceLeDiff, Q27])
      | ((first | with_reducible intro b | refine xi rfl (by simp only [List.length_cons, List.length_nil]; omega) ?_ | fail); try simp only [push_cast, Int.cast_ofNat_Int, reduceIte, Nat.reduceEqDiff, reduceCtorEq, Nat.reduceAdd, Nat.reduceSub, Nat.reduceMul, Int.reduceToNat, Nat.reduceLeDiff])
      | fail
  all_goals (simp only [plainP, vi, Value.int.injEq, true_and]; grind)

theorem ref_acquires_q (o : Int) : ConQ Try.prog 51 #[vi o] M (vb (acqP o)) := by
  refine Con.enter Q45_ok (args := [vi o]) (by simp [Q45]) fun w0 => ?_
  simp only [Q45, argE]
  repeat' first
      | refine EV.seq ?_
      | (refine EV.reg ?_; (conv => (arg 2; whnf)); simp only [push_cast, Int.cast_ofNat_Int, reduceIte, Nat.reduceEqDiff, reduceCtorEq, Nat.reduceAdd, Nat.reduceSub, Nat.reduceMul, Int.reduceToNat, Nat.reduceLeDiff])
      | assumption
      | (refine condW.merge ?_ (fun hc K' hK => ?_) ?_; rotate_left)
      | (refine EV.ret Q45_ok ?_; simp only [push_cast, Int.cast_ofNat_Int, reduceIte, Nat.reduceEqDiff, reduceCtorEq, Nat.reduceAdd, Nat.reduceSub, Nat.reduceMul, Int.reduceToNat, Nat.reduceLeDiff, Q45])
      | fail
  all_goals rfl

theorem ref_releases_q (o : Int) : ConQ Try.prog 76 #[vi o] M (vb (relP o)) := by
  refine Con.enter Q47_ok (args := [vi o]) (by simp [Q47]) fun w0 => ?_
  simp only [Q47, argE]
  repeat' first
      | refine EV.seq ?_
      | (refine EV.reg ?_; (conv => (arg 2; whnf)); simp only [push_cast, Int.cast_ofNat_Int, reduceIte, Nat.reduceEqDiff, reduceCtorEq, Nat.reduceAdd, Nat.reduceSub, Nat.reduceMul, Int.reduceToNat, Nat.reduceLeDiff])
      | assumption
      | (refine condW.merge ?_ (fun hc K' hK => ?_) ?_; rotate_left)
      | (refine EV.ret Q47_ok ?_; simp only [push_cast, Int.cast_ofNat_Int, reduceIte, Nat.reduceEqDiff, reduceCtorEq, Nat.reduceAdd, Nat.reduceSub, Nat.reduceMul, Int.reduceToNat, Nat.reduceLeDiff, Q47])
      | fail
  all_goals rfl

theorem rdS_at {H : PHeap} {a : Option Addr} {l : List Int} (h : rdS H 1 a l.length (l.map vi)) {i : Nat} (hi : i < l.length) : ∃ b o, a = some ⟨b, o, none⟩ ∧ ∀ j, j < l.length → rd H b (o + j) 1 [vi l[j]!] := by
  rcases h with ⟨h0, _⟩ | ⟨b, o, e, hr⟩
  · omega
  · exact ⟨b, o, e, fun j hj => hr.part' j 1 (by omega) (map_part vi l hj)⟩

theorem ref_Ints_q (l1 l2 : List Int) (a1 a2 : Option Addr) (c1 c2 : Nat) (h1 : rdS M 1 a1 l1.length (l1.map vi)) (h2 : rdS M 1 a2 l2.length (l2.map vi)) (hb : l1.length < 9000000000000000000) :
    ConQ Try.prog 16 #[.slice a1 l1.length c1, .slice a2 l2.length c2] M (vb (decide (l1 = l2))) := by
  refine Con.enter Q18_ok (args := [.slice a1 l1.length c1, .slice a2 l2.length c2]) (by simp [Q18]) fun w0 => ?_
  simp only [Q18, argE]
  repeat' first
      | refine EV.seq ?_
      | refine EV.skip ?_
      | refine EV.block ?_
      | (refine EV.reg ?_; (conv => (arg 2; whnf)); simp only [push_cast, Int.cast_ofNat_Int, reduceIte, Nat.reduceEqDiff, reduceCtorEq, Nat.reduceAdd, Nat.reduceSub, Nat.reduceMul, Int.reduceToNat, Nat.reduceLeDiff])
      | ((refine EV.cond rfl (fun h => ?_) (fun h => ?_) <;> try simp only [reduceCtorEq, reduceIte, if_true, if_false, Bool.not_eq_true', Bool.not_eq_false', decide_eq_true_eq, decide_eq_false_iff_not, Bool.and_eq_true, Bool.or_eq_true, Bool.and_eq_false_iff, Bool.or_eq_false_iff] at h) <;> try (exfalso; first | exact h True.intro | (exact h; done) | omega | (simp only [not_true_eq_false, false_or, or_false] at h; omega)))
      | fail
  · refine EV.ret Q18_ok ?_
    simp only [push_cast, Int.cast_ofNat_Int, reduceIte, Nat.reduceEqDiff, reduceCtorEq, Nat.reduceAdd, Nat.reduceSub, Nat.reduceMul, Int.reduceToNat, Nat.reduceLeDiff, Q18]
    have : l1 ≠ l2 := fun e => by subst e; exact h rfl
    simp [this]
  · have hlen : l1.length = l2.length := by omega
    refine EV.to (ρ' := [(0, .slice a1 l1.length c1), (1, .slice a2 l2.length c2), (5, vi (0 : Nat))]) (G' := []) ?_ ?env0 (by simp)
    case env0 =>
      repeat' first
        | (refine List.forall_mem_cons.2 (And.intro ?_ ?_))
        | (intro _ hnil; cases hnil; done)
        | rfl
        | fail
    refine EV.loop (fun i : Nat => ([(0, .slice a1 l1.length c1), (1, .slice a2 l2.length c2), (5, vi i)], M, [])) (fun i => i ≤ l1.length ∧ l1.take i = l2.take i) (fun i => l1.length - i) 0 (by simp) ?_
    intro i ⟨hi, hok⟩ ih
    dsimp only at ih ⊢
    repeat' first
        | refine EV.seq ?_
        | refine EV.skip ?_
        | refine EV.block ?_
        | (refine EV.reg ?_; (conv => (arg 2; whnf)); simp only [push_cast, Int.cast_ofNat_Int, reduceIte, Nat.reduceEqDiff, reduceCtorEq, Nat.reduceAdd, Nat.reduceSub, Nat.reduceMul, Int.reduceToNat, Nat.reduceLeDiff])
        | ((refine EV.cond rfl (fun h => ?_) (fun h => ?_) <;> try simp only [reduceCtorEq, reduceIte, if_true, if_false, Bool.not_eq_true', Bool.not_eq_false', decide_eq_true_eq, decide_eq_false_iff_not, Bool.and_eq_true, Bool.or_eq_true, Bool.and_eq_false_iff, Bool.or_eq_false_iff] at h) <;> try (exfalso; first | exact h True.intro | (exact h; done) | omega | (simp only [not_true_eq_false, false_or, or_false] at h; omega)))
        | (refine EV.exit rfl ?_)
        | fail
    · have hi1 : i < l1.length := by omega
      have hi2 : i < l2.length := by omega
      obtain ⟨b1, o1, rfl, k1⟩ := rdS_at h1 hi1
      obtain ⟨b2, o2, rfl, k2⟩ := rdS_at h2 hi2
      have k1 := k1 i hi1
      have k2 := k2 i hi2
      repeat' first
          | refine EV.seq ?_
          | refine EV.skip ?_
          | refine EV.inBlock ?_
          | ((first | refine EV.reg ?_ | refine EV.any _ (List.Sublist.refl _) ?_ | fail); (conv => (arg 2; whnf)); simp only [push_cast, Int.cast_ofNat_Int, reduceIte, Nat.reduceEqDiff, reduceCtorEq, Nat.reduceAdd, Nat.reduceSub, Nat.reduceMul, Int.reduceToNat, Nat.reduceLeDiff])
          | ((refine EV.cond rfl (fun h => ?_) (fun h => ?_) <;> try simp only [reduceCtorEq, reduceIte, if_true, if_false, Bool.not_eq_true', Bool.not_eq_false', decide_eq_true_eq, decide_eq_false_iff_not, Bool.and_eq_true, Bool.or_eq_true, Bool.and_eq_false_iff, Bool.or_eq_false_iff] at h) <;> try (exfalso; first | exact h True.intro | (exact h; done) | omega | (simp only [not_true_eq_false, false_or, or_false] at h; omega)))
          | (refine And.intro (by omega) ?_)
          | (refine Exists.intro _ (And.intro (rd_M (by assumption)) ?_); try simp only [push_cast, Int.cast_ofNat_Int, reduceIte, Nat.reduceEqDiff, reduceCtorEq, Nat.reduceAdd, Nat.reduceSub, Nat.reduceMul, Int.reduceToNat, Nat.reduceLeDiff])
          | fail
      · refine EV.ret Q18_ok ?_
        simp only [push_cast, Int.cast_ofNat_Int, reduceIte, Nat.reduceEqDiff, reduceCtorEq, Nat.reduceAdd, Nat.reduceSub, Nat.reduceMul, Int.reduceToNat, Nat.reduceLeDiff, Q18]
        have : l1 ≠ l2 := fun e => by subst e; exact h rfl
        simp [this]
      · refine EV.to (ih (i + 1) ⟨by omega, ?_⟩ (by omega)) ?_ (by simp)
        · rw [List.take_succ_eq_append_getElem hi1, List.take_succ_eq_append_getElem hi2, hok, ← getB hi1, ← getB hi2]
          have : l1[i]! = l2[i]! := by simpa using h
          rw [this]
        · repeat' first
            | (refine List.forall_mem_cons.2 (And.intro ?_ ?_))
            | (intro _ hnil; cases hnil; done)
            | rfl
            | (refine env_w64 rfl (by first | rfl | (push_cast; first | rfl | omega)) (by omega) (by omega); done)
            | fail
    · refine EV.ret Q18_ok ?_
      simp only [push_cast, Int.cast_ofNat_Int, reduceIte, Nat.reduceEqDiff, reduceCtorEq, Nat.reduceAdd, Nat.reduceSub, Nat.reduceMul, Int.reduceToNat, Nat.reduceLeDiff, Q18]
      have hi1 : i = l1.length := by omega
      subst hi1
      rw [List.take_length, hlen, List.take_length] at hok
      simp [hok]

end
end Go.EV

namespace Go.EV
open Go.Proofs
section
variable {M : PHeap}

theorem EV.loop2 {P : Program} {C : Cx P} {V : List Nat} {k : List RItem} {ρ : Env} {M : PHeap} {G : Own} {c : RCode} (h : EV C V (.code c :: .inLoop c :: k) ρ M G) : EV C V (.code (.loop c) :: k) ρ M G :=
  EV.loop (fun _ : Unit => (ρ, M, G)) (fun _ => True) (fun _ => 0) () trivial (fun _ _ _ => h)

theorem wr1 : IntKind.i64.wrap (0 + 1) = 1 := rfl
theorem wr2 : IntKind.i64.wrap (1 + 1) = 2 := rfl
theorem wr3 : IntKind.i64.wrap (2 + 1) = 3 := rfl

def okB (ts : List (List OpV)) (l : List OpV) : Bool := decide (0 < ts.length) && l.all okOp

theorem checkP_eq (ts : List (List OpV)) : checkP ts = if ts.length > 3 ∨ (limOf ts.flatten).acc > 6 ∨ (limOf ts.flatten).fen > 8 then 2 else if (limOf ts.flatten).w0 > 4 ∨ (limOf ts.flatten).w1 > 4 ∨ (limOf ts.flatten).w2 > 4 then 2 else if okB ts ts.flatten = true then 0 else 1 := by
  unfold checkP limitsP okB
  by_cases h1 : ts.length ≤ 3 <;> by_cases h2 : (limOf ts.flatten).acc ≤ 6 <;> by_cases h3 : (limOf ts.flatten).fen ≤ 8 <;> by_cases h4 : (limOf ts.flatten).w0 ≤ 4 <;> by_cases h5 : (limOf ts.flatten).w1 ≤ 4 <;> by_cases h6 : (limOf ts.flatten).w2 ≤ 4 <;> simp [h1, h2, h3, h4, h5, h6, Int.not_le.symm] <;> grind

set_option maxRecDepth 8000 in
set_option maxHeartbeats 8000000 in
theorem ref_Check_q (ts : List (List OpV)) (s : Value) (hs : SlSl M 5 encOp s ts) (hb : ts.flatten.length < 1000000) (hb' : ts.length < 1000000) : ConQ Try.prog 71 #[.agg #[s]] M (vi (checkP ts)) := by
  obtain ⟨a, c, vs, rfl, hl, hrd, hk⟩ := hs
  refine Con.enter Q20_ok (args := [.agg #[.slice a ts.length c]]) (by simp [Q20]) fun w0 => ?_
  simp only [Q20, argE]
  repeat' first
      | refine EV.seq ?_
      | refine EV.block ?_
      | (refine EV.reg ?_; (conv => (arg 2; whnf)); simp only [push_cast, Int.cast_ofNat_Int, reduceIte, Nat.reduceEqDiff, reduceCtorEq, Nat.reduceAdd, Nat.reduceSub, Nat.reduceMul, Int.reduceToNat, Nat.reduceLeDiff])
      | (with_reducible intro b; try simp only [push_cast, Int.cast_ofNat_Int, reduceIte, Nat.reduceEqDiff, reduceCtorEq, Nat.reduceAdd, Nat.reduceSub, Nat.reduceMul, Int.reduceToNat, Nat.reduceLeDiff])
      | (refine And.intro (by omega) ?_)
      | (refine xs rfl (by simp only [List.length_cons, List.length_nil]; omega) ?_; try simp only [push_cast, Int.cast_ofNat_Int, reduceIte, Nat.reduceEqDiff, reduceCtorEq, Nat.reduceAdd, Nat.reduceSub, Nat.reduceMul, Int.reduceToNat, Nat.reduceLeDiff])
      | fail
  rename_i b1
  refine EV.permG ?_ (List.Perm.swap _ _ _)
  refine EV.freeze (G₁ := [_]) ?_
  generalize hN : M.add [(b1, Cl 24 [.slice a ts.length c])] = N
  have hMN : M.le N := hN ▸ PHeap.le_add _ _
  have hb1 : rd N b1 0 1 [.slice a ts.length c] := hN ▸ rd_own' 0 rfl rfl (by simp)
  clear hN
  refine EV.to (ρ' := [(1, pv b1 0), (3, vi (limOf (ts.take 0).flatten).acc), (4, vi (limOf (ts.take 0).flatten).fen), (5, rowV b 3 3), (6, vb (okB ts (ts.take 0).flatten)), (7, vi (0 : Nat))])
    (G' := [(b, Cl 3 [vi (limOf (ts.take 0).flatten).w0, vi (limOf (ts.take 0).flatten).w1, vi (limOf (ts.take 0).flatten).w2])]) ?_ ?env0 (List.Sublist.refl _)
  case env0 =>
    repeat' first
      | (refine List.forall_mem_cons.2 (And.intro ?_ ?_))
      | (intro _ hnil; cases hnil; done)
      | rfl
      | fail
    simp [get, okB]
  refine EV.loop (fun i : Nat => ([(1, pv b1 0), (3, vi (limOf (ts.take i).flatten).acc), (4, vi (limOf (ts.take i).flatten).fen), (5, rowV b 3 3), (6, vb (okB ts (ts.take i).flatten)), (7, vi i)], N,
    [(b, Cl 3 [vi (limOf (ts.take i).flatten).w0, vi (limOf (ts.take i).flatten).w1, vi (limOf (ts.take i).flatten).w2])])) (fun i => i ≤ ts.length) (fun i => ts.length - i) 0 (Nat.zero_le _) ?_
  intro i hi ih
  dsimp only at ih ⊢
  repeat' first
      | refine EV.seq ?_
      | refine EV.skip ?_
      | refine EV.block ?_
      | (refine EV.reg ?_; (conv => (arg 2; whnf)); simp only [push_cast, Int.cast_ofNat_Int, reduceIte, Nat.reduceEqDiff, reduceCtorEq, Nat.reduceAdd, Nat.reduceSub, Nat.reduceMul, Int.reduceToNat, Nat.reduceLeDiff])
      | assumption
      | (refine condW.merge ?_ (fun hc K' hK => ?_) ?_; rotate_left)
      | ((refine EV.cond rfl (fun h => ?_) (fun h => ?_) <;> try simp only [reduceCtorEq, reduceIte, if_true, if_false, Bool.not_eq_true', Bool.not_eq_false', decide_eq_true_eq, decide_eq_false_iff_not, Bool.and_eq_true, Bool.or_eq_true, Bool.and_eq_false_iff, Bool.or_eq_false_iff] at h) <;> try (exfalso; first | exact h True.intro | (exact h; done) | omega | (simp only [not_true_eq_false, false_or, or_false] at h; omega)))
      | (refine EV.exit rfl ?_)
      | (refine Exists.intro _ (Exists.intro _ (Exists.intro _ (And.intro (rd_M (by assumption)) ?_))); try simp only [push_cast, Int.cast_ofNat_Int, reduceIte, Nat.reduceEqDiff, reduceCtorEq, Nat.reduceAdd, Nat.reduceSub, Nat.reduceMul, Int.reduceToNat, Nat.reduceLeDiff])
      | fail
  · have hi' : i < ts.length := by omega
    obtain ⟨pb, po, rfl, hat⟩ := SlSl.at (hrd.mono hMN) hl (fun k h h' => (hk k h h').mono hMN) (by omega)
    obtain ⟨a', c', hr1, hr2⟩ := hat i hi'
    simp only [Nat.mul_one] at hr1
    have hlen : ((ts.take i).flatten ++ ts[i]).length ≤ ts.flatten.length := by rw [← flat_take hi']; exact flat_take_le ts (i + 1)
    simp only [List.length_append] at hlen
    let W : Nat → LimS := fun j => limOf ((ts.take i).flatten ++ ts[i].take j)
    let U : Nat → Bool := fun j => okB ts ((ts.take i).flatten ++ ts[i].take j)
    refine EV.to (ρ' := [(1, pv b1 0), (3, vi (W 0).acc), (4, vi (W 0).fen), (5, rowV b 3 3), (6, vb (U 0)), (7, vi i), (8, vi (0 : Nat))])
      (G' := [(b, Cl 3 [vi (W 0).w0, vi (W 0).w1, vi (W 0).w2])]) ?_ (by simp [get, W, U]) (by simp [W])
    refine EV.loop (fun j : Nat => ([(1, pv b1 0), (3, vi (W j).acc), (4, vi (W j).fen), (5, rowV b 3 3), (6, vb (U j)), (7, vi i), (8, vi j)], N,
      [(b, Cl 3 [vi (W j).w0, vi (W j).w1, vi (W j).w2])])) (fun j => j ≤ ts[i].length) (fun j => ts[i].length - j) 0 (Nat.zero_le _) ?_
    intro j hj ih2
    dsimp only at ih2 ⊢
    repeat' first
        | refine EV.seq ?_
        | refine EV.skip ?_
        | refine EV.block ?_
        | refine EV.inBlock ?_
        | (refine EV.reg ?_; (conv => (arg 2; whnf)); simp only [push_cast, Int.cast_ofNat_Int, reduceIte, Nat.reduceEqDiff, reduceCtorEq, Nat.reduceAdd, Nat.reduceSub, Nat.reduceMul, Int.reduceToNat, Nat.reduceLeDiff])
        | ((refine EV.cond rfl (fun h => ?_) (fun h => ?_) <;> try simp only [reduceCtorEq, reduceIte, if_true, if_false, Bool.not_eq_true', Bool.not_eq_false', decide_eq_true_eq, decide_eq_false_iff_not, Bool.and_eq_true, Bool.or_eq_true, Bool.and_eq_false_iff, Bool.or_eq_false_iff] at h) <;> try (exfalso; first | exact h True.intro | (exact h; done) | omega | (simp only [not_true_eq_false, false_or, or_false] at h; omega)))
        | (refine EV.exit rfl ?_)
        | (refine And.intro (by omega) ?_)
        | (refine Exists.intro _ (Exists.intro _ (Exists.intro _ (And.intro (rd_M (by assumption)) ?_))); try simp only [push_cast, Int.cast_ofNat_Int, reduceIte, Nat.reduceEqDiff, reduceCtorEq, Nat.reduceAdd, Nat.reduceSub, Nat.reduceMul, Int.reduceToNat, Nat.reduceLeDiff])
        | fail
    · have hj' : j < ts[i].length := by omega
      obtain ⟨qb, qo, rfl, hat2⟩ := Sl.at (enc := encOp) (fun _ => rfl) (by omega) hr2 (by omega)
      have hr3 := hat2 j hj'
      have hW : W (j + 1) = limStep (W j) ts[i][j] := by
        simp only [W, limOf, List.take_succ_eq_append_getElem hj', ← List.append_assoc, List.foldl_append, List.foldl_cons, List.foldl_nil]
      have hU : U (j + 1) = (U j && okOp ts[i][j]) := by
        simp only [U, okB, List.take_succ_eq_append_getElem hj', ← List.append_assoc, List.all_append, List.all_cons, List.all_nil, Bool.and_true, Bool.and_assoc]
      have hWb := lim_bound ((ts.take i).flatten ++ ts[i].take j)
      have hWl : ((ts.take i).flatten ++ ts[i].take j).length < 1000000 := by rw [List.length_append, List.length_take]; omega
      have fin : ∀ ρ G', (∀ p ∈ [(1, pv b1 0), (3, vi (W (j + 1)).acc), (4, vi (W (j + 1)).fen), (5, rowV b 3 3), (6, vb (U (j + 1))), (7, vi i), (8, vi (j + 1 : Nat))], get ρ p.1 = some p.2) →
          [(b, Cl 3 [vi (W (j + 1)).w0, vi (W (j + 1)).w1, vi (W (j + 1)).w2])].Sublist G' → _ := fun ρ G' h1 h2 => EV.to (ρ := ρ) (G := G') (ih2 (j + 1) (by omega) (by omega)) h1 h2
      rw [hW, hU] at fin
      have hWe : W j = limOf ((ts.take i).flatten ++ ts[i].take j) := rfl
      rw [← hWe] at hWb
      clear_value W U
      have e1 : IntKind.i64.wrap ((W j).acc + 1) = (W j).acc + 1 := w64 (by omega) (by omega)
      have e2 : IntKind.i64.wrap ((W j).fen + 1) = (W j).fen + 1 := w64 (by omega) (by omega)
      have e3 : IntKind.i64.wrap ((W j).fen + 2) = (W j).fen + 2 := w64 (by omega) (by omega)
      have e4 : IntKind.i64.wrap ((W j).w0 + 1) = (W j).w0 + 1 := w64 (by omega) (by omega)
      have e5 : IntKind.i64.wrap ((W j).w1 + 1) = (W j).w1 + 1 := w64 (by omega) (by omega)
      have e6 : IntKind.i64.wrap ((W j).w2 + 1) = (W j).w2 + 1 := w64 (by omega) (by omega)
      have e7 : IntKind.i64.wrap ((j : Int) + 1) = ((j + 1 : Nat) : Int) := w64 (by omega) (by omega)
      clear ih ih2 hat hat2 hrd hk hWb hWl hWe hlen hW hU hb hb' hl
      generalize W j = s at *
      generalize U j = u at *
      generalize ts[i][j] = o at *
      clear W U
      have hacc : o.kind = 5 → accessP o = false := fun h => by simp [accessP, h]
      have hno : accessP o = true → ((¬0 < o.kind ∨ ¬0 ≤ o.loc) ∨ ¬o.loc < 3) → limStep s o = { s with acc := s.acc + 1, fen := if o.ord = 4 then s.fen + 2 else s.fen } := fun h1 h2 => by
        have h5 : ¬ o.kind = 5 := fun h => by rw [hacc h] at h1; cases h1
        have h3 : 0 ≤ o.kind := by simp only [accessP, Bool.and_eq_true, decide_eq_true_eq] at h1; omega
        have w0' : ¬ (o.kind ≠ 0 ∧ o.loc = 0) := by omega
        have w1' : ¬ (o.kind ≠ 0 ∧ o.loc = 1) := by omega
        have w2' : ¬ (o.kind ≠ 0 ∧ o.loc = 2) := by omega
        simp only [limStep, if_neg h5, if_pos h1, if_neg w0', if_neg w1', if_neg w2']
      repeat' first
          | refine EV.seq ?_
          | refine EV.skip ?_
          | refine EV.inBlock ?_
          | ((first | refine EV.reg ?_ | refine EV.any _ (List.Sublist.refl _) ?_ | fail); (conv => (arg 2; whnf)); simp only [push_cast, Int.cast_ofNat_Int, reduceIte, Nat.reduceEqDiff, reduceCtorEq, Nat.reduceAdd, Nat.reduceSub, Nat.reduceMul, Int.reduceToNat, Nat.reduceLeDiff])
          | ((first | refine ConQ.call (ref_isOp_q _) ?_ | refine ConQ.call (ref_isAccess_q _) ?_ | fail); try simp only [push_cast, Int.cast_ofNat_Int, reduceIte, Nat.reduceEqDiff, reduceCtorEq, Nat.reduceAdd, Nat.reduceSub, Nat.reduceMul, Int.reduceToNat, Nat.reduceLeDiff])
          | assumption
          | (refine condW.merge ?_ (fun hc K' hK => ?_) ?_; rotate_left)
          | ((refine EV.cond rfl (fun h => ?_) (fun h => ?_) <;> try simp only [reduceCtorEq, reduceIte, if_true, if_false, Bool.not_eq_true', Bool.not_eq_false', decide_eq_true_eq, decide_eq_false_iff_not, Bool.and_eq_true, Bool.or_eq_true, Bool.and_eq_false_iff, Bool.or_eq_false_iff] at h) <;> try (exfalso; first | exact h True.intro | (exact h; done) | omega | (simp only [not_true_eq_false, false_or, or_false] at h; omega)))
          | (refine EV.exit rfl ?_)
          | (with_reducible intro b; try simp only [push_cast, Int.cast_ofNat_Int, reduceIte, Nat.reduceEqDiff, reduceCtorEq, Nat.reduceAdd, Nat.reduceSub, Nat.reduceMul, Int.reduceToNat, Nat.reduceLeDiff])
          | (refine And.intro (by omega) ?_)
          | ((first | refine Exists.intro _ (And.intro (rd_M (by assumption)) ?_) | refine xr rfl (by simp only [List.length_cons, List.length_nil]; omega) ?_ | refine xi rfl (by simp only [List.length_cons, List.length_nil]; omega) ?_ | fail); try simp only [push_cast, Int.cast_ofNat_Int, reduceIte, Nat.reduceEqDiff, reduceCtorEq, Nat.reduceAdd, Nat.reduceSub, Nat.reduceMul, Int.reduceToNat, Nat.reduceLeDiff])
          | (refine xw ?_; simp only [push_cast, Int.cast_ofNat_Int, reduceIte, Nat.reduceEqDiff, reduceCtorEq, Nat.reduceAdd, Nat.reduceSub, Nat.reduceMul, Int.reduceToNat, Nat.reduceLeDiff])
          | fail
      all_goals try (exfalso; simp_all; done)
      all_goals try (rw [hno (by assumption) (by assumption)] at fin)
      all_goals try refine fin _ _ ?_ ?_
      all_goals first
        | (simp [get, limStep, *]; done)
        | (simp [get, limStep, *]; grind)
        | skip
      all_goals
        have hloc : o.loc = 0 ∨ o.loc = 1 ∨ o.loc = 2 := by omega
        have hk0 : ¬ o.kind = 0 := by omega
        rcases hloc with hloc | hloc | hloc <;> rw [hloc] <;> simp only [Int.reduceToNat, Int.toNat_zero, Int.reduceLE, Int.reduceLT, true_and]
      all_goals repeat' first
          | refine EV.inBlock ?_
          | (refine EV.reg ?_; (conv => (arg 2; whnf)); simp only [push_cast, Int.cast_ofNat_Int, reduceIte, Nat.reduceEqDiff, reduceCtorEq, Nat.reduceAdd, Nat.reduceSub, Nat.reduceMul, Int.reduceToNat, Nat.reduceLeDiff])
          | (refine xi rfl (by simp only [List.length_cons, List.length_nil]; omega) ?_; try simp only [push_cast, Int.cast_ofNat_Int, reduceIte, Nat.reduceEqDiff, reduceCtorEq, Nat.reduceAdd, Nat.reduceSub, Nat.reduceMul, Int.reduceToNat, Nat.reduceLeDiff])
          | (refine xw ?_; simp only [push_cast, Int.cast_ofNat_Int, reduceIte, Nat.reduceEqDiff, reduceCtorEq, Nat.reduceAdd, Nat.reduceSub, Nat.reduceMul, Int.reduceToNat, Nat.reduceLeDiff])
          | fail
      all_goals try refine fin _ _ ?_ ?_
      all_goals first
        | (simp [get, limStep, *]; done)
        | (simp [get, limStep, *]; grind)
        | skip
    · have hj' : j = ts[i].length := by omega
      subst hj'
      have hf : (ts.take i).flatten ++ ts[i].take ts[i].length = (ts.take (i + 1)).flatten := by rw [flat_take hi', List.take_length]
      refine EV.to (ih (i + 1) (by omega) (by omega)) ?_ ?_
      · clear ih ih2
        rw [← hf]
        simp [get, W, U]
        exact w64 (by omega) (by omega)
      · rw [← hf]
        exact List.Sublist.refl _
  · have hi3 : i = ts.length := by omega
    subst hi3
    simp only [List.take_length] at h
    rw [checkP_eq, if_pos (by omega)]
    repeat' first
        | (refine EV.ret Q20_ok ?_; simp only [push_cast, Int.cast_ofNat_Int, reduceIte, Nat.reduceEqDiff, reduceCtorEq, Nat.reduceAdd, Nat.reduceSub, Nat.reduceMul, Int.reduceToNat, Nat.reduceLeDiff, Q20])
        | fail
  · have hi3 : i = ts.length := by omega
    subst hi3
    simp only [List.take_length] at h
    have hce := checkP_eq ts
    rw [if_neg (by omega)] at hce
    rw [hce, List.take_length]
    refine EV.to (ρ' := [(5, rowV b 3 3), (6, vb (okB ts ts.flatten)), (10, vi (0 : Nat))]) (G' := [(b, Cl 3 [vi (limOf ts.flatten).w0, vi (limOf ts.flatten).w1, vi (limOf ts.flatten).w2])]) ?_ ?env2 (List.Sublist.refl _)
    case env2 =>
      repeat' first
        | (refine List.forall_mem_cons.2 (And.intro ?_ ?_))
        | (intro _ hnil; cases hnil; done)
        | rfl
        | fail
    generalize limOf ts.flatten = s at *
    refine EV.loop2 ?_
    repeat' first
        | refine EV.seq ?_
        | refine EV.skip ?_
        | refine EV.block ?_
        | refine EV.inBlock ?_
        | (refine EV.reg ?_; (conv => (arg 2; whnf)); simp only [push_cast, Int.cast_ofNat_Int, reduceIte, Nat.reduceEqDiff, reduceCtorEq, Nat.reduceAdd, Nat.reduceSub, Nat.reduceMul, Int.reduceToNat, Nat.reduceLeDiff, wr1, wr2, wr3])
        | ((refine EV.cond rfl (fun h => ?_) (fun h => ?_) <;> try simp only [reduceCtorEq, reduceIte, if_true, if_false, Bool.not_eq_true', Bool.not_eq_false', decide_eq_true_eq, decide_eq_false_iff_not, Bool.and_eq_true, Bool.or_eq_true, Bool.and_eq_false_iff, Bool.or_eq_false_iff] at h) <;> try (exfalso; first | exact h True.intro | (exact h; done) | omega | (simp only [not_true_eq_false, false_or, or_false] at h; omega)))
        | (refine And.intro (by omega) ?_)
        | (refine xi rfl (by simp only [List.length_cons, List.length_nil]; omega) ?_; try simp only [push_cast, Int.cast_ofNat_Int, reduceIte, Nat.reduceEqDiff, reduceCtorEq, Nat.reduceAdd, Nat.reduceSub, Nat.reduceMul, Int.reduceToNat, Nat.reduceLeDiff, wr1, wr2, wr3])
        | fail
    · rw [if_pos (by omega)]
      repeat' first
          | (refine EV.ret Q20_ok ?_; simp only [push_cast, Int.cast_ofNat_Int, reduceIte, Nat.reduceEqDiff, reduceCtorEq, Nat.reduceAdd, Nat.reduceSub, Nat.reduceMul, Int.reduceToNat, Nat.reduceLeDiff, wr1, wr2, wr3, Q20])
          | fail
    refine EV.inLoop ?_
    repeat' first
        | refine EV.seq ?_
        | refine EV.skip ?_
        | refine EV.block ?_
        | refine EV.inBlock ?_
        | (refine EV.reg ?_; (conv => (arg 2; whnf)); simp only [push_cast, Int.cast_ofNat_Int, reduceIte, Nat.reduceEqDiff, reduceCtorEq, Nat.reduceAdd, Nat.reduceSub, Nat.reduceMul, Int.reduceToNat, Nat.reduceLeDiff, wr1, wr2, wr3])
        | ((refine EV.cond rfl (fun h => ?_) (fun h => ?_) <;> try simp only [reduceCtorEq, reduceIte, if_true, if_false, Bool.not_eq_true', Bool.not_eq_false', decide_eq_true_eq, decide_eq_false_iff_not, Bool.and_eq_true, Bool.or_eq_true, Bool.and_eq_false_iff, Bool.or_eq_false_iff] at h) <;> try (exfalso; first | exact h True.intro | (exact h; done) | omega | (simp only [not_true_eq_false, false_or, or_false] at h; omega)))
        | (refine And.intro (by omega) ?_)
        | (refine xi rfl (by simp only [List.length_cons, List.length_nil]; omega) ?_; try simp only [push_cast, Int.cast_ofNat_Int, reduceIte, Nat.reduceEqDiff, reduceCtorEq, Nat.reduceAdd, Nat.reduceSub, Nat.reduceMul, Int.reduceToNat, Nat.reduceLeDiff, wr1, wr2, wr3])
        | fail
    · rw [if_pos (by omega)]
      repeat' first
          | (refine EV.ret Q20_ok ?_; simp only [push_cast, Int.cast_ofNat_Int, reduceIte, Nat.reduceEqDiff, reduceCtorEq, Nat.reduceAdd, Nat.reduceSub, Nat.reduceMul, Int.reduceToNat, Nat.reduceLeDiff, wr1, wr2, wr3, Q20])
          | fail
    refine EV.inLoop ?_
    repeat' first
        | refine EV.seq ?_
        | refine EV.skip ?_
        | refine EV.block ?_
        | refine EV.inBlock ?_
        | (refine EV.reg ?_; (conv => (arg 2; whnf)); simp only [push_cast, Int.cast_ofNat_Int, reduceIte, Nat.reduceEqDiff, reduceCtorEq, Nat.reduceAdd, Nat.reduceSub, Nat.reduceMul, Int.reduceToNat, Nat.reduceLeDiff, wr1, wr2, wr3])
        | ((refine EV.cond rfl (fun h => ?_) (fun h => ?_) <;> try simp only [reduceCtorEq, reduceIte, if_true, if_false, Bool.not_eq_true', Bool.not_eq_false', decide_eq_true_eq, decide_eq_false_iff_not, Bool.and_eq_true, Bool.or_eq_true, Bool.and_eq_false_iff, Bool.or_eq_false_iff] at h) <;> try (exfalso; first | exact h True.intro | (exact h; done) | omega | (simp only [not_true_eq_false, false_or, or_false] at h; omega)))
        | (refine And.intro (by omega) ?_)
        | (refine xi rfl (by simp only [List.length_cons, List.length_nil]; omega) ?_; try simp only [push_cast, Int.cast_ofNat_Int, reduceIte, Nat.reduceEqDiff, reduceCtorEq, Nat.reduceAdd, Nat.reduceSub, Nat.reduceMul, Int.reduceToNat, Nat.reduceLeDiff, wr1, wr2, wr3])
        | fail
    · rw [if_pos (by omega)]
      repeat' first
          | (refine EV.ret Q20_ok ?_; simp only [push_cast, Int.cast_ofNat_Int, reduceIte, Nat.reduceEqDiff, reduceCtorEq, Nat.reduceAdd, Nat.reduceSub, Nat.reduceMul, Int.reduceToNat, Nat.reduceLeDiff, wr1, wr2, wr3, Q20])
          | fail
    refine EV.inLoop ?_
    rw [if_neg (by omega)]
    repeat' first
        | refine EV.seq ?_
        | refine EV.skip ?_
        | (refine EV.reg ?_; (conv => (arg 2; whnf)); simp only [push_cast, Int.cast_ofNat_Int, reduceIte, Nat.reduceEqDiff, reduceCtorEq, Nat.reduceAdd, Nat.reduceSub, Nat.reduceMul, Int.reduceToNat, Nat.reduceLeDiff, wr1, wr2, wr3])
        | ((refine EV.cond rfl (fun h => ?_) (fun h => ?_) <;> try simp only [reduceCtorEq, reduceIte, if_true, if_false, Bool.not_eq_true', Bool.not_eq_false', decide_eq_true_eq, decide_eq_false_iff_not, Bool.and_eq_true, Bool.or_eq_true, Bool.and_eq_false_iff, Bool.or_eq_false_iff] at h) <;> try (exfalso; first | exact h True.intro | (exact h; done) | omega | (simp only [not_true_eq_false, false_or, or_false] at h; omega)))
        | (refine EV.exit rfl ?_)
        | (refine EV.ret Q20_ok ?_; simp only [push_cast, Int.cast_ofNat_Int, reduceIte, Nat.reduceEqDiff, reduceCtorEq, Nat.reduceAdd, Nat.reduceSub, Nat.reduceMul, Int.reduceToNat, Nat.reduceLeDiff, wr1, wr2, wr3, Q20])
        | fail
    all_goals simp_all

end
end Go.EV

namespace Go.EV
open Go.Proofs

def encPT (p : Thr × Vec) : List Value := encThr (p.1, oad p.2, ocap p.2)

structure PM where
  pg : Option Addr
  pc : Nat
  mv : Nat × Nat × List Value
  lv : Nat → Nat × Nat × List Value
  tv : Nat × Nat × List Value
  prog : List (List OpV)
  msgs : List Msg
  line : Nat → List Int
  all : Vw
  pt : List (Thr × Vec)

def PM.vm (p : PM) : VM := ⟨p.prog, p.msgs, p.line, p.pt.map (·.1), p.all⟩
def PM.ad (p : PM) : Ad := ⟨p.pg, p.pc, p.mv.1, p.mv.2.1, fun l => (p.lv l).1, fun l => (p.lv l).2.1, p.tv.1, p.tv.2.1, p.pt.map fun q => (oad q.2, ocap q.2)⟩

def rdsG (pt : List (Thr × Vec)) : Own := pt.flatMap fun q => osg 3 q.2 (q.1.read.map vi)
def lnG (line : Nat → List Int) (lv : Nat → Nat × Nat × List Value) : Own :=
  [((lv 0).1, Cl 3 ((line 0).map vi ++ (lv 0).2.2)), ((lv 1).1, Cl 3 ((line 1).map vi ++ (lv 1).2.2)), ((lv 2).1, Cl 3 ((line 2).map vi ++ (lv 2).2.2))]
/-- The cells of a machine itself. -/
def hdL (pg mh : Value) (lh : Nat → Value) (th : Value) (all : Vw) : List Value := pg :: mh :: lh 0 :: lh 1 :: lh 2 :: th :: encV all
def lnH (line : Nat → List Int) (lv : Nat → Nat × Nat × List Value) (l : Nat) : Value := rowV (lv l).1 (line l).length (lv l).2.1
def PM.G (p : PM) (mp : Nat) : Own :=
  (mp, Cl 65 (hdL (.slice p.pg p.prog.length p.pc) (rowV p.mv.1 p.msgs.length p.mv.2.1) (lnH p.line p.lv) (rowV p.tv.1 p.pt.length p.tv.2.1) p.all)) ::
  (p.tv.1, Cl 69 (p.pt.flatMap encPT ++ p.tv.2.2)) :: (p.mv.1, Cl 67 (p.msgs.flatMap encMsg ++ p.mv.2.2)) :: (lnG p.line p.lv ++ rdsG p.pt)

structure PM.Ok (p : PM) : Prop where
  mok : osok 5 (some p.mv) p.msgs.length (p.msgs.flatMap encMsg)
  lk : ∀ l, l < 3 → osok 1 (some (p.lv l)) (p.line l).length ((p.line l).map vi)
  tk : osok 11 (some p.tv) p.pt.length (p.pt.flatMap encPT)
  rk : ∀ q ∈ p.pt, osok 1 q.2 q.1.read.length (q.1.read.map vi)

section
variable {M : PHeap} {G : Own} {mp : Nat}

theorem rd_mem0 {b n : Nat} {T : TypeId} {xs sp : List Value} (h : (b, Cl T (xs ++ sp)) ∈ G) (hn : xs.length = n) : rd (M.add G) b 0 n xs := by
  have := rd_mem (M := M) (off := 0) (n := n) h (by rw [List.length_append]; omega)
  simpa [← hn] using this

theorem PM.rdM {p : PM} (ok : p.Ok) (hpg : SlSl M 5 encOp (.slice p.pg p.prog.length p.pc) p.prog) (hG : ∀ q ∈ p.G mp, q ∈ G) : RdM (M.add G) mp p.ad p.vm := by
  refine ⟨?_, hpg.mono (PHeap.le_add _ _), ?_, ?_, ?_, ?_, ?_⟩
  · have h := hG (mp, _) (List.mem_cons_self ..)
    have := rd_mem (M := M) (off := 0) (n := 9) h (by simp [hdL, encV])
    simpa [hdL, encV, hdr, PM.vm, PM.ad, lnH] using this
  · exact rd_mem0 (T := 67) (sp := p.mv.2.2) (hG (p.mv.1, _) (by simp [PM.G, PM.vm])) ok.mok.1
  · intro l hl
    have hlen : ((p.line l).map vi).length = (p.line l).length := by simp
    refine rd_mem0 (T := 3) (sp := (p.lv l).2.2) (hG _ ?_) hlen
    match l, hl with
    | 0, _ => simp [PM.G, lnG, PM.ad, PM.vm]
    | 1, _ => simp [PM.G, lnG, PM.ad, PM.vm]
    | 2, _ => simp [PM.G, lnG, PM.ad, PM.vm]
  · have e : (p.vm.thr.zip p.ad.ra).flatMap encThr = p.pt.flatMap encPT := by
      have : p.vm.thr.zip p.ad.ra = p.pt.map fun q => (q.1, oad q.2, ocap q.2) := by
        simp only [PM.vm, PM.ad]
        rw [List.zip_map']
      rw [this, List.flatMap_map]; rfl
    rw [e]
    have hl := ok.tk.1
    have e2 : p.vm.thr.length = p.pt.length := by simp [PM.vm]
    rw [e2]
    exact rd_mem0 (T := 69) (sp := p.tv.2.2) (hG (p.tv.1, _) (by simp [PM.G])) hl
  · simp [PM.vm, PM.ad]
  · intro i h h'
    have hi : i < p.pt.length := by simpa [PM.vm] using h
    have h2 := ok.rk p.pt[i] (List.getElem_mem _)
    have h3 := rd_osg (M := M) (G := G) (T := 3) h2 (fun q hq => hG q (by
      simp only [PM.G, List.mem_cons, List.mem_append, rdsG, List.mem_flatMap]
      exact .inr (.inr (.inr (.inr ⟨_, List.getElem_mem hi, hq⟩)))))
    simpa [PM.vm, PM.ad] using h3

/-- The lines, read from what is owned. -/
theorem RdL.of {pg mh th : Value} {all : Vw} {line : Nat → List Int} {lv : Nat → Nat × Nat × List Value} (h0 : (mp, Cl 65 (hdL pg mh (lnH line lv) th all)) ∈ G) (h1 : ∀ q ∈ lnG line lv, q ∈ G) (hb : ∀ l, l < 3 → (line l).length < 1000000) : RdL (M.add G) mp line := by
  intro l hl
  have hlen : ((line l).map vi).length = (line l).length := by simp
  refine ⟨(lv l).1, (lv l).2.1, ?_, ?_, hb l hl⟩
  · have := rd_mem (M := M) (off := 2 + l) (n := 1) h0 (by simp [hdL, encV]; omega)
    match l, hl with
    | 0, _ => simpa [hdL, lnH] using this
    | 1, _ => simpa [hdL, lnH] using this
    | 2, _ => simpa [hdL, lnH] using this
  · refine rd_mem0 (T := 3) (sp := (lv l).2.2) (h1 _ ?_) hlen
    match l, hl with
    | 0, _ => simp [lnG]
    | 1, _ => simp [lnG]
    | 2, _ => simp [lnG]

theorem RdL.of' {pg mh th : Value} {all : Vw} {line : Nat → List Int} {lv : Nat → Nat × Nat × List Value} [h0 : At G mp 65 (hdL pg mh (lnH line lv) th all)] (h1 : ∀ q ∈ lnG line lv, q ∈ G) (hb : ∀ l, l < 3 → (line l).length < 1000000) : RdL (M.add G) mp line :=
  RdL.of h0.mem h1 hb

/-! ### One thread's cells -/

def tc (A : List Value) (n g d : Vw) (r x : Value) (C : List Value) : List Value := A ++ (encV n ++ (encV g ++ (encV d ++ (r :: x :: C))))

theorem tc_of (pt1 pt2 : List (Thr × Vec)) (t : Thr) (ov : Vec) (sp : List Value) :
    (pt1 ++ (t, ov) :: pt2).flatMap encPT ++ sp = tc (pt1.flatMap encPT) t.now t.gained t.given (osv ov t.read.length) (vi t.next) (pt2.flatMap encPT ++ sp) := by
  simp [tc, encPT, encThr, encV]

section
variable {A C : List Value} {n g d : Vw} {r x : Value} {w : Nat} (hA : A.length = w * 11)
include hA

theorem tc_len : (tc A n g d r x C).length = w * 11 + 11 + C.length := by simp [tc, encV, hA]; omega

theorem tc_eq (k : Nat) (cs : List Value) (m : Nat) : (((tc A n g d r x C).drop (w * 11 + k)).take m) = ((encV n ++ (encV g ++ (encV d ++ (r :: x :: C)))).drop k).take m := by
  simp only [tc]
  rw [← hA, List.drop_append, List.drop_eq_nil_of_le (by omega), List.nil_append]
  congr 2
  omega

variable {b : Nat} {T : TypeId}

theorem rd_tc (h : (b, Cl T (tc A n g d r x C)) ∈ G) (k m : Nat) (hk : k + m ≤ 11) {out : List Value} (e : ((encV n ++ (encV g ++ (encV d ++ (r :: x :: C)))).drop k).take m = out) : rd (M.add G) b (w * 11 + k) m out :=
  rd_at h (by rw [tc_eq hA]; exact e; exact []) (by rw [tc_len hA]; omega)

theorem rd_tc_now [h : At G b T (tc A n g d r x C)] : rd (M.add G) b (w * 11) 3 (encV n) := rd_tc hA h.mem 0 3 (by omega) rfl
theorem rd_tc_gained [h : At G b T (tc A n g d r x C)] : rd (M.add G) b (w * 11 + 3) 3 (encV g) := rd_tc hA h.mem 3 3 (by omega) rfl
theorem rd_tc_given [h : At G b T (tc A n g d r x C)] : rd (M.add G) b (w * 11 + 6) 3 (encV d) := rd_tc hA h.mem 6 3 (by omega) rfl
theorem rd_tc_read [h : At G b T (tc A n g d r x C)] : rd (M.add G) b (w * 11 + 9) 1 [r] := rd_tc hA h.mem 9 1 (by omega) rfl
theorem rd_tc_next [h : At G b T (tc A n g d r x C)] : rd (M.add G) b (w * 11 + 10) 1 [x] := rd_tc hA h.mem 10 1 (by omega) rfl

theorem tc_splice (k : Nat) (vs : List Value) : (tc A n g d r x C).take (w * 11 + k) ++ (vs ++ (tc A n g d r x C).drop (w * 11 + k + vs.length)) =
    A ++ ((encV n ++ (encV g ++ (encV d ++ (r :: x :: C)))).take k ++ (vs ++ (encV n ++ (encV g ++ (encV d ++ (r :: x :: C)))).drop (k + vs.length))) := by
  simp only [tc]
  rw [← hA, List.take_length_add_append, Nat.add_assoc, List.drop_length_add_append, List.append_assoc]

theorem tc_st_now (v : Vw) : (tc A n g d r x C).take (w * 11) ++ (encV v ++ (tc A n g d r x C).drop (w * 11 + 3)) = tc A v g d r x C := tc_splice hA 0 (encV v)
theorem tc_st_gained (v : Vw) : (tc A n g d r x C).take (w * 11 + 3) ++ (encV v ++ (tc A n g d r x C).drop (w * 11 + 3 + 3)) = tc A n v d r x C := tc_splice hA 3 (encV v)
theorem tc_st_given (v : Vw) : (tc A n g d r x C).take (w * 11 + 6) ++ (encV v ++ (tc A n g d r x C).drop (w * 11 + 6 + 3)) = tc A n g v r x C := tc_splice hA 6 (encV v)
theorem tc_st_read (v : Value) : (tc A n g d r x C).take (w * 11 + 9) ++ (v :: (tc A n g d r x C).drop (w * 11 + 9 + 1)) = tc A n g d v x C := tc_splice hA 9 [v]
theorem tc_st_next (v : Value) : (tc A n g d r x C).take (w * 11 + 10) ++ (v :: (tc A n g d r x C).drop (w * 11 + 10 + 1)) = tc A n g d r v C := tc_splice hA 10 [v]
theorem tc_st_at {l : Nat} (hl : l < 3) (v : Int) : (tc A n g d r x C).take (w * 11 + l) ++ (vi v :: (tc A n g d r x C).drop (w * 11 + l + 1)) = tc A (upd n l v) g d r x C := by
  match l, hl with
  | 0, _ => exact tc_splice hA 0 [vi v]
  | 1, _ => exact tc_splice hA 1 [vi v]
  | 2, _ => exact tc_splice hA 2 [vi v]

end

theorem rd_box {b : Nat} {T : TypeId} {v : Vw} [h : At G b T (encV v)] : rd (M.add G) b 0 3 (encV v) := rd_at h.mem rfl (by simp [encV])

theorem hd_st_all {pg mh th : Value} {lh : Nat → Value} {all v : Vw} : (hdL pg mh lh th all).take 6 ++ (encV v ++ (hdL pg mh lh th all).drop (6 + 3)) = hdL pg mh lh th v := rfl
theorem hd_st_line {pg mh th v : Value} {lh : Nat → Value} {all : Vw} {l : Nat} (hl : l < 3) : (hdL pg mh lh th all).take (2 + l) ++ (v :: (hdL pg mh lh th all).drop (2 + l + 1)) = hdL pg mh (upd lh l v) th all := by
  match l, hl with
  | 0, _ => rfl
  | 1, _ => rfl
  | 2, _ => rfl
theorem hd_st_ms {pg mh th v : Value} {lh : Nat → Value} {all : Vw} : (hdL pg mh lh th all).take 1 ++ (v :: (hdL pg mh lh th all).drop (1 + 1)) = hdL pg v lh th all := rfl
theorem hd_len {pg mh th : Value} {lh : Nat → Value} {all : Vw} : (hdL pg mh lh th all).length = 9 := rfl
theorem rd_hd_th {b : Nat} {T : TypeId} {pg mh th : Value} {lh : Nat → Value} {all : Vw} [h : At G b T (hdL pg mh lh th all)] : rd (M.add G) b 5 1 [th] := rd_at h.mem rfl (by rw [hd_len]; omega)
theorem rd_hd_ms {b : Nat} {T : TypeId} {pg mh th : Value} {lh : Nat → Value} {all : Vw} [h : At G b T (hdL pg mh lh th all)] : rd (M.add G) b 1 1 [mh] := rd_at h.mem rfl (by rw [hd_len]; omega)
theorem rd_hd_all {b : Nat} {T : TypeId} {pg mh th : Value} {lh : Nat → Value} {all : Vw} [h : At G b T (hdL pg mh lh th all)] : rd (M.add G) b 6 3 (encV all) := rd_at h.mem rfl (by rw [hd_len]; omega)
theorem rd_hd_line {b : Nat} {T : TypeId} {pg mh th : Value} {lh : Nat → Value} {all : Vw} {l : Nat} (hl : l < 3) [h : At G b T (hdL pg mh lh th all)] : rd (M.add G) b (2 + l) 1 [lh l] :=
  rd_at h.mem (by match l, hl with | 0, _ => rfl | 1, _ => rfl | 2, _ => rfl) (by rw [hd_len]; omega)

end
end Go.EV

namespace Go.EV
open Go.Proofs
section
variable {M : PHeap} {mp : Nat} {B : Nat}

theorem PM.split {α : Type} (l : List α) (w : Nat) (h : w < l.length) : ∃ A x C, l = A ++ x :: C ∧ A.length = w :=
  ⟨l.take w, l[w], l.drop (w + 1), by rw [← List.drop_eq_getElem_cons h, List.take_append_drop], by simp; omega⟩

theorem encPT_len (A : List (Thr × Vec)) : (A.flatMap encPT).length = A.length * 11 := flatMap_length (enc := encPT) (sz := 11) (fun _ => rfl) A

theorem thr_at (pA pC : List (Thr × Vec)) (t : Thr) (ov : Vec) : ((pA ++ (t, ov) :: pC).map (·.1))[pA.length]! = t := by
  rw [getB (by simp)]; simp

theorem thr_set (pA pC : List (Thr × Vec)) (t t' : Thr) (ov ov' : Vec) : ((pA ++ (t, ov) :: pC).map (·.1)).set pA.length t' = (pA ++ (t', ov') :: pC).map (·.1) := by
  simp

theorem rdsG_at (pA pC : List (Thr × Vec)) (t : Thr) (ov : Vec) : rdsG (pA ++ (t, ov) :: pC) = rdsG pA ++ (osg 3 ov (t.read.map vi) ++ rdsG pC) := by
  simp [rdsG]

theorem pt_len (pA pC : List (Thr × Vec)) (t : Thr) (ov : Vec) : (pA ++ (t, ov) :: pC).length = pA.length + (pC.length + 1) := by simp

theorem PM.Ok.thr {pg pc mv lv tv prog msgs line all all' pA t ov pC} (t' : Thr) (ov' : Vec) (ok : PM.Ok ⟨pg, pc, mv, lv, tv, prog, msgs, line, all, pA ++ (t, ov) :: pC⟩) (h : osok 1 ov' t'.read.length (t'.read.map vi)) :
    PM.Ok ⟨pg, pc, mv, lv, tv, prog, msgs, line, all', pA ++ (t', ov') :: pC⟩ := by
  refine ⟨ok.mok, ok.lk, ?_, ?_⟩
  · obtain ⟨h1, h2, h3, h4⟩ := ok.tk
    dsimp only at h1 h2 h3 h4
    refine ⟨?_, ?_, ?_, h4⟩
    · dsimp only; rw [encPT_len]
    · dsimp only; rw [List.length_append, encPT_len] at h2 ⊢; rw [← h2, pt_len, pt_len]
    · dsimp only; rw [pt_len] at h3 ⊢; exact h3
  · intro q hq
    rcases List.mem_append.1 hq with hq | hq
    · exact ok.rk q (by simp [hq])
    · rcases List.mem_cons.1 hq with rfl | hq
      · exact h
      · exact ok.rk q (by simp [hq])

def fencedThr (line : Nat → List Int) (all : Vw) (t : Thr) (o : OpV) : Thr × Vw :=
  let now1 := if acqP o.ord then joinV line t.now t.gained else t.now
  let now2 := if o.ord = 4 then joinV line now1 all else now1
  (⟨now2, (if o.ord = 4 then joinV line t.gained now2 else t.gained), (if relP o.ord then now2 else t.given), t.read, t.next⟩, if o.ord = 4 then now2 else all)

set_option maxRecDepth 8000 in
set_option maxHeartbeats 4000000 in
theorem view_fenced_c (p : PM) (ok : p.Ok) (wf : p.vm.Wf B) {w : Nat} (hw : w < p.pt.length) (o : OpV) (ho : isOrderP o.ord = true) : Con Try.prog 66 #[pv mp 0, vi w, vop o] M (p.G mp) fun v _ G' =>
    ∃ p' : PM, G' = p'.G mp ∧ p'.Ok ∧ p'.vm = p.vm.fenced w o ∧ p'.pg = p.pg ∧ p'.pc = p.pc := by
  have hb : ∀ l, l < 3 → (p.line l).length < 1000000 := fun l hl => by have h1 := wf.ll l hl; have h2 := wf.b0; simp only [PM.vm] at h1; omega
  obtain ⟨pg, pc, mv, lv, tv, prog, msgs, line, all, pt⟩ := p
  obtain ⟨pA, ⟨t, ov⟩, pC, rfl, hpA⟩ := PM.split pt w hw
  have hA : (pA.flatMap encPT).length = w * 11 := by rw [encPT_len, hpA]
  dsimp only at hb hw
  refine Con.enter Q79_ok (args := [pv mp 0, vi w, vop o]) (by simp [Q79]) fun w0 => ?_
  simp only [Q79, argE, PM.G]
  rw [tc_of]
  repeat' first
      | refine EV.seq ?_
      | refine EV.skip ?_
      | ((first | refine EV.reg ?_ | refine EV.any _ (List.Sublist.refl _) ?_ | fail); (conv => (arg 2; whnf)); simp only [push_cast, Int.cast_ofNat_Int, reduceIte, Nat.reduceEqDiff, reduceCtorEq, Nat.reduceAdd, Nat.reduceSub, Nat.reduceMul, Int.reduceToNat, Nat.reduceLeDiff, tc_len hA, hd_len, encV_len, ok1_encV, tc_st_now hA, tc_st_gained hA, tc_st_given hA, hd_st_all])
      | ((first | refine ConQ.call (view_join_l (RdL.of' (line := line) (lv := lv) (fun q hq => by simp [hq]) hb) _ _) ?_ | refine ConQ.call (order_Releases_q _ ho) ?_ | refine ConQ.call (order_Acquires_q _ ho) ?_ | refine Exists.intro _ (And.intro (rd_hd_all) ?_) | refine Exists.intro _ (Exists.intro _ (Exists.intro _ (And.intro (rd_hd_th) ?_))) | refine Exists.intro _ (And.intro (rd_tc_gained hA) ?_) | refine Exists.intro _ (And.intro (rd_tc_now hA) ?_) | fail); try simp only [push_cast, Int.cast_ofNat_Int, reduceIte, Nat.reduceEqDiff, reduceCtorEq, Nat.reduceAdd, Nat.reduceSub, Nat.reduceMul, Int.reduceToNat, Nat.reduceLeDiff, tc_len hA, hd_len, encV_len, ok1_encV, tc_st_now hA, tc_st_gained hA, tc_st_given hA, hd_st_all])
      | ((refine EV.cond rfl (fun h => ?_) (fun h => ?_) <;> try simp only [reduceCtorEq, reduceIte, if_true, if_false, Bool.not_eq_true', Bool.not_eq_false', decide_eq_true_eq, decide_eq_false_iff_not, Bool.and_eq_true, Bool.or_eq_true, Bool.and_eq_false_iff, Bool.or_eq_false_iff] at h) <;> try (exfalso; first | exact h True.intro | (exact h; done) | omega | (simp only [not_true_eq_false, false_or, or_false] at h; omega)))
      | (with_reducible intro b; try simp only [push_cast, Int.cast_ofNat_Int, reduceIte, Nat.reduceEqDiff, reduceCtorEq, Nat.reduceAdd, Nat.reduceSub, Nat.reduceMul, Int.reduceToNat, Nat.reduceLeDiff, tc_len hA, hd_len, encV_len, ok1_encV, tc_st_now hA, tc_st_gained hA, tc_st_given hA, hd_st_all])
      | (refine And.intro (by omega) ?_)
      | (refine xi rfl (by simp only [List.length_cons, List.length_nil]; omega) ?_; try simp only [push_cast, Int.cast_ofNat_Int, reduceIte, Nat.reduceEqDiff, reduceCtorEq, Nat.reduceAdd, Nat.reduceSub, Nat.reduceMul, Int.reduceToNat, Nat.reduceLeDiff, tc_len hA, hd_len, encV_len, ok1_encV, tc_st_now hA, tc_st_gained hA, tc_st_given hA, hd_st_all])
      | (refine xw ?_; simp only [push_cast, Int.cast_ofNat_Int, reduceIte, Nat.reduceEqDiff, reduceCtorEq, Nat.reduceAdd, Nat.reduceSub, Nat.reduceMul, Int.reduceToNat, Nat.reduceLeDiff, tc_len hA, hd_len, encV_len, ok1_encV, tc_st_now hA, tc_st_gained hA, tc_st_given hA, hd_st_all])
      | (refine And.intro (PHeap.le_refl _) (And.intro (fun p hp => hp) ?_))
      | fail
  all_goals
    rename_i ha h4
    refine EV.to (ρ' := []) (G' := PM.G ⟨pg, pc, mv, lv, tv, prog, msgs, line, (fencedThr line all t o).2, pA ++ ((fencedThr line all t o).1, ov) :: pC⟩ mp) ?_ (by simp) (by simp only [PM.G, tc_of, rdsG_at, pt_len, fencedThr, ha, h, if_true, if_false, reduceCtorEq, reduceIte]; (first | simp only [if_pos h4] | simp only [if_neg h4]); (repeat' first | exact List.Sublist.refl _ | exact List.nil_sublist _ | exact List.sublist_append_left _ _ | refine List.Sublist.cons_cons _ ?_ | refine List.Sublist.append_left ?_ _ | refine List.sublist_append_of_sublist_right ?_ | refine List.Sublist.cons _ ?_))
    refine EV.done Q79_ok ?_
    simp only [push_cast, Int.cast_ofNat_Int, reduceIte, Nat.reduceEqDiff, reduceCtorEq, Nat.reduceAdd, Nat.reduceSub, Nat.reduceMul, Int.reduceToNat, Nat.reduceLeDiff, Q79]
    refine ⟨_, rfl, ok.thr _ _ (ok.rk (t, ov) (by simp)), ?_, rfl, rfl⟩
    subst hpA
    simp only [PM.vm, VM.fenced, thr_at, thr_set pA pC t _ ov ov]
    rfl

end
end Go.EV
