/- Orders that are at least as strong. Programs with orders at least as strong: the walk of litmus.AtLeast. A program with some orders made stronger: the walk of raised. The plain law of executions: an execution of a program seen in another one. Executions in which all that is done is done in one order: a run of the events. The execution of a run of all events. The execution of a run of all events is one; its outcome. The outcome of a run. An execution that goes with one order of all events is that of a run in this order. With orders that are at least as strong there are no more outcomes (plain law). Runs of the events of a program, event by event. The plain law of executions: each is told once. The plain law: locations renamed. The plain law: the threads in the opposite order. The interleavings of a program are runs of its events. The outcome of each interleaving is one of the executions'. What litmus.Interleavings reckons has an outcome, and not too many. With orders that are at least as strong there are no more outcomes: the walk. With orders that are at least as strong a program has no more outcomes: the statement. -/
import Derived.Test.YtmgnpoleilcjoaaGreatVPac
import Derived.Test.YtmgnpoleilcjoaaGreatVPae
set_option maxRecDepth 8000
set_option linter.unusedSimpArgs false
set_option linter.unusedVariables false
set_option linter.unusedSectionVars false
namespace Go.EV
open Go.Proofs

/-- a does all that b does. -/
def aboveP (a b : Int) : Bool := decide (a = b) || decide (b = 0) || decide (a = 4) || (decide (a = 3) && (decide (b = 1) || decide (b = 2)))

end Go.EV

namespace Go.EV
open Go.Proofs

theorem above_bits (a b : Int) (ha : isOrderP a = true) (hb : isOrderP b = true) : decide (IntKind.i64.wrap ((BitVec.ofInt IntKind.i64.bits (bitsP a) &&& BitVec.ofInt IntKind.i64.bits (bitsP b)).toNat : Int) = bitsP b) = aboveP a b := by
 rcases isOrder_cases ha with rfl | rfl | rfl | rfl | rfl <;> rcases isOrder_cases hb with rfl | rfl | rfl | rfl | rfl <;> decide

/-- One operation is as strong as another one, or stronger, and like it otherwise. -/
def stB (x y : OpV) : Bool := (isOrderP x.ord && isOrderP y.ord && aboveP x.ord y.ord) && (decide (x.kind = y.kind) && (decide (x.loc = y.loc) && (decide (x.v = y.v) && decide (x.w = y.w))))
/-- Rows alike, place by place. -/
def eqfP {α β : Type} (f : α → β → Bool) : List α → List β → Bool
 | [], [] => true
 | x :: a, y :: b => f x y && eqfP f a b
 | _, _ => false
theorem eqf_len {α β : Type} {f : α → β → Bool} : ∀ {a : List α} {b : List β}, eqfP f a b = true → a.length = b.length
 | [], [], _ => rfl
 | [], _ :: _, h => by simp [eqfP] at h
 | _ :: _, [], h => by simp [eqfP] at h
 | x :: a, y :: b, h => by
  simp only [eqfP, Bool.and_eq_true] at h
  simp [eqf_len h.2]
theorem eqf_at {α β : Type} {f : α → β → Bool} : ∀ {a : List α} {b : List β}, a.length = b.length → (eqfP f a b = true ↔ ∀ i (h : i < a.length) (h' : i < b.length), f a[i] b[i] = true)
 | [], [], _ => ⟨fun _ i h => absurd h (Nat.not_lt_zero _), fun _ => rfl⟩
 | x :: a, y :: b, hl => by
  have ih := eqf_at (f := f) (a := a) (b := b) (by simpa using hl)
  simp only [eqfP, Bool.and_eq_true]
  rw [ih]
  constructor
  ·rintro ⟨h1, h2⟩ i hi hi'
   cases i with
   | zero => exact h1
   | succ i => exact h2 i (by simpa using hi) (by simpa using hi')
  ·intro h
   exact ⟨h 0 (by simp) (by simp), fun i hi hi' => h (i + 1) (by simpa using hi) (by simpa using hi')⟩
/-- What litmus.AtLeast says of valid programs. -/
def atlP (ts us : List (List OpV)) : Bool := eqfP (eqfP stB) ts us

section
variable {M : PHeap}

theorem order_covers_q (a b : Int) (ha : isOrderP a = true) (hb : isOrderP b = true) : ConQ Tryz.prog 97 #[vi a, vi b] M (vb (aboveP a b)) := by
 refine Con.enter Q69_ok (args := [vi a, vi b]) (by simp [Q69]) fun w0 => ?_
 simp only [Q69, argE]
 repeat' first
   | refine EV.seq ?_
   | (refine EV.reg ?_; (conv => (arg 2; whnf)); (refine nx ?_; try with_reducible exact ⟨⟩))
   | ((first | refine ConQ.call (order_bits_q b) ?_ | refine ConQ.call (order_bits_q a) ?_ | fail); try (refine nx ?_; try with_reducible exact ⟨⟩))
   | (refine EV.ret Q69_ok ?_; simp only [wpS, wpA, wpQL, push_cast, Int.cast_ofNat_Int, reduceIte, Nat.reduceEqDiff, reduceCtorEq, Nat.reduceAdd, Nat.reduceSub, Nat.reduceMul, Int.reduceToNat, Nat.reduceLeDiff, Q69])
   | fail
 exact congrArg Value.bool (above_bits a b ha hb)

theorem order_AtLeast_q (a b : Int) : ConQ Tryz.prog 62 #[vi a, vi b] M (.tuple #[vb (isOrderP a && isOrderP b && aboveP a b), vi (if isOrderP a && isOrderP b then 0 else 1)]) := by
 refine Con.enter Q64_ok (args := [vi a, vi b]) (by simp [Q64]) fun w0 => ?_
 simp only [Q64, argE]
 repeat' first
   | refine EV.seq ?_
   | refine EV.skip ?_
   | (refine EV.reg ?_; (conv => (arg 2; whnf)); (refine nx ?_; try with_reducible exact ⟨⟩))
   | (refine ConQ.call (order_isOrder_q _) ?_; try (refine nx ?_; try with_reducible exact ⟨⟩))
   | with_reducible assumption
   | (refine condW.merge ?_ (fun hc K' hK => ?_) ?_; rotate_left)
   | (refine EV.condX rfl (fun h => ?_) (fun h => ?_) <;> try exact dead h)
   | fail
 ·refine EV.ret Q64_ok ?_
  simp only [wpS, wpA, wpQL, push_cast, Int.cast_ofNat_Int, reduceIte, Nat.reduceEqDiff, reduceCtorEq, Nat.reduceAdd, Nat.reduceSub, Nat.reduceMul, Int.reduceToNat, Nat.reduceLeDiff, Q64]
  have h2 : (isOrderP a && isOrderP b) = false := by
   cases ha : isOrderP a <;> cases hb : isOrderP b <;> simp [ha, hb] at h ⊢
  simp [h2]
 ·have ha : isOrderP a = true := by cases ha : isOrderP a <;> simp [ha] at h ⊢
  have hb : isOrderP b = true := by cases hb : isOrderP b <;> simp [ha, hb] at h ⊢
  refine ConQ.call (order_covers_q a b ha hb) ?_
  refine EV.ret Q64_ok ?_
  simp only [wpS, wpA, wpQL, push_cast, Int.cast_ofNat_Int, reduceIte, Nat.reduceEqDiff, reduceCtorEq, Nat.reduceAdd, Nat.reduceSub, Nat.reduceMul, Int.reduceToNat, Nat.reduceLeDiff, Q64]
  simp [ha, hb]

set_option maxHeartbeats 4000000 in
theorem atl_op_q (x y : OpV) : ConQ Tryz.prog 61 #[vop x, vop y] M (vb (stB x y)) := by
 refine Con.enter Q45_ok (args := [vop x, vop y]) (by simp [Q45]) fun w0 => ?_
 simp only [Q45, argE]
 repeat' first
   | refine EV.seq ?_
   | (refine EV.reg ?_; (conv => (arg 2; whnf)); (refine nx ?_; try with_reducible exact ⟨⟩))
   | (refine ConQ.call (order_AtLeast_q x.ord y.ord) ?_; try (refine nx ?_; try with_reducible exact ⟨⟩))
   | with_reducible assumption
   | (refine condW.merge ?_ (fun hc K' hK => ?_) ?_; rotate_left)
   | ((first | with_reducible intro b | refine xrA rfl ?_ | refine xiA rfl ?_ | fail); try (refine nx ?_; try with_reducible exact ⟨⟩))
   | (refine xw ?_; (refine nx ?_; try with_reducible exact ⟨⟩))
   | fail
 refine EV.ret Q45_ok ?_
 simp only [wpS, wpA, wpQL, push_cast, Int.cast_ofNat_Int, reduceIte, Nat.reduceEqDiff, reduceCtorEq, Nat.reduceAdd, Nat.reduceSub, Nat.reduceMul, Int.reduceToNat, Nat.reduceLeDiff, Q45]
 simp [stB]

set_option maxHeartbeats 4000000 in
theorem sl_EqF_ops_q (xs ys : List OpV) (v w : Value) (hv : Sl M 5 encOp v xs) (hw : Sl M 5 encOp w ys) (hx : xs.length ≤ 281474976710656) (hy : ys.length ≤ 281474976710656) (g : Nat) (f : OpV → OpV → Bool)
  (hf : ∀ G x y, ConQ Tryz.prog g #[vop x, vop y] (M.add G) (vb (f x y))) : ConQ Tryz.prog 60 #[v, w, .func (.func g) #[] #[]] M (vb (eqfP f xs ys)) := by
 obtain ⟨a, c, rfl, hr⟩ := hv
 obtain ⟨a2, c2, rfl, hr2⟩ := hw
 refine Con.enter Q80_ok (args := [.slice a xs.length c, .slice a2 ys.length c2, .func (.func g) #[] #[]]) (by simp [Q80]) fun w0 => ?_
 simp only [Q80, argE]
 repeat' first
   | refine EV.seq ?_
   | refine EV.skip ?_
   | refine EV.block ?_
   | (refine EV.reg ?_; (conv => (arg 2; whnf)); (refine nx ?_; try with_reducible exact ⟨⟩))
   | (refine EV.condX rfl (fun h => ?_) (fun h => ?_) <;> try exact dead h)
   | fail
 ·have hne : eqfP f xs ys = false := by
   cases he : eqfP f xs ys with
   | false => rfl
   | true => exact absurd (eqf_len he) (by omega)
  refine EV.ret Q80_ok ?_
  simp only [wpS, wpA, wpQL, push_cast, Int.cast_ofNat_Int, reduceIte, Nat.reduceEqDiff, reduceCtorEq, Nat.reduceAdd, Nat.reduceSub, Nat.reduceMul, Int.reduceToNat, Nat.reduceLeDiff, Q80]
  rw [hne]
 ·have hl : xs.length = ys.length := by omega
  have hiff := eqf_at (f := f) hl
  refine EV.loopTo (fun i : Nat => ([(0, .slice a xs.length c), (1, .slice a2 ys.length c2), (2, .func (.func g) #[] #[]), (15, .slice a xs.length c), (16, vi xs.length), (17, vi i)], M, [])) (fun i => i ≤ xs.length ∧ ∀ j (h : j < xs.length) (h' : j < ys.length), j < i → f xs[j] ys[j] = true) (fun i => xs.length - i) 0 rfl ⟨Nat.zero_le _, fun j _ _ h => absurd h (Nat.not_lt_zero _)⟩ ?env1 (List.Sublist.refl _) ?_
  case env1 =>
   repeat' first
    | (refine List.forall_mem_cons.2 (And.intro ?_ ?_))
    | (intro _ hnil; cases hnil; done)
    | rfl
    | fail
  rintro i ⟨hi, he⟩ ih
  dsimp only at hi he ih ⊢
  repeat' first
    | refine EV.seq ?_
    | refine EV.skip ?_
    | refine EV.block ?_
    | (refine EV.reg ?_; (conv => (arg 2; whnf)); (refine nx ?_; try with_reducible exact ⟨⟩))
    | (refine EV.condX rfl (fun h => ?_) (fun h => ?_) <;> try exact dead h)
    | (refine EV.exit rfl ?_)
    | fail
  ·have hi' : i < xs.length := by omega
   have hi2 : i < ys.length := by omega
   obtain ⟨b, o, rfl, hat⟩ := Sl.at (sz := 5) (enc := encOp) (fun _ => rfl) (by decide) hr (by omega)
   obtain ⟨b2, o2, rfl, hat2⟩ := Sl.at (sz := 5) (enc := encOp) (fun _ => rfl) (by decide) hr2 (by omega)
   have q1 := hat i hi'
   have q2 := hat2 i hi2
   repeat' first
     | refine EV.seq ?_
     | refine EV.skip ?_
     | refine EV.inBlock ?_
     | (refine EV.reg ?_; (conv => (arg 2; whnf)); (refine nx ?_; try with_reducible exact ⟨⟩))
     | (refine ConQ.call (hf _ xs[i] ys[i]) ?_; try (refine nx ?_; try with_reducible exact ⟨⟩))
     | (refine EV.condX rfl (fun h => ?_) (fun h => ?_) <;> try exact dead h)
     | (with_reducible intro b; try (refine nx ?_; try with_reducible exact ⟨⟩))
     | (refine And.intro (by omega) ?_)
     | ((first | refine Exists.intro _ (And.intro (rd_M (by assumption)) ?_) | refine xrA rfl ?_ | fail); try (refine nx ?_; try with_reducible exact ⟨⟩))
     | (refine xw ?_; (refine nx ?_; try with_reducible exact ⟨⟩))
     | fail
   ·have hne : eqfP f xs ys = false := by
     cases he2 : eqfP f xs ys with
     | false => rfl
     | true => have := hiff.1 he2 i hi' hi2; rw [h] at this; cases this
    refine EV.ret Q80_ok ?_
    simp only [wpS, wpA, wpQL, push_cast, Int.cast_ofNat_Int, reduceIte, Nat.reduceEqDiff, reduceCtorEq, Nat.reduceAdd, Nat.reduceSub, Nat.reduceMul, Int.reduceToNat, Nat.reduceLeDiff, Q80]
    rw [hne]
   ·refine EV.to (ih (i + 1) ⟨by omega, fun j hj hj2 hlt => ?_⟩ (by omega)) ?_ (List.nil_sublist _)
    ·by_cases hji : j < i
     ·exact he j hj hj2 hji
     ·have : j = i := by omega
      subst this; exact h
    ·repeat' first
      | (refine List.forall_mem_cons.2 (And.intro ?_ ?_))
      | (intro _ hnil; cases hnil; done)
      | rfl
      | (refine env_w64 rfl (by first | rfl | (push_cast; first | rfl | omega)) (by omega) (by omega); done)
      | fail
  ·have hall : eqfP f xs ys = true := hiff.2 fun j hj hj2 => he j hj hj2 (by omega)
   refine EV.ret Q80_ok ?_
   simp only [wpS, wpA, wpQL, push_cast, Int.cast_ofNat_Int, reduceIte, Nat.reduceEqDiff, reduceCtorEq, Nat.reduceAdd, Nat.reduceSub, Nat.reduceMul, Int.reduceToNat, Nat.reduceLeDiff, Q80]
   rw [hall]

theorem atl_row_q (xs ys : List OpV) (v w : Value) (hv : Sl M 5 encOp v xs) (hw : Sl M 5 encOp w ys) (hx : xs.length ≤ 281474976710656) (hy : ys.length ≤ 281474976710656) : ConQ Tryz.prog 59 #[v, w] M (vb (eqfP stB xs ys)) := by
 have hq := fun G => sl_EqF_ops_q (M := M.add G) xs ys v w (hv.mono (PHeap.le_add _ _)) (hw.mono (PHeap.le_add _ _)) hx hy _ stB (fun G x y => atl_op_q x y)
 refine Con.enter Q44_ok (args := [v, w]) (by simp [Q44]) fun w0 => ?_
 simp only [Q44, argE]
 repeat' first
   | refine EV.seq ?_
   | (refine EV.reg ?_; (conv => (arg 2; whnf)); (refine nx ?_; try with_reducible exact ⟨⟩))
   | (refine ConQ.call (hq _) ?_; try (refine nx ?_; try with_reducible exact ⟨⟩))
   | (refine EV.ret Q44_ok ?_; simp only [wpS, wpA, wpQL, push_cast, Int.cast_ofNat_Int, reduceIte, Nat.reduceEqDiff, reduceCtorEq, Nat.reduceAdd, Nat.reduceSub, Nat.reduceMul, Int.reduceToNat, Nat.reduceLeDiff, Q44])
   | fail

set_option maxHeartbeats 4000000 in
theorem sl_EqF_rows_q (xs ys : List (List OpV)) (v w : Value) (hv : SlSl M 5 encOp v xs) (hw : SlSl M 5 encOp w ys) (hx : xs.length ≤ 281474976710656) (hy : ys.length ≤ 281474976710656) (g : Nat) (f : List OpV → List OpV → Bool)
  (hf : ∀ G x y vx vy, x ∈ xs → y ∈ ys → Sl M 5 encOp vx x → Sl M 5 encOp vy y → ConQ Tryz.prog g #[vx, vy] (M.add G) (vb (f x y))) : ConQ Tryz.prog 58 #[v, w, .func (.func g) #[] #[]] M (vb (eqfP f xs ys)) := by
 obtain ⟨a, c, vs, rfl, hvl, hr, hk⟩ := hv
 obtain ⟨a2, c2, ws, rfl, hwl, hr2, hk2⟩ := hw
 refine Con.enter Q79_ok (args := [.slice a xs.length c, .slice a2 ys.length c2, .func (.func g) #[] #[]]) (by simp [Q79]) fun w0 => ?_
 simp only [Q79, argE]
 repeat' first
   | refine EV.seq ?_
   | refine EV.skip ?_
   | refine EV.block ?_
   | (refine EV.reg ?_; (conv => (arg 2; whnf)); (refine nx ?_; try with_reducible exact ⟨⟩))
   | (refine EV.condX rfl (fun h => ?_) (fun h => ?_) <;> try exact dead h)
   | fail
 ·have hne : eqfP f xs ys = false := by
   cases he : eqfP f xs ys with
   | false => rfl
   | true => exact absurd (eqf_len he) (by omega)
  refine EV.ret Q79_ok ?_
  simp only [wpS, wpA, wpQL, push_cast, Int.cast_ofNat_Int, reduceIte, Nat.reduceEqDiff, reduceCtorEq, Nat.reduceAdd, Nat.reduceSub, Nat.reduceMul, Int.reduceToNat, Nat.reduceLeDiff, Q79]
  rw [hne]
 ·have hl : xs.length = ys.length := by omega
  have hiff := eqf_at (f := f) hl
  refine EV.loopTo (fun i : Nat => ([(0, .slice a xs.length c), (1, .slice a2 ys.length c2), (2, .func (.func g) #[] #[]), (15, .slice a xs.length c), (16, vi xs.length), (17, vi i)], M, [])) (fun i => i ≤ xs.length ∧ ∀ j (h : j < xs.length) (h' : j < ys.length), j < i → f xs[j] ys[j] = true) (fun i => xs.length - i) 0 rfl ⟨Nat.zero_le _, fun j _ _ h => absurd h (Nat.not_lt_zero _)⟩ ?env1 (List.Sublist.refl _) ?_
  case env1 =>
   repeat' first
    | (refine List.forall_mem_cons.2 (And.intro ?_ ?_))
    | (intro _ hnil; cases hnil; done)
    | rfl
    | fail
  rintro i ⟨hi, he⟩ ih
  dsimp only at hi he ih ⊢
  repeat' first
    | refine EV.seq ?_
    | refine EV.skip ?_
    | refine EV.block ?_
    | (refine EV.reg ?_; (conv => (arg 2; whnf)); (refine nx ?_; try with_reducible exact ⟨⟩))
    | (refine EV.condX rfl (fun h => ?_) (fun h => ?_) <;> try exact dead h)
    | (refine EV.exit rfl ?_)
    | fail
  ·have hi' : i < xs.length := by omega
   have hi2 : i < ys.length := by omega
   obtain ⟨b, o, rfl, hat⟩ := SlSl.at hr hvl hk (by omega)
   obtain ⟨b2, o2, rfl, hat2⟩ := SlSl.at hr2 hwl hk2 (by omega)
   obtain ⟨p1, p2, q1, q2⟩ := hat i hi'
   obtain ⟨p3, p4, q3, q4⟩ := hat2 i hi2
   simp only [Nat.mul_one] at q1 q3
   have hfi := fun G => hf G xs[i] ys[i] _ _ (List.getElem_mem hi') (List.getElem_mem hi2) ⟨p1, p2, rfl, q2⟩ ⟨p3, p4, rfl, q4⟩
   repeat' first
     | refine EV.seq ?_
     | refine EV.skip ?_
     | refine EV.inBlock ?_
     | (refine EV.reg ?_; (conv => (arg 2; whnf)); (refine nx ?_; try with_reducible exact ⟨⟩))
     | (refine ConQ.call (hfi _) ?_; try (refine nx ?_; try with_reducible exact ⟨⟩))
     | (refine EV.condX rfl (fun h => ?_) (fun h => ?_) <;> try exact dead h)
     | (refine And.intro (by omega) ?_)
     | (refine Exists.intro _ (Exists.intro _ (Exists.intro _ (And.intro (rd_M (by assumption)) ?_))); try (refine nx ?_; try with_reducible exact ⟨⟩))
     | fail
   ·have hne : eqfP f xs ys = false := by
     cases he2 : eqfP f xs ys with
     | false => rfl
     | true => have := hiff.1 he2 i hi' hi2; rw [h] at this; cases this
    refine EV.ret Q79_ok ?_
    simp only [wpS, wpA, wpQL, push_cast, Int.cast_ofNat_Int, reduceIte, Nat.reduceEqDiff, reduceCtorEq, Nat.reduceAdd, Nat.reduceSub, Nat.reduceMul, Int.reduceToNat, Nat.reduceLeDiff, Q79]
    rw [hne]
   ·refine EV.to (ih (i + 1) ⟨by omega, fun j hj hj2 hlt => ?_⟩ (by omega)) ?_ (List.nil_sublist _)
    ·by_cases hji : j < i
     ·exact he j hj hj2 hji
     ·have : j = i := by omega
      subst this; exact h
    ·repeat' first
      | (refine List.forall_mem_cons.2 (And.intro ?_ ?_))
      | (intro _ hnil; cases hnil; done)
      | rfl
      | (refine env_w64 rfl (by first | rfl | (push_cast; first | rfl | omega)) (by omega) (by omega); done)
      | fail
  ·have hall : eqfP f xs ys = true := hiff.2 fun j hj hj2 => he j hj hj2 (by omega)
   refine EV.ret Q79_ok ?_
   simp only [wpS, wpA, wpQL, push_cast, Int.cast_ofNat_Int, reduceIte, Nat.reduceEqDiff, reduceCtorEq, Nat.reduceAdd, Nat.reduceSub, Nat.reduceMul, Int.reduceToNat, Nat.reduceLeDiff, Q79]
   rw [hall]

set_option maxHeartbeats 4000000 in
theorem litmus_AtLeast_q (ts us : List (List OpV)) (s s' : Value) (hs : SlSl M 5 encOp s ts) (hs' : SlSl M 5 encOp s' us) (hb : Sized ts) (hb' : Sized us) :
  ConQ Tryz.prog 23 #[.agg #[s], .agg #[s']] M (.tuple #[vb (decide (checkP ts = 0) && (decide (checkP us = 0) && atlP ts us)), vi (if checkP ts ≠ 0 then checkP ts else checkP us)]) := by
 have hc1 := fun G => litmus_Check_q (M := M.add G) ts s (hs.mono (PHeap.le_add _ _)) hb
 have hc2 := fun G => litmus_Check_q (M := M.add G) us s' (hs'.mono (PHeap.le_add _ _)) hb'
 have heq := fun G => sl_EqF_rows_q (M := M.add G) ts us s s' (hs.mono (PHeap.le_add _ _)) (hs'.mono (PHeap.le_add _ _)) (by have := hb.1; omega) (by have := hb'.1; omega) 59 (eqfP stB) (fun G x y vx vy hx hy hvx hvy => atl_row_q x y vx vy (hvx.mono (PHeap.le_add _ _)) (hvy.mono (PHeap.le_add _ _)) (by have := hb.2 x hx; omega) (by have := hb'.2 y hy; omega))
 have hs0 := hs
 have hs1 := hs'
 obtain ⟨a, c, vs, rfl, _⟩ := hs
 obtain ⟨a', c', vs', rfl, _⟩ := hs'
 refine Con.enter Q43_ok (args := [.agg #[.slice a ts.length c], .agg #[.slice a' us.length c']]) (by simp [Q43]) fun w0 => ?_
 simp only [Q43, argE]
 repeat' first
   | refine EV.seq ?_
   | refine EV.block ?_
   | (refine EV.reg ?_; (conv => (arg 2; whnf)); (refine nx ?_; try with_reducible exact ⟨⟩))
   | ((first | with_reducible intro b | refine xrA rfl ?_ | fail); try (refine nx ?_; try with_reducible exact ⟨⟩))
   | fail
 rename_i pb qb
 obtain ⟨lb, rfl⟩ : ∃ x, x = b := ⟨_, rfl⟩
 refine EV.keepS [] ?_
 generalize hR : M.add _ = N
 have hMN : M.le N := hR ▸ PHeap.le_add _ _
 have hpb : rd N pb 0 1 [.slice a ts.length c] := hR ▸ rd_at (T := 24) (cs := [.slice a ts.length c]) (by simp) rfl (by simp)
 have hqb : rd N qb 0 1 [.slice a' us.length c'] := hR ▸ rd_at (T := 24) (cs := [.slice a' us.length c']) (by simp) rfl (by simp)
 have hl0 : rd N lb 0 1 [.slice a ts.length c] := hR ▸ rd_at (T := 24) (cs := [.slice a ts.length c, .slice a' us.length c']) (by simp) rfl (by simp)
 have hl1 : rd N lb 1 1 [.slice a' us.length c'] := hR ▸ rd_at (T := 24) (cs := [.slice a ts.length c, .slice a' us.length c']) (by simp) rfl (by simp)
 clear hR
 have hc1' : ∀ G, ConQ Tryz.prog 24 #[.agg #[.slice a ts.length c]] (N.add G) (vi (checkP ts)) := fun G => litmus_Check_q (M := N.add G) ts _ ((hs0.mono hMN).mono (PHeap.le_add _ _)) hb
 have hc2' : ∀ G, ConQ Tryz.prog 24 #[.agg #[.slice a' us.length c']] (N.add G) (vi (checkP us)) := fun G => litmus_Check_q (M := N.add G) us _ ((hs1.mono hMN).mono (PHeap.le_add _ _)) hb'
 have heq' := fun G => sl_EqF_rows_q (M := N.add G) ts us _ _ ((hs0.mono hMN).mono (PHeap.le_add _ _)) ((hs1.mono hMN).mono (PHeap.le_add _ _)) (by have := hb.1; omega) (by have := hb'.1; omega) 59 (eqfP stB) (fun G x y vx vy hx hy hvx hvy => atl_row_q x y vx vy (hvx.mono (PHeap.le_add _ _)) (hvy.mono (PHeap.le_add _ _)) (by have := hb.2 x hx; omega) (by have := hb'.2 y hy; omega))
 refine EV.loopTo (fun i : Nat => ([(2, pv pb 0), (3, pv qb 0), (4, .bool false), (5, vi 0), (11, vrow lb 2 2), (12, vi 2), (13, vi i)], N, [])) (fun i => i ≤ 2 ∧ (0 < i → checkP ts = 0) ∧ (1 < i → checkP us = 0)) (fun i => 2 - i) 0 rfl ⟨by omega, by omega, by omega⟩ ?env1 (List.nil_sublist _) ?_
 case env1 =>
  repeat' first
   | (refine List.forall_mem_cons.2 (And.intro ?_ ?_))
   | (intro _ hnil; cases hnil; done)
   | rfl
   | fail
 rintro i ⟨hi, hi1, hi2⟩ ih
 dsimp only at hi hi1 hi2 ih ⊢
 have h3 : i = 0 ∨ i = 1 ∨ i = 2 := by omega
 rcases h3 with rfl | rfl | rfl
 ·repeat' first
   | refine EV.seq ?_
   | refine EV.skip ?_
   | refine EV.block ?_
   | refine EV.inBlock ?_
   | (refine EV.reg ?_; (conv => (arg 2; whnf)); (refine nx ?_; try with_reducible exact ⟨⟩))
   | (refine ConQ.call (hc1' _) ?_; try (refine nx ?_; try with_reducible exact ⟨⟩))
   | (refine EV.condX rfl (fun h => ?_) (fun h => ?_) <;> try exact dead h)
   | (with_reducible intro b; try (refine nx ?_; try with_reducible exact ⟨⟩))
   | (refine And.intro (by omega) ?_)
   | ((first | refine Exists.intro _ (And.intro (rd_M (by assumption)) ?_) | refine xrA rfl ?_ | fail); try (refine nx ?_; try with_reducible exact ⟨⟩))
   | (refine xw ?_; (refine nx ?_; try with_reducible exact ⟨⟩))
   | fail
  ·refine EV.ret Q43_ok ?_
   simp only [wpS, wpA, wpQL, push_cast, Int.cast_ofNat_Int, reduceIte, Nat.reduceEqDiff, reduceCtorEq, Nat.reduceAdd, Nat.reduceSub, Nat.reduceMul, Int.reduceToNat, Nat.reduceLeDiff, Q43]
   simp [h]
  ·refine EV.to (ih 1 ⟨by omega, fun _ => h, by omega⟩ (by omega)) ?_ (List.nil_sublist _)
   repeat' first
    | (refine List.forall_mem_cons.2 (And.intro ?_ ?_))
    | (intro _ hnil; cases hnil; done)
    | rfl
    | fail
 ·repeat' first
   | refine EV.seq ?_
   | refine EV.skip ?_
   | refine EV.block ?_
   | refine EV.inBlock ?_
   | (refine EV.reg ?_; (conv => (arg 2; whnf)); (refine nx ?_; try with_reducible exact ⟨⟩))
   | (refine ConQ.call (hc2' _) ?_; try (refine nx ?_; try with_reducible exact ⟨⟩))
   | (refine EV.condX rfl (fun h => ?_) (fun h => ?_) <;> try exact dead h)
   | (with_reducible intro b; try (refine nx ?_; try with_reducible exact ⟨⟩))
   | (refine And.intro (by omega) ?_)
   | ((first | refine Exists.intro _ (And.intro (rd_M (by assumption)) ?_) | refine xrA rfl ?_ | fail); try (refine nx ?_; try with_reducible exact ⟨⟩))
   | (refine xw ?_; (refine nx ?_; try with_reducible exact ⟨⟩))
   | fail
  ·refine EV.ret Q43_ok ?_
   simp only [wpS, wpA, wpQL, push_cast, Int.cast_ofNat_Int, reduceIte, Nat.reduceEqDiff, reduceCtorEq, Nat.reduceAdd, Nat.reduceSub, Nat.reduceMul, Int.reduceToNat, Nat.reduceLeDiff, Q43]
   simp [h, hi1 (by omega)]
  ·refine EV.to (ih 2 ⟨by omega, fun _ => hi1 (by omega), fun _ => h⟩ (by omega)) ?_ (List.nil_sublist _)
   repeat' first
    | (refine List.forall_mem_cons.2 (And.intro ?_ ?_))
    | (intro _ hnil; cases hnil; done)
    | rfl
    | fail
 ·repeat' first
   | refine EV.seq ?_
   | (refine EV.reg ?_; (conv => (arg 2; whnf)); (refine nx ?_; try with_reducible exact ⟨⟩))
   | (refine ConQ.call (heq' _) ?_; try (refine nx ?_; try with_reducible exact ⟨⟩))
   | (refine EV.condX rfl (fun h => ?_) (fun h => ?_) <;> try exact dead h)
   | (refine EV.exit rfl ?_)
   | (refine Exists.intro _ (Exists.intro _ (Exists.intro _ (And.intro (rd_M (by assumption)) ?_))); try (refine nx ?_; try with_reducible exact ⟨⟩))
   | fail
  refine EV.ret Q43_ok ?_
  simp only [wpS, wpA, wpQL, push_cast, Int.cast_ofNat_Int, reduceIte, Nat.reduceEqDiff, reduceCtorEq, Nat.reduceAdd, Nat.reduceSub, Nat.reduceMul, Int.reduceToNat, Nat.reduceLeDiff, Q43]
  simp [hi1 (by omega), hi2 (by omega), atlP]

end
end Go.EV

namespace Go.EV
open Go.Proofs

def rOrd (o : Int) : Int := IntKind.i64.wrap ((IntKind.u64.wrap o).tmod 5)
/-- An operation, its order made stronger. -/
def raiO (x : Int) (o : OpV) : OpV := if (decide (checkP [[{ o with ord := rOrd x }]] = 0) && (decide (checkP [[o]] = 0) && atlP [[{ o with ord := rOrd x }]] [[o]])) = true then { o with ord := rOrd x } else o
def raiL (by_ : List Int) : Nat → List OpV → List OpV
 | _, [] => []
 | k, o :: l => (if k < by_.length then raiO (by_[k]?.getD 0) o else o) :: raiL by_ (k + 1) l
def raiT (by_ : List Int) : Nat → List (List OpV) → List (List OpV)
 | _, [] => []
 | k, t :: ts => raiL by_ k t :: raiT by_ (k + t.length) ts
theorem raiL_len (by_ : List Int) : ∀ k l, (raiL by_ k l).length = l.length
 | _, [] => rfl
 | k, o :: l => by simp [raiL, raiL_len by_ (k + 1) l]
theorem raiL_at (by_ : List Int) : ∀ (k : Nat) (l : List OpV) (i : Nat) (h : i < l.length), (raiL by_ k l)[i]'(by rw [raiL_len]; exact h) = if k + i < by_.length then raiO (by_[k + i]?.getD 0) l[i] else l[i]
 | k, o :: l, 0, _ => rfl
 | k, o :: l, i + 1, h => by
  have := raiL_at by_ (k + 1) l i (by simpa using h)
  simp only [raiL, List.getElem_cons_succ]
  rw [this, show k + 1 + i = k + (i + 1) by omega]
theorem raiT_len (by_ : List Int) : ∀ k ts, (raiT by_ k ts).length = ts.length
 | _, [] => rfl
 | k, t :: ts => by simp [raiT, raiT_len by_ _ ts]
theorem raiT_take (by_ : List Int) : ∀ (k : Nat) (ts : List (List OpV)) (t : Nat) (h : t < ts.length), (raiT by_ k ts).take (t + 1) = (raiT by_ k ts).take t ++ [raiL by_ (k + (ts.take t).flatten.length) ts[t]]
 | k, x :: ts, 0, _ => by simp [raiT]
 | k, x :: ts, t + 1, h => by
  have := raiT_take by_ (k + x.length) ts t (by simpa using h)
  simp only [raiT, List.take_succ_cons, List.getElem_cons_succ, List.cons_append, List.flatten_cons, List.length_append] at this ⊢
  rw [this, show k + x.length + (ts.take t).flatten.length = k + (x.length + (ts.take t).flatten.length) by omega]

/-- A row, its first operations raised. -/
def raiI (by_ : List Int) (k : Nat) (t : List OpV) (i : Nat) : List OpV := (raiL by_ k t).take i ++ t.drop i
theorem raiI_len (by_ : List Int) (k : Nat) (t : List OpV) (i : Nat) : (raiI by_ k t i).length = t.length := by
 simp only [raiI, List.length_append, List.length_take, List.length_drop, raiL_len]; omega
theorem raiI_at {by_ : List Int} {k : Nat} {t : List OpV} {i : Nat} (h : i < t.length) : (raiI by_ k t i)[i]'(by rw [raiI_len]; exact h) = t[i] := by
 simp only [raiI]
 rw [List.getElem_append_right (by rw [List.length_take]; omega)]
 simp [List.length_take, raiL_len, Nat.min_eq_left (Nat.le_of_lt h)]
theorem raiI_succ {by_ : List Int} {k : Nat} {t : List OpV} {i : Nat} (h : i < t.length) : raiI by_ k t (i + 1) = (raiI by_ k t i).set i (if k + i < by_.length then raiO (by_[k + i]?.getD 0) t[i] else t[i]) := by
 unfold raiI
 rw [List.take_succ_eq_append_getElem (by rw [raiL_len]; exact h), raiL_at _ _ _ _ h, List.set_append_right _ _ (by rw [List.length_take]; omega)]
 have e : i - ((raiL by_ k t).take i).length = 0 := by simp [raiL_len, Nat.min_eq_left (Nat.le_of_lt h)]
 have e2 : t.drop i = t[i] :: t.drop (i + 1) := List.drop_eq_getElem_cons h
 rw [e, e2, List.set_cons_zero, List.append_assoc]; rfl

/-- Cells of operations, one written. -/
theorem ops_put (sp : List Value) (x : OpV) : ∀ (l : List OpV) (i : Nat) (h : i < l.length),
  (l.flatMap encOp ++ sp).take (i * 5) ++ (encOp x ++ (l.flatMap encOp ++ sp).drop (i * 5 + 5)) = (l.set i x).flatMap encOp ++ sp
 | o :: l, 0, _ => by simp [List.flatMap_cons, encOp]
 | o :: l, i + 1, h => by
  have ih := ops_put sp x l i (by simpa using h)
  have h1 : (i + 1) * 5 = (i * 5) + 5 := by omega
  rw [List.flatMap_cons, List.set_cons_succ, List.flatMap_cons, h1]
  simp only [encOp, List.cons_append, List.nil_append, List.take_succ_cons, List.drop_succ_cons] at ih ⊢
  rw [ih]

section
variable {M : PHeap} {G : Own} {b : Nat} {T : TypeId} {l : List OpV} {sp : List Value} {i : Nat}
theorem ops_get2 (sp : List Value) (l : List OpV) (i : Nat) (h : i < l.length) : ((l.flatMap encOp ++ sp).drop (i * 5)).take 5 = encOp l[i] := by
 have hl := ops_cells l
 rw [List.drop_append_of_le_length (by omega), List.take_append_of_le_length (by rw [List.length_drop]; omega)]
 exact flatMap_part (sz := 5) (enc := encOp) (fun _ => rfl) h
theorem rd_opY [hA : At G b T (l.flatMap encOp ++ sp)] (h : i < l.length) : rd (M.add G) b (i * 5) 5 (encOp l[i]) :=
 rd_at hA.mem (ops_get2 sp l i h) (by rw [List.length_append, ops_cells]; omega)
theorem rd_thW {l : Ths} [hA : At G b T (thV l ++ sp)] (h : i < l.length) : rd (M.add G) b i 1 [osv l[i].1 l[i].2.length] := by
 refine rd_at hA.mem ?_ (by rw [List.length_append, thV_len]; omega)
 rw [List.drop_append_of_le_length (by rw [thV_len]; omega), List.take_append_of_le_length (by rw [List.length_drop, thV_len]; omega)]
 unfold thV
 rw [row_part (fun x : Vec × List OpV => osv x.1 x.2.length) l h]
end

theorem thG_split2 {l : Ths} {t : Nat} (h : t < l.length) : thG l = thG (l.take t) ++ (osg 83 l[t].1 (l[t].2.flatMap encOp) ++ thG (l.drop (t + 1))) := by
 have e : l = l.take t ++ ([l[t]] ++ l.drop (t + 1)) := by rw [List.singleton_append, List.getElem_cons_drop, List.take_append_drop]
 conv => lhs; rw [e]
 rw [thG_app, thG_app, thG_one]
theorem thG_set2 {l : Ths} {t : Nat} (h : t < l.length) (x : Vec × List OpV) : thG (l.set t x) = thG (l.take t) ++ (osg 83 x.1 (x.2.flatMap encOp) ++ thG (l.drop (t + 1))) := by
 rw [List.set_eq_take_append_cons_drop, if_pos h]
 have e : l.take t ++ x :: l.drop (t + 1) = l.take t ++ ([x] ++ l.drop (t + 1)) := rfl
 rw [e, thG_app, thG_app, thG_one]
theorem thV_set2 {l : Ths} {t : Nat} (h : t < l.length) (x : Vec × List OpV) (h1 : x.1 = l[t].1) (h2 : x.2.length = l[t].2.length) : thV (l.set t x) = thV l := by
 unfold thV
 rw [List.map_set, h1, h2]
 have : osv l[t].1 l[t].2.length = (l.map fun x : Vec × List OpV => osv x.1 x.2.length)[t]'(by rw [List.length_map]; exact h) := by rw [List.getElem_map]
 rw [this, List.set_getElem_self]

section
variable {M : PHeap}

theorem one_sl {N : PHeap} {G : Own} {b1 b2 : Nat} {T1 T2 : TypeId} {o : OpV} [h1 : At G b1 T1 [.slice (some ⟨b2, 0, none⟩) 1 1]] [h2 : At G b2 T2 (encOp o)] : SlSl (N.add G) 5 encOp (.slice (some ⟨b1, 0, none⟩) 1 1) [[o]] := by
 refine ⟨some ⟨b1, 0, none⟩, 1, [.slice (some ⟨b2, 0, none⟩) 1 1], rfl, rfl, .inr ⟨b1, 0, rfl, rd_at h1.mem rfl (by simp)⟩, fun i h3 h4 => ?_⟩
 have : i = 0 := by simp at h3; omega
 subst this
 exact ⟨some ⟨b2, 0, none⟩, 1, rfl, .inr ⟨b2, 0, rfl, rd_at h2.mem rfl (Nat.le_refl _)⟩⟩
theorem sized_one (o : OpV) : Sized [[o]] := ⟨by simp, fun l hl => by simp at hl; subst hl; simp⟩

set_option maxHeartbeats 8000000 in
theorem raised_c (ts : List (List OpV)) (s : Value) (hs : SlSl M 5 encOp s ts) (hb : Sized ts) (hck : checkP ts = 0) (by_ : List Int) (bv : Value) (hbv : Sl M 1 ei bv by_) :
  Con Tryz.prog 22 #[.agg #[s], bv] M [] fun v M' _ => ∃ s', v = .agg #[s'] ∧ SlSl M' 5 encOp s' (raiT by_ 0 ts) := by
 have hs0 := hs
 have hbv0 := hbv
 have hsm := checkP_small hck
 have hthl : ∀ t ∈ ts, t.length < 1000000 := fun t ht => by
  obtain ⟨i, hi, rfl⟩ := List.getElem_of_mem ht
  have h1 := flat_take hi
  have h2 := flat_take_le ts (i + 1)
  rw [h1, List.length_append] at h2; omega
 obtain ⟨a, c, vs, rfl, hl, hrd, hk⟩ := hs
 obtain ⟨ba, bc, rfl, hbr⟩ := hbv
 refine Con.enter Q58_ok (args := [.agg #[.slice a ts.length c], .slice ba by_.length bc]) (by simp [Q58]) fun w0 => ?_
 simp only [Q58, argE]
 repeat' first
   | refine EV.seq ?_
   | (refine EV.reg ?_; (conv => (arg 2; whnf)); (refine nx ?_; try with_reducible exact ⟨⟩))
   | ((first | with_reducible intro b | refine xrA rfl ?_ | fail); try (refine nx ?_; try with_reducible exact ⟨⟩))
   | fail
 rename_i pb
 obtain ⟨rb, rfl⟩ : ∃ x, x = b := ⟨_, rfl⟩
 refine Con.callS (G1 := []) (ref_OwnO_c ts _ hs0 hb (by omega) hthl) ?_
 rintro v M3 G3 hM3 ⟨rfl, ov, l, rfl, hov, hok, hlt, R, rfl⟩
 have hll : l.length = ts.length := by rw [← hlt, List.length_map]
 simp only [wpS, wpA, wpQL, push_cast, Int.cast_ofNat_Int, reduceIte, Nat.reduceEqDiff, reduceCtorEq, Nat.reduceAdd, Nat.reduceSub, Nat.reduceMul, Int.reduceToNat, Nat.reduceLeDiff]
 repeat' first
   | refine EV.seq ?_
   | refine EV.block ?_
   | (refine EV.reg ?_; (conv => (arg 2; whnf)); (refine nx ?_; try with_reducible exact ⟨⟩))
   | (with_reducible intro b; try (refine nx ?_; try with_reducible exact ⟨⟩))
   | (refine xw ?_; (refine nx ?_; try with_reducible exact ⟨⟩))
   | fail
 obtain ⟨qb, rfl⟩ : ∃ x, x = b := ⟨_, rfl⟩
 rcases ov with _ | ⟨ob, ocp, osp⟩
 ·exfalso
  have := hov.1
  obtain ⟨_, hn, _⟩ := checkP_zero hck
  omega
 have hlt0 := hlt
 have hkk : ∀ t, (ts.take t).flatten.length ≤ 14 := fun t => by have := flat_take_le ts t; omega
 refine EV.reS (G' := (qb, Cl 24 [osv (some (ob, ocp, osp)) l.length]) :: (rb, Cl 24 [.slice none 0 0]) :: (osg 70 (some (ob, ocp, osp)) (thV l) ++ thG l)) ?_
 have hhov : osok 1 (some (ob, ocp, osp)) l.length (thV l) := hov
 refine EV.loopTo (fun x : Nat × PHeap × Ths => ([(1, .slice ba by_.length bc), (4, pv rb 0), (5, pv qb 0), (6, vi (ts.take x.1).flatten.length), (7, vi x.1)], x.2.1, (qb, Cl 24 [.slice (some ⟨ob, 0, none⟩) ts.length ocp]) :: (rb, Cl 24 [.slice none 0 0]) :: (ob, Cl 70 (thV x.2.2 ++ osp)) :: thG x.2.2))
  (fun x => x.1 ≤ ts.length ∧ M3.le x.2.1 ∧ thV x.2.2 = thV l ∧ thOk x.2.2 ∧ x.2.2.map (·.2) = (raiT by_ 0 ts).take x.1 ++ ts.drop x.1) (fun x => ts.length - x.1) (0, M3, l) rfl ⟨Nat.zero_le _, PHeap.le_refl _, rfl, hok, by rw [hlt0]; rfl⟩ ?env1 (by rw [hll]; exact List.Sublist.refl _) ?_
 case env1 =>
  repeat' first
   | (refine List.forall_mem_cons.2 (And.intro ?_ ?_))
   | (intro _ hnil; cases hnil; done)
   | rfl
   | fail
 rintro ⟨t, Mt, lt⟩ ⟨ht, hMt, hV, hoks, hmp⟩ ih
 dsimp only at ht hMt hV hoks hmp ih ⊢
 have hltl : lt.length = ts.length := by
  have := congrArg List.length hmp
  simp only [List.length_map, List.length_append, List.length_take, List.length_drop, raiT_len] at this; omega
 repeat' first
   | refine EV.seq ?_
   | refine EV.skip ?_
   | refine EV.block ?_
   | (refine EV.reg ?_; (conv => (arg 2; whnf)); (refine nx ?_; try with_reducible exact ⟨⟩))
   | (refine EV.condX rfl (fun h => ?_) (fun h => ?_) <;> try exact dead h)
   | (refine EV.exit rfl ?_)
   | ((first | refine xrA rfl ?_ | refine xsA rfl ?_ | fail); try (refine nx ?_; try with_reducible exact ⟨⟩))
   | (refine xw ?_; (refine nx ?_; try with_reducible exact ⟨⟩))
   | fail
 ·have ht' : t < ts.length := by omega
  have ht2 : t < lt.length := by omega
  obtain ⟨o, hx⟩ : ∃ o, lt[t] = (o, ts[t]) := by
   have h1 : (lt.map (·.2))[t]? = some ts[t] := by
    rw [hmp, List.getElem?_append_right (by rw [List.length_take, raiT_len]; omega), List.getElem?_drop]
    have e : t + (t - ((raiT by_ 0 ts).take t).length) = t := by rw [List.length_take, raiT_len]; omega
    rw [e, List.getElem?_eq_getElem ht']
   rw [List.getElem?_map, List.getElem?_eq_getElem ht2] at h1
   simp only [Option.map_some, Option.some.injEq] at h1
   exact ⟨lt[t].1, by rw [← h1]⟩
  have hokt : osok 5 o ts[t].length (ts[t].flatMap encOp) := by have := hoks _ (List.getElem_mem ht2); rw [hx] at this; exact this
  have hrow : ∀ (N : PHeap) (G : Own) [At G ob 70 (thV lt ++ osp)], rd (N.add G) ob t 1 [.slice (oad o) ts[t].length (ocap o)] := fun N G _ => by
   have := rd_thW (M := N) (G := G) (b := ob) (T := 70) (sp := osp) (l := lt) ht2
   rw [hx] at this; exact this
  have htl := hthl _ (List.getElem_mem ht')
  have hsp := thG_split2 ht2
  rw [hx] at hsp
  have hkt := hkk t
  have hkt1 := hkk (t + 1)
  have hktl : (ts.take (t + 1)).flatten.length = (ts.take t).flatten.length + ts[t].length := by rw [List.take_succ_eq_append_getElem ht', List.flatten_append]; simp
  obtain ⟨K, hK⟩ : ∃ K, K = (ts.take t).flatten.length := ⟨_, rfl⟩
  rw [← hK] at hkt hktl ⊢
  refine EV.permG ?_ (show List.Perm _ ((qb, Cl 24 [.slice (some ⟨ob, 0, none⟩) ts.length ocp]) :: (rb, Cl 24 [.slice none 0 0]) :: (ob, Cl 70 (thV lt ++ osp)) :: (osg 83 o ((raiI by_ K ts[t] 0).flatMap encOp) ++ (thG (lt.take t) ++ thG (lt.drop (t + 1))))) from by
   rw [hsp]
   refine List.Perm.cons _ (List.Perm.cons _ (List.Perm.cons _ ?_))
   show List.Perm (thG (lt.take t) ++ (osg _ o (ts[t].flatMap encOp) ++ thG (lt.drop (t + 1)))) _
   rw [← List.append_assoc, ← List.append_assoc]
   exact List.Perm.append_right _ List.perm_append_comm)
  refine EV.loopTo (fun x : Nat × PHeap => ([(1, .slice ba by_.length bc), (4, pv rb 0), (5, pv qb 0), (6, vi ((K + x.1 : Nat) : Int)), (7, vi t), (8, vi x.1)], x.2, (qb, Cl 24 [.slice (some ⟨ob, 0, none⟩) ts.length ocp]) :: (rb, Cl 24 [.slice none 0 0]) :: (ob, Cl 70 (thV lt ++ osp)) :: (osg 83 o ((raiI by_ K ts[t] x.1).flatMap encOp) ++ (thG (lt.take t) ++ thG (lt.drop (t + 1))))))
   (fun x => x.1 ≤ ts[t].length ∧ Mt.le x.2) (fun x => ts[t].length - x.1) (0, Mt) rfl ⟨Nat.zero_le _, PHeap.le_refl _⟩ ?env2 (List.Sublist.refl _) ?_
  case env2 =>
   repeat' first
    | (refine List.forall_mem_cons.2 (And.intro ?_ ?_))
    | (intro _ hnil; cases hnil; done)
    | rfl
    | fail
  rintro ⟨i, Mi⟩ ⟨hi, hMi⟩ ih2
  dsimp only at hi hMi ih2 ⊢
  by_cases hit : i < ts[t].length
  ·have k1 : ((i : Int) < (ts[t].length : Int)) = True := eq_true (by omega)
   rcases o with _ | ⟨tb, tc, tsp⟩
   ·exfalso; have := hokt.1; omega
   have hri : i < (raiI by_ K ts[t] i).length := by rw [raiI_len]; exact hit
   have hX : ∀ (N : PHeap) (G : Own) [At G tb 83 ((raiI by_ K ts[t] i).flatMap encOp ++ tsp)], rd (N.add G) tb (i * 5) 5 (encOp ts[t][i]) := fun N G _ => by
    have := rd_opY (M := N) (G := G) (b := tb) (T := 83) (sp := tsp) hri
    rw [raiI_at hit] at this; exact this
   have hset := raiI_succ (by_ := by_) (k := K) hit
   obtain ⟨q, hq⟩ : ∃ q, q = K + i := ⟨_, rfl⟩
   have hw1 : IntKind.i64.wrap ((q : Int) + 1) = ((K + (i + 1) : Nat) : Int) := by rw [w64 (by omega) (by omega)]; omega
   simp only [osg, oad_some, ocap_some, List.cons_append, List.nil_append] at hrow ih2 ⊢
   rw [← hq] at hset ⊢
   obtain ⟨op, hop⟩ : ∃ op, op = ts[t][i] := ⟨_, rfl⟩
   rw [← hop] at hX hset
   by_cases hkb : q < by_.length
   ·have k2 : ((q : Int) < (by_.length : Int)) = True := eq_true (by omega)
    rw [if_pos hkb, List.getElem?_eq_getElem hkb, Option.getD_some] at hset
    obtain ⟨bb, bo, rfl, hbat⟩ := Sl.at (sz := 1) (enc := ei) (fun _ => rfl) (by decide) hbr (by omega)
    have hbq := ((hbat q hkb).mono hMt).mono hMi
    rw [Nat.mul_one] at hbq
    obtain ⟨x, hxx⟩ : ∃ x, x = rOrd by_[q] := ⟨_, rfl⟩
    have e5 : IntKind.i64.wrap ((IntKind.u64.wrap by_[q]).tmod 5) = x := hxx.symm
    repeat' first
      | refine EV.seq ?_
      | refine EV.skip ?_
      | refine EV.block ?_
      | (refine EV.reg ?_; (conv => (arg 2; whnf)); simp only [wpS, wpA, wpQL, push_cast, Int.cast_ofNat_Int, reduceIte, Nat.reduceEqDiff, reduceCtorEq, Nat.reduceAdd, Nat.reduceSub, Nat.reduceMul, Int.reduceToNat, Nat.reduceLeDiff, k1, k2, e5, show ¬ (5 : Int) = 0 by decide])
      | ((first | refine Exists.intro _ (And.intro (hX _ _) ?_) | refine Exists.intro _ (Exists.intro _ (Exists.intro _ (And.intro (hrow _ _) ?_))) | fail); try simp only [wpS, wpA, wpQL, push_cast, Int.cast_ofNat_Int, reduceIte, Nat.reduceEqDiff, reduceCtorEq, Nat.reduceAdd, Nat.reduceSub, Nat.reduceMul, Int.reduceToNat, Nat.reduceLeDiff, k1, k2, e5, show ¬ (5 : Int) = 0 by decide])
      | (refine EV.condX rfl (fun h => ?_) (fun h => ?_) <;> try exact dead h)
      | (with_reducible intro b; try simp only [wpS, wpA, wpQL, push_cast, Int.cast_ofNat_Int, reduceIte, Nat.reduceEqDiff, reduceCtorEq, Nat.reduceAdd, Nat.reduceSub, Nat.reduceMul, Int.reduceToNat, Nat.reduceLeDiff, k1, k2, e5, show ¬ (5 : Int) = 0 by decide])
      | (refine And.intro (by omega) ?_)
      | ((first | refine Exists.intro _ (And.intro (rd_M (by assumption)) ?_) | refine xrA rfl ?_ | refine xsA rfl ?_ | fail); try simp only [wpS, wpA, wpQL, push_cast, Int.cast_ofNat_Int, reduceIte, Nat.reduceEqDiff, reduceCtorEq, Nat.reduceAdd, Nat.reduceSub, Nat.reduceMul, Int.reduceToNat, Nat.reduceLeDiff, k1, k2, e5, show ¬ (5 : Int) = 0 by decide])
      | (refine xw ?_; simp only [wpS, wpA, wpQL, push_cast, Int.cast_ofNat_Int, reduceIte, Nat.reduceEqDiff, reduceCtorEq, Nat.reduceAdd, Nat.reduceSub, Nat.reduceMul, Int.reduceToNat, Nat.reduceLeDiff, k1, k2, e5, show ¬ (5 : Int) = 0 by decide])
      | fail
    refine ConQ.call (litmus_AtLeast_q [[{ op with ord := x }]] [[op]] _ _ one_sl one_sl (sized_one _) (sized_one _)) ?_
    have hrai : raiO by_[q] op = if (decide (checkP [[{ op with ord := x }]] = 0) && (decide (checkP [[op]] = 0) && atlP [[{ op with ord := x }]] [[op]])) = true then { op with ord := x } else op := by rw [hxx]; rfl
    obtain ⟨on, hon⟩ : ∃ on : OpV, on = { op with ord := x } := ⟨_, rfl⟩
    have hencn : encOp on = [vi op.kind, vi op.loc, vi op.v, vi op.w, vi x] := by rw [hon]
    rw [show ({ kind := op.kind, loc := op.loc, v := op.v, w := op.w, ord := x } : OpV) = on from hon.symm] at hrai ⊢
    obtain ⟨er, her⟩ : ∃ er, er = (if checkP [[on]] ≠ 0 then checkP [[on]] else checkP [[op]]) := ⟨_, rfl⟩
    rw [← her]
    cases hc : (decide (checkP [[on]] = 0) && (decide (checkP [[op]] = 0) && atlP [[on]] [[op]])) with
    | true =>
     rw [hc, if_pos rfl] at hrai
     simp only [Bool.and_eq_true, decide_eq_true_eq] at hc
     have her0 : er = 0 := by rw [her, hc.1]; simpa using hc.2.1
     rw [hrai] at hset
     simp only [wpS, wpA, wpQL, push_cast, Int.cast_ofNat_Int, reduceIte, Nat.reduceEqDiff, reduceCtorEq, Nat.reduceAdd, Nat.reduceSub, Nat.reduceMul, Int.reduceToNat, Nat.reduceLeDiff, her0]
     repeat' first
       | refine EV.seq ?_
       | (refine EV.reg ?_; (conv => (arg 2; whnf)); (refine nx ?_; try with_reducible exact ⟨⟩))
       | with_reducible assumption
       | (refine condW.merge ?_ (fun hc K' hK => ?_) ?_; rotate_left)
       | (refine EV.condX rfl (fun h => ?_) (fun h => ?_) <;> try exact dead h)
       | fail
     have hput := ops_put tsp on (raiI by_ K ts[t] i) i hri
     rw [← hset, hencn] at hput
     refine EV.any (t := Q58_14) _ (List.Sublist.refl _) ?_
     simp only [norm_cons, norm_nil, get_cons, get_nil, reduceIte, Nat.reduceEqDiff]
     repeat' first
       | ((first | refine wQ_op (by first | with_reducible assumption | rfl) (fun lq hlq => ?_) | refine wQ_nil (by first | with_reducible assumption | rfl) ?_ | refine Exists.intro _ (Exists.intro _ (Exists.intro _ (And.intro (hrow _ _) ?_))) | fail); try (refine nz ?_; try with_reducible exact ⟨⟩))
       | (refine wA_sT (by first | with_reducible assumption | rfl) (fun tq htq => ?_) (fun tq htq => ?_) <;> try (refine nz ?_; try with_reducible exact ⟨⟩))
       | exact wA_no (by first | with_reducible assumption | rfl)
       | (refine And.intro (by omega) ?_)
       | ((first | refine xrA rfl ?_ | refine xsA rfl ?_ | refine xw ?_ | fail); try (refine nz ?_; try with_reducible exact ⟨⟩))
       | fail
     refine ⟨by rw [List.length_append, ops_cells, raiI_len]; omega, ?_⟩
     simp only [List.cons_append, List.nil_append] at hput
     rw [hput]
     repeat' first
       | (refine wQ_nil (by first | with_reducible assumption | rfl) ?_; try (refine nz ?_; try with_reducible exact ⟨⟩))
       | refine wA_q (by first | with_reducible assumption | rfl) (fun lq tq hlq htq => ?_)
       | refine wA_fin (by first | with_reducible assumption | rfl) ?_
       | fail
     have ih3 := ih2 (i + 1, Mi) ⟨by dsimp only; omega, hMi⟩ (by dsimp only; omega)
     dsimp only at ih3
     repeat' first
       | refine EV.inBlock ?_
       | (refine EV.reg ?_; (conv => (arg 2; whnf)); (refine nx ?_; try with_reducible exact ⟨⟩))
       | fail
     refine EV.toS ih3 ?_
     repeat' first
      | (refine List.forall_mem_cons.2 (And.intro ?_ ?_))
      | (intro _ hnil; cases hnil; done)
      | rfl
      | (refine env_w64 rfl (by first | rfl | (push_cast; first | rfl | omega)) (by omega) (by omega); done)
      | fail
    | false =>
     rw [hc, if_neg (by decide)] at hrai
     have hsame : raiI by_ K ts[t] (i + 1) = raiI by_ K ts[t] i := by
      have e1 : op = (raiI by_ K ts[t] i)[i] := by rw [hop]; exact (raiI_at hit).symm
      rw [hset, hrai, e1, List.set_getElem_self]
     simp only [wpS, wpA, wpQL, push_cast, Int.cast_ofNat_Int, reduceIte, Nat.reduceEqDiff, reduceCtorEq, Nat.reduceAdd, Nat.reduceSub, Nat.reduceMul, Int.reduceToNat, Nat.reduceLeDiff]
     repeat' first
       | refine EV.seq ?_
       | refine EV.skip ?_
       | refine EV.inBlock ?_
       | (refine EV.reg ?_; (conv => (arg 2; whnf)); (refine nx ?_; try with_reducible exact ⟨⟩))
       | with_reducible assumption
       | (refine condW.merge ?_ (fun hc K' hK => ?_) ?_; rotate_left)
       | (refine EV.condX rfl (fun h => ?_) (fun h => ?_) <;> try exact dead h)
       | fail
     have ih3 := ih2 (i + 1, Mi) ⟨by dsimp only; omega, hMi⟩ (by dsimp only; omega)
     dsimp only at ih3
     rw [hsame] at ih3
     refine EV.toS ih3 ?_
     repeat' first
      | (refine List.forall_mem_cons.2 (And.intro ?_ ?_))
      | (intro _ hnil; cases hnil; done)
      | rfl
      | (refine env_w64 rfl (by first | rfl | (push_cast; first | rfl | omega)) (by omega) (by omega); done)
      | fail
   ·have k2 : ((q : Int) < (by_.length : Int)) = False := eq_false (by omega)
    rw [if_neg hkb] at hset
    have hsame : raiI by_ K ts[t] (i + 1) = raiI by_ K ts[t] i := by
     have e1 : op = (raiI by_ K ts[t] i)[i] := by rw [hop]; exact (raiI_at hit).symm
     rw [hset, e1, List.set_getElem_self]
    repeat' first
      | refine EV.seq ?_
      | refine EV.skip ?_
      | refine EV.block ?_
      | refine EV.inBlock ?_
      | (refine EV.reg ?_; (conv => (arg 2; whnf)); simp only [wpS, wpA, wpQL, push_cast, Int.cast_ofNat_Int, reduceIte, Nat.reduceEqDiff, reduceCtorEq, Nat.reduceAdd, Nat.reduceSub, Nat.reduceMul, Int.reduceToNat, Nat.reduceLeDiff, k1, k2])
      | (refine Exists.intro _ (Exists.intro _ (Exists.intro _ (And.intro (hrow _ _) ?_))); try simp only [wpS, wpA, wpQL, push_cast, Int.cast_ofNat_Int, reduceIte, Nat.reduceEqDiff, reduceCtorEq, Nat.reduceAdd, Nat.reduceSub, Nat.reduceMul, Int.reduceToNat, Nat.reduceLeDiff, k1, k2])
      | (refine EV.condX rfl (fun h => ?_) (fun h => ?_) <;> try exact dead h)
      | (refine And.intro (by omega) ?_)
      | (refine xsA rfl ?_; try simp only [wpS, wpA, wpQL, push_cast, Int.cast_ofNat_Int, reduceIte, Nat.reduceEqDiff, reduceCtorEq, Nat.reduceAdd, Nat.reduceSub, Nat.reduceMul, Int.reduceToNat, Nat.reduceLeDiff, k1, k2])
      | fail
    have ih3 := ih2 (i + 1, Mi) ⟨by dsimp only; omega, hMi⟩ (by dsimp only; omega)
    dsimp only at ih3
    rw [hsame] at ih3
    refine EV.toS ih3 ?_
    repeat' first
     | (refine List.forall_mem_cons.2 (And.intro ?_ ?_))
     | (intro _ hnil; cases hnil; done)
     | rfl
     | (refine env_w64 rfl (by first | rfl | (push_cast; first | rfl | omega)) (by omega) (by omega); done)
     | fail
  ·have k1 : ((i : Int) < (ts[t].length : Int)) = False := eq_false (by omega)
   have hie : i = ts[t].length := by omega
   have hw1 : IntKind.i64.wrap ((t : Int) + 1) = ((t + 1 : Nat) : Int) := by rw [w64 (by omega) (by omega)]; omega
   repeat' first
     | refine EV.seq ?_
     | refine EV.inBlock ?_
     | (refine EV.reg ?_; (conv => (arg 2; whnf)); simp only [wpS, wpA, wpQL, push_cast, Int.cast_ofNat_Int, reduceIte, Nat.reduceEqDiff, reduceCtorEq, Nat.reduceAdd, Nat.reduceSub, Nat.reduceMul, Int.reduceToNat, Nat.reduceLeDiff, k1])
     | (refine Exists.intro _ (Exists.intro _ (Exists.intro _ (And.intro (hrow _ _) ?_))); try simp only [wpS, wpA, wpQL, push_cast, Int.cast_ofNat_Int, reduceIte, Nat.reduceEqDiff, reduceCtorEq, Nat.reduceAdd, Nat.reduceSub, Nat.reduceMul, Int.reduceToNat, Nat.reduceLeDiff, k1])
     | (refine EV.condX rfl (fun h => ?_) (fun h => ?_) <;> try exact dead h)
     | (refine EV.exit rfl ?_)
     | (refine And.intro (by omega) ?_)
     | (refine xsA rfl ?_; try simp only [wpS, wpA, wpQL, push_cast, Int.cast_ofNat_Int, reduceIte, Nat.reduceEqDiff, reduceCtorEq, Nat.reduceAdd, Nat.reduceSub, Nat.reduceMul, Int.reduceToNat, Nat.reduceLeDiff, k1])
     | fail
   subst hie
   have hend : raiI by_ K ts[t] ts[t].length = raiL by_ K ts[t] := by simp [raiI, List.take_of_length_le (Nat.le_of_eq (raiL_len by_ K ts[t]))]
   have hx1 : (lt[t]).1 = o := by rw [hx]
   have hx2 : (lt[t]).2 = ts[t] := by rw [hx]
   have hsetV : thV (lt.set t (o, raiL by_ K ts[t])) = thV lt := thV_set2 ht2 _ hx1.symm (by rw [hx2, raiL_len])
   have hsetG := thG_set2 ht2 (o, raiL by_ K ts[t])
   have ih3 := ih (t + 1, Mi, lt.set t (o, raiL by_ K ts[t])) ⟨by dsimp only; omega, PHeap.le_trans hMt hMi, by dsimp only; rw [hsetV]; exact hV, fun x hxm => ?_, ?_⟩ (by dsimp only; omega)
   ·dsimp only at ih3
    rw [hsetV, hsetG, ← hend, hktl] at ih3
    refine EV.toS ih3 ?_
    repeat' first
     | (refine List.forall_mem_cons.2 (And.intro ?_ ?_))
     | (intro _ hnil; cases hnil; done)
     | rfl
     | (refine env_w64 rfl (by first | rfl | (push_cast; first | rfl | omega)) (by omega) (by omega); done)
     | fail
   ·rcases List.mem_or_eq_of_mem_set hxm with h1 | rfl
    ·exact hoks x h1
    ·dsimp only
     have h2 := ops_cells (raiL by_ K ts[t])
     have h3 := ops_cells ts[t]
     rw [raiL_len] at h2 ⊢
     cases o with
     | none =>
      obtain ⟨g1, g2⟩ := hokt
      refine ⟨g1, List.length_eq_zero_iff.1 (by omega)⟩
     | some q =>
      obtain ⟨q1, q2, q3⟩ := q
      obtain ⟨g1, g2, g3, g4⟩ := hokt
      refine ⟨h2, ?_, g3, g4⟩
      rw [List.length_append] at g2 ⊢; omega
   ·dsimp only
    rw [List.map_set, hmp, List.set_append_right _ _ (by rw [List.length_take, raiT_len]; omega), raiT_take _ _ _ _ ht', List.append_assoc, Nat.zero_add, ← hK]
    congr 1
    have e0 : t - ((raiT by_ 0 ts).take t).length = 0 := by rw [List.length_take, raiT_len]; omega
    rw [e0, List.drop_eq_getElem_cons ht', List.set_cons_zero]; rfl
 ·have hte : t = ts.length := by omega
  subst hte
  rw [List.drop_length, List.append_nil, List.take_of_length_le (by rw [raiT_len]; omega)] at hmp
  refine EV.keepS [(rb, Cl 24 [.slice (some ⟨ob, 0, none⟩) ts.length ocp])] ?_
  generalize hR : Mt.add _ = N
  have hsq : SlSl N 5 encOp (.slice (some ⟨ob, 0, none⟩) ts.length ocp) (raiT by_ 0 ts) := by
   have := th_sl (M := Mt) (G := (qb, Cl 24 [.slice (some ⟨ob, 0, none⟩) ts.length ocp]) :: (ob, Cl 70 (thV lt ++ osp)) :: thG lt) (ov := some (ob, ocp, osp)) (l := lt) (by rw [hltl, hV, ← hll]; exact hhov) hoks (fun q hq => by simp only [osg, List.mem_singleton] at hq; rw [hq]; exact List.mem_cons_of_mem _ (List.mem_cons_self ..)) (fun q hq => List.mem_cons_of_mem _ (List.mem_cons_of_mem _ hq))
   rw [hR, hltl, hmp] at this
   exact this
  clear hR
  refine EV.ret Q58_ok ?_
  simp only [wpS, wpA, wpQL, push_cast, Int.cast_ofNat_Int, reduceIte, Nat.reduceEqDiff, reduceCtorEq, Nat.reduceAdd, Nat.reduceSub, Nat.reduceMul, Int.reduceToNat, Nat.reduceLeDiff, Q58]
  exact ⟨_, rd_own' 0 rfl rfl (by simp), _, rfl, hsq⟩

end
end Go.EV

namespace Go.EV
open Go.Proofs

/-! ### One ahead of another in a list -/
theorem bef_of_idx {α : Type} : ∀ (l : List α) (i j : Nat) (hij : i < j) (hj : j < l.length), List.Sublist [l[i]'(by omega), l[j]] l
 | x :: l, 0, j + 1, _, hj => by
  simp only [List.getElem_cons_zero, List.getElem_cons_succ]
  exact List.Sublist.cons_cons _ (List.singleton_sublist.2 (List.getElem_mem _))
 | x :: l, i + 1, j + 1, hij, hj => by
  simp only [List.getElem_cons_succ]
  exact List.Sublist.cons _ (bef_of_idx l i j (by omega) (by simpa using hj))
theorem idx_of_bef {α : Type} {a b : α} : ∀ {l : List α}, List.Sublist [a, b] l → ∃ (i j : Nat) (hij : i < j) (hj : j < l.length), l[i]'(by omega) = a ∧ l[j] = b
 | [], h => by cases h
 | x :: l, h => by
  cases h with
  | cons _ h =>
   obtain ⟨i, j, hij, hj, h1, h2⟩ := idx_of_bef h
   exact ⟨i + 1, j + 1, by omega, by simpa using hj, by simpa using h1, by simpa using h2⟩
  | cons_cons _ h =>
   have hb : b ∈ l := List.singleton_sublist.1 h
   obtain ⟨j, hj, rfl⟩ := List.getElem_of_mem hb
   exact ⟨0, j + 1, by omega, by simpa using hj, by simp, by simp⟩

theorem fo_of_bef {p : List Ev} {e : Exec} {a b : Nat} (hpos : ∀ x ∈ e.fen, 0 ≤ x) (h : List.Sublist [(a : Int), (b : Int)] e.fen) : TG (Fo1 e.fen) a b := by
 obtain ⟨i, j, hij, hj, h1, h2⟩ := idx_of_bef h
 have key : ∀ (d j a b : Nat), j + d + 1 < e.fen.length → numAt e.fen j = a → numAt e.fen (j + d + 1) = b → TG (Fo1 e.fen) a b := by
  intro d
  induction d with
  | zero => intro j a b h ha hb; exact .one ⟨j, h, ha, hb⟩
  | succ d ih =>
   intro j a b h ha hb
   have h1 : 0 ≤ numAt e.fen (j + d + 1) := hpos _ (mem_numAt.2 ⟨j + d + 1, by omega, rfl⟩)
   obtain ⟨c, hc⟩ : ∃ c : Nat, numAt e.fen (j + d + 1) = c := ⟨(numAt e.fen (j + d + 1)).toNat, by omega⟩
   exact (ih j a c (by omega) ha hc).trans (.one ⟨j + d + 1, by omega, hc, by rw [← hb]; congr 1⟩)
 refine key (j - i - 1) i a b (by omega) (by rw [numAt_eq (by omega)]; exact h1) (by rw [show i + (j - i - 1) + 1 = j by omega, numAt_eq hj]; exact h2)

theorem perm_of_mem {l m : List Int} (hl : l.Nodup) (hm : m.Nodup) (h : ∀ x, x ∈ l ↔ x ∈ m) : l.Perm m := (List.perm_ext_iff_of_nodup hl hm).2 h

/-! ### A program seen in another one -/
/-- ι: the events of p among those of q; j: back again. -/
structure Emb (p q : List Ev) (ι j : Nat → Nat) (σ : Int → Int) : Prop where
 lt : ∀ a, a < p.length → ι a < q.length
 inv : ∀ a, a < p.length → j (ι a) = a
 back : ∀ b, b < q.length → (evAt q b).op.kind ≠ 5 → j b < p.length ∧ ι (j b) = b
 sb : ∀ a b, a < b → b < p.length → (evAt p a).th = (evAt p b).th → ι a < ι b ∧ (evAt q (ι a)).th = (evAt q (ι b)).th
 kind : ∀ a, a < p.length → (evAt q (ι a)).op.kind = (evAt p a).op.kind
 v : ∀ a, a < p.length → (evAt q (ι a)).op.v = (evAt p a).op.v
 w : ∀ a, a < p.length → (evAt q (ι a)).op.w = (evAt p a).op.w
 loc : ∀ a, a < p.length → (evAt p a).op.kind ≠ 5 → (evAt q (ι a)).op.loc = σ (evAt p a).op.loc
 rel : ∀ a, a < p.length → (evAt p a).rel = true → (evAt q (ι a)).rel = true
 acq : ∀ a, a < p.length → (evAt p a).acq = true → (evAt q (ι a)).acq = true
 strong : ∀ a, a < p.length → (evAt p a).strong = true → (evAt q (ι a)).strong = true
 σ3 : ∀ k, 0 ≤ k → k < 3 → 0 ≤ σ k ∧ σ k < 3
 σi : ∀ k k', 0 ≤ k → k < 3 → 0 ≤ k' → k' < 3 → σ k = σ k' → k = k'

def bk (j : Nat → Nat) (x : Int) : Int := if 0 ≤ x then ((j x.toNat : Nat) : Int) else x
theorem bk_nat (j : Nat → Nat) (b : Nat) : bk j b = (j b : Nat) := by simp [bk]
theorem bk_neg (j : Nat → Nat) {x : Int} (h : x < 0) : bk j x = x := by rw [bk, if_neg (by omega)]

/-- An execution of q, seen in p. -/
def pullE (p : List Ev) (ι j : Nat → Nat) (σ : Int → Int) (e : Exec) : Exec where
 frm := (List.range p.length).map fun i => bk j (frmAt e (ι i))
 dn := (List.range p.length).map fun i => dnAt e.dn (ι i)
 ord := [0, 1, 2].map fun k : Int => (e.ord[(σ k).toNat]?.getD []).map fun x => ((j x.toNat : Nat) : Int)
 fen := (e.fen.filter fun x => decide (ι (j x.toNat) = x.toNat) && decide (j x.toNat < p.length) && (evAt p (j x.toNat)).strong).map fun x => ((j x.toNat : Nat) : Int)

theorem mem_fencesI {p : List Ev} {x : Int} : x ∈ fencesI p ↔ ∃ i : Nat, x = i ∧ i < p.length ∧ (evAt p i).strong = true := by
 rw [fencesI, mem_pickI]
 constructor
 ·rintro ⟨i, h1, h2, h3⟩; exact ⟨i, h3, h1, h2⟩
 ·rintro ⟨i, h3, h1, h2⟩; exact ⟨i, h1, h2, h3⟩

section
variable {p q : List Ev} {ι j : Nat → Nat} {σ : Int → Int} {e : Exec}

theorem pull_frm {i : Nat} (hi : i < p.length) : frmAt (pullE p ι j σ e) i = bk j (frmAt e (ι i)) := by
 simp [frmAt, pullE, hi]
theorem pull_dn {i : Nat} (hi : i < p.length) : dnAt (pullE p ι j σ e).dn i = dnAt e.dn (ι i) := by
 simp [dnAt, pullE, hi]
theorem pull_ord {k : Nat} (hk : k < 3) : (pullE p ι j σ e).ord[k]?.getD [] = (e.ord[(σ k).toNat]?.getD []).map fun x => ((j x.toNat : Nat) : Int) := by
 have : k = 0 ∨ k = 1 ∨ k = 2 := by omega
 rcases this with rfl | rfl | rfl <;> rfl
theorem numAt_map {f : Int → Int} {l : List Int} {i : Nat} (hi : i < l.length) : numAt (l.map f) i = f (numAt l i) := by
 simp [numAt, hi]

section
variable (H : Emb p q ι j σ) (hp : POk p) (hq : POk q) (hmq : Mono q) (hs : Shape q e)
include H hs

theorem pull_src {i : Nat} (hi : i < p.length) : ((evAt p i).reads = false → frmAt e (ι i) = -2) ∧ ((evAt p i).reads = true → frmAt e (ι i) = -1 ∨ ∃ w : Nat, w < p.length ∧ frmAt e (ι i) = (ι w : Nat) ∧ j (ι w) = w ∧ dnAt e.dn (ι w) = true ∧ (evAt q (ι w)).op.loc = (evAt q (ι i)).op.loc ∧ 1 ≤ (evAt p w).op.kind ∧ (evAt p w).op.kind ≤ 4) := by
 have hr : (evAt q (ι i)).reads = (evAt p i).reads := by simp only [Ev.reads, H.kind i hi]
 constructor
 ·intro h; exact hs.out _ (H.lt i hi) (hr.trans h)
 ·intro h
  rcases hs.src _ (H.lt i hi) (hr.trans h) with h1 | ⟨b, h1, h2, h3, h4⟩
  ·exact .inl h1
  ·have hk := hs.dn0 b h2 h3
   obtain ⟨q1, q2⟩ := H.back b h2 (by omega)
   refine .inr ⟨j b, q1, ?_, ?_, ?_, ?_, ?_⟩
   ·rw [q2]; exact h1
   ·rw [q2]
   ·rw [q2]; exact h3
   ·rw [q2]; exact h4
   ·have := H.kind _ q1
    rw [q2] at this; omega

/-- Reading, seen below. -/
theorem pull_rf {a i : Nat} (hi : i < p.length) (h : frmAt (pullE p ι j σ e) i = (a : Nat)) : frmAt e (ι i) = (ι a : Nat) ∧ a < p.length ∧ (evAt p i).reads = true := by
 rw [pull_frm hi] at h
 obtain ⟨h1, h2⟩ := pull_src H hs hi
 cases hr : (evAt p i).reads with
 | false => rw [h1 hr, bk_neg _ (by decide)] at h; omega
 | true =>
  rcases h2 hr with h3 | ⟨w, h3, h4, h5, _⟩
  ·rw [h3, bk_neg _ (by decide)] at h; omega
  ·rw [h4, bk_nat, h5] at h
   have : w = a := by omega
   subst this
   exact ⟨h4, h3, rfl⟩

theorem pull_ordm {k : Nat} (hk : k < 3) : ∀ x ∈ e.ord[(σ k).toNat]?.getD [], ∃ a : Nat, a < p.length ∧ x = (ι a : Nat) ∧ j (ι a) = a ∧ dnAt e.dn (ι a) = true ∧ (evAt p a).op.kind ≠ 5 ∧ (evAt q (ι a)).op.loc = σ k := by
 intro x hx
 obtain ⟨s1, s2⟩ := H.σ3 k (by omega) (by omega)
 have := (hs.ord (σ k).toNat (by omega)).mem_iff.1 hx
 obtain ⟨b, h1, h2, h3, h4, h5⟩ := mem_writersI.1 this
 obtain ⟨q1, q2⟩ := H.back b h2 h3
 refine ⟨j b, q1, by rw [q2]; exact h1, by rw [q2], by rw [q2]; exact h4, ?_, by rw [q2]; omega⟩
 have := H.kind _ q1
 rw [q2] at this; omega

include hp in
theorem pull_loc {a i : Nat} (ha : a < p.length) (hi : i < p.length) (k1 : (evAt p a).op.kind ≠ 5) (k2 : (evAt p i).op.kind ≠ 5) (h : (evAt q (ι a)).op.loc = (evAt q (ι i)).op.loc) : (evAt p a).op.loc = (evAt p i).op.loc := by
 rw [H.loc a ha k1, H.loc i hi k2] at h
 have := hp.loc a ha; have := hp.loc i hi
 exact H.σi _ _ (by omega) (by omega) (by omega) (by omega) h

include hp in
theorem pull_shape : Shape p (pullE p ι j σ e) := by
 have hkr : ∀ {i : Nat}, (evAt p i).reads = true → (evAt p i).op.kind ≠ 5 := fun h => by
  simp only [Ev.reads, Bool.and_eq_true, decide_eq_true_eq] at h; exact h.2
 refine ⟨by simp [pullE], by simp [pullE], rfl, fun i hi hk => ?_, fun i hi hd => ?_, fun i hi hr => ?_, fun i hi hr => ?_, fun k hk => ?_, ?_⟩
 ·rw [pull_dn hi]
  exact hs.dn1 _ (H.lt i hi) (by rw [H.kind i hi]; exact hk)
 ·rw [pull_dn hi] at hd
  have := hs.dn0 _ (H.lt i hi) hd
  rw [H.kind i hi] at this; exact this
 ·rw [pull_frm hi, (pull_src H hs hi).1 hr, bk_neg _ (by decide)]
 ·rw [pull_frm hi]
  rcases (pull_src H hs hi).2 hr with h | ⟨w, h1, h2, h3, h4, h5, h6, h7⟩
  ·left; rw [h, bk_neg _ (by decide)]
  ·right
   refine ⟨w, by rw [h2, bk_nat, h3], h1, by rw [pull_dn h1]; exact h4, pull_loc H hp hs h1 hi (by omega) (hkr hr) h5⟩
 ·rw [pull_ord hk]
  have hm := pull_ordm H hs hk
  obtain ⟨s1, s2⟩ := H.σ3 k (by omega) (by omega)
  have hnd : (e.ord[(σ k).toNat]?.getD []).Nodup := ((hs.ord (σ k).toNat (by omega)).nodup_iff).2 (asc_nodup (writers_asc _ _ _))
  refine perm_of_mem ?_ (asc_nodup (writers_asc _ _ _)) fun x => ?_
  ·rw [List.nodup_iff_pairwise_ne, List.pairwise_map]
   refine List.Pairwise.imp_of_mem ?_ (List.nodup_iff_pairwise_ne.1 hnd)
   intro x y hx hy hne he
   obtain ⟨a, _, rfl, ha, _⟩ := hm x hx
   obtain ⟨b, _, rfl, hb, _⟩ := hm y hy
   rw [Int.toNat_natCast, Int.toNat_natCast, ha, hb] at he
   exact hne (by rw [show a = b by omega])
  ·rw [List.mem_map, mem_writersI]
   constructor
   ·rintro ⟨y, hy, rfl⟩
    obtain ⟨a, h1, rfl, h3, h4, h5, h6⟩ := hm y hy
    rw [Int.toNat_natCast, h3]
    refine ⟨a, rfl, h1, h5, by rw [pull_dn h1]; exact h4, ?_⟩
    rw [H.loc a h1 h5] at h6
    have := hp.loc a h1
    exact H.σi _ _ (by omega) (by omega) (by omega) (by omega) h6
   ·rintro ⟨a, rfl, h1, h2, h3, h4⟩
    rw [pull_dn h1] at h3
    refine ⟨(ι a : Nat), ?_, by rw [Int.toNat_natCast, H.inv a h1]⟩
    refine (hs.ord (σ k).toNat (by omega)).mem_iff.2 (mem_writersI.2 ⟨ι a, rfl, H.lt a h1, by rw [H.kind a h1]; exact h2, h3, ?_⟩)
    rw [H.loc a h1 h2, h4]; omega
 ·have hnd : e.fen.Nodup := (hs.fen.nodup_iff).2 (asc_nodup (fences_asc _))
  have hmem : ∀ x ∈ e.fen, ∃ b : Nat, x = b ∧ b < q.length ∧ (evAt q b).strong = true := fun x hx => mem_fencesI.1 (hs.fen.mem_iff.1 hx)
  refine perm_of_mem ?_ (asc_nodup (fences_asc _)) fun x => ?_
  ·show (List.map _ _).Nodup
   rw [List.nodup_iff_pairwise_ne, List.pairwise_map]
   refine List.Pairwise.imp_of_mem ?_ (List.nodup_iff_pairwise_ne.1 (hnd.filter _))
   intro x y hx hy hne he
   obtain ⟨hx1, hx2⟩ := List.mem_filter.1 hx
   obtain ⟨hy1, hy2⟩ := List.mem_filter.1 hy
   obtain ⟨a, rfl, _⟩ := hmem x hx1
   obtain ⟨b, rfl, _⟩ := hmem y hy1
   simp only [Int.toNat_natCast, Bool.and_eq_true, decide_eq_true_eq] at hx2 hy2 he
   have : j a = j b := by omega
   exact hne (by rw [← hx2.1.1, ← hy2.1.1, this])
  ·show x ∈ List.map _ _ ↔ _
   rw [List.mem_map, mem_fencesI]
   constructor
   ·rintro ⟨y, hy, rfl⟩
    obtain ⟨_, hy2⟩ := List.mem_filter.1 hy
    simp only [Bool.and_eq_true, decide_eq_true_eq] at hy2
    exact ⟨_, rfl, hy2.1.2, hy2.2⟩
   ·rintro ⟨a, rfl, h1, h2⟩
    refine ⟨(ι a : Nat), List.mem_filter.2 ⟨hs.fen.mem_iff.2 (mem_fencesI.2 ⟨ι a, rfl, H.lt a h1, H.strong a h1 h2⟩), ?_⟩, by rw [Int.toNat_natCast, H.inv a h1]⟩
    simp only [Int.toNat_natCast, H.inv a h1, Bool.and_eq_true, decide_eq_true_eq]
    exact ⟨⟨trivial, h1⟩, h2⟩

omit hs in
/-- Chains of program order, seen above. -/
theorem pull_sb (hmq : Mono q) {a b : Nat} (h : Sb1 p a b) : TG (Sb1 q) (ι a) (ι b) := by
 obtain ⟨rfl, h1, h2⟩ := h
 obtain ⟨h3, h4⟩ := H.sb a (a + 1) (by omega) h1 h2.symm
 have key : ∀ (d a : Nat), a + d + 1 < q.length → (evAt q a).th = (evAt q (a + d + 1)).th → TG (Sb1 q) a (a + d + 1) := by
  intro d
  induction d with
  | zero => intro a h ht; exact .one ⟨rfl, h, ht.symm⟩
  | succ d ih =>
   intro a h ht
   have h1 := hmq.between (a := a) (b := a + (d + 1) + 1) (x := a + d + 1) h (by omega) (by omega) ht
   exact (ih a (by omega) (by rw [h1]; exact ht)).trans (.one ⟨by omega, h, h1.symm⟩)
 have := key (ι (a + 1) - ι a - 1) (ι a) (by have := H.lt (a + 1) h1; omega) (by rw [show ι a + (ι (a + 1) - ι a - 1) + 1 = ι (a + 1) by omega]; exact h4)
 rwa [show ι a + (ι (a + 1) - ι a - 1) + 1 = ι (a + 1) by omega] at this

theorem pull_fo {a b : Nat} (h : Fo1 (pullE p ι j σ e).fen a b) : TG (Fo1 e.fen) (ι a) (ι b) := by
 obtain ⟨i, hi, h1, h2⟩ := h
 have hmem : ∀ x ∈ e.fen, 0 ≤ x := fun x hx => by
  obtain ⟨b, rfl, _⟩ := mem_fencesI.1 (hs.fen.mem_iff.1 hx); omega
 have hb := bef_of_idx (pullE p ι j σ e).fen i (i + 1) (by omega) hi
 rw [← numAt_eq (by omega), ← numAt_eq hi, h1, h2] at hb
 have hb2 : List.Sublist [(a : Int), (b : Int)] (List.map (fun x : Int => ((j x.toNat : Nat) : Int)) (e.fen.filter fun x => decide (ι (j x.toNat) = x.toNat) && decide (j x.toNat < p.length) && (evAt p (j x.toNat)).strong)) := hb
 obtain ⟨l', h3, h4⟩ := List.sublist_map_iff.1 hb2
 have hl : ∃ x y, l' = [x, y] := by
  rcases l' with _ | ⟨x, _ | ⟨y, _ | ⟨z, l⟩⟩⟩
  ·simp at h4
  ·simp at h4
  ·exact ⟨x, y, rfl⟩
  ·simp at h4
 obtain ⟨x, y, rfl⟩ := hl
 simp only [List.map_cons, List.map_nil, List.cons.injEq, and_true] at h4
 have hx := List.mem_filter.1 (h3.subset (List.mem_cons_self ..))
 have hy := List.mem_filter.1 (h3.subset (List.mem_cons_of_mem _ (List.mem_cons_self ..)))
 simp only [Bool.and_eq_true, decide_eq_true_eq] at hx hy
 have ex : x = (ι a : Nat) := by
  have := hmem x hx.1
  have e1 : j x.toNat = a := by omega
  have := hx.2.1.1
  rw [e1] at this; omega
 have ey : y = (ι b : Nat) := by
  have := hmem y hy.1
  have e1 : j y.toNat = b := by omega
  have := hy.2.1.1
  rw [e1] at this; omega
 rw [ex, ey] at h3
 exact fo_of_bef (p := p) hmem (h3.trans List.filter_sublist)

theorem pull_rf1 {a b : Nat} (h : Rf (pullE p ι j σ e) p.length a b) : Rf e q.length (ι a) (ι b) := ⟨H.lt b h.1, (pull_rf H hs h.1 h.2).1⟩

theorem pull_rfOk (hac : RfOk q e) : RfOk p (pullE p ι j σ e) := fun a ha => hac _ (TG.map ι ha fun _ _ h => pull_rf1 H hs h)

theorem pull_back {w v : Nat} (h : Back p (pullE p ι j σ e) w v) (hw : w < p.length) : Back q e (ι w) (ι v) ∧ v < p.length := by
 induction h with
 | here => exact ⟨.here, hw⟩
 | @on w v u h _ ih =>
  obtain ⟨h1, h2⟩ := h
  obtain ⟨h3, h4, h5⟩ := pull_rf H hs hw h2
  obtain ⟨k1, k2⟩ := ih h4
  refine ⟨.on ⟨?_, h3⟩ k1, k2⟩
  unfold exchP at h1 ⊢
  simp only [Bool.and_eq_true] at h1 ⊢
  refine ⟨by simp only [Ev.reads, H.kind w hw]; exact h5, ?_⟩
  have := pull_dn (p := p) (ι := ι) (j := j) (σ := σ) (e := e) hw
  unfold dnAt at this
  rw [← this]; exact h1.2

omit hs in
theorem pull_rel {v c : Nat} (hv : v < p.length) (h : Rel1 p v c) : Rel1 q (ι v) (ι c) := by
 obtain ⟨h1, h2⟩ := h
 rcases h2 with rfl | ⟨h2, h3, h4⟩
 ·exact ⟨H.rel c hv h1, .inl rfl⟩
 ·obtain ⟨k1, k2⟩ := H.sb c v h2 hv h3
  exact ⟨H.rel c (by omega) h1, .inr ⟨k1, k2, by rw [H.kind c (by omega)]; exact h4⟩⟩
omit hs in
theorem pull_acq {r c : Nat} (hr : r < p.length) (h : Acq1 p r c) : Acq1 q (ι r) (ι c) := by
 obtain ⟨h1, h2⟩ := h
 rcases h2 with rfl | ⟨h2, h3, h4, h5⟩
 ·exact ⟨H.acq c hr h1, .inl rfl⟩
 ·obtain ⟨k1, k2⟩ := H.sb r c h2 h3 h4.symm
  exact ⟨H.acq c h3 h1, .inr ⟨k1, H.lt c h3, k2.symm, by rw [H.kind c h3]; exact h5⟩⟩

theorem pull_sw {a b : Nat} (h : Sw p (pullE p ι j σ e) a b) : Sw q e (ι a) (ι b) := by
 obtain ⟨r, w, v, h1, h2, h3, h4, h5, h6⟩ := h
 obtain ⟨k1, k2, k3⟩ := pull_rf H hs h1 h3
 obtain ⟨k4, k5⟩ := pull_back H hs h4 k2
 exact ⟨ι r, ι w, ι v, H.lt r h1, by simp only [Ev.reads, H.kind r h1]; exact h2, k1, k4, pull_rel H k5 h5, pull_acq H h1 h6⟩

include hmq in
theorem pull_hb {a b : Nat} (h : Hb p (pullE p ι j σ e) a b) : Hb q e (ι a) (ι b) := by
 have key : ∀ a b, (Sb1 p a b ∨ Fo1 (pullE p ι j σ e).fen a b ∨ Sw p (pullE p ι j σ e) a b) → Hb q e (ι a) (ι b) := by
  rintro a b (h | h | h)
  ·exact (pull_sb H hmq h).mono fun _ _ k => .inl k
  ·exact (pull_fo H hs h).mono fun _ _ k => .inr (.inl k)
  ·exact .one (.inr (.inr (pull_sw H hs h)))
 unfold Hb at h
 induction h with
 | one h => exact key _ _ h
 | more h _ ih => exact (key _ _ h).trans ih

theorem pull_at {k : Nat} (hk : k < 3) {i a : Nat} (hi : i < (e.ord[(σ k).toNat]?.getD []).length) (h : numAt ((e.ord[(σ k).toNat]?.getD []).map fun x => ((j x.toNat : Nat) : Int)) i = (a : Nat)) : numAt (e.ord[(σ k).toNat]?.getD []) i = (ι a : Nat) ∧ a < p.length := by
 rw [numAt_map hi] at h
 obtain ⟨b, h1, h2, h3, _⟩ := pull_ordm H hs hk _ (mem_numAt.2 ⟨i, hi, rfl⟩)
 rw [h2, Int.toNat_natCast, h3] at h
 have : b = a := by omega
 subst this
 exact ⟨h2, h1⟩

theorem pull_mem {k : Nat} (hk : k < 3) : e.ord[(σ k).toNat]?.getD [] ∈ e.ord := by
 obtain ⟨s1, s2⟩ := H.σ3 k (by omega) (by omega)
 have : (σ k).toNat < e.ord.length := by rw [hs.ol]; omega
 rw [List.getElem?_eq_getElem this, Option.getD_some]
 exact List.getElem_mem _

omit H hs in
theorem pull_ordmem {l : List Int} (hl : l ∈ (pullE p ι j σ e).ord) : ∃ k : Nat, k < 3 ∧ l = (e.ord[(σ k).toNat]?.getD []).map fun x => ((j x.toNat : Nat) : Int) := by
 obtain ⟨k, hk, rfl⟩ := List.getElem_of_mem hl
 have hk3 : k < 3 := hk
 refine ⟨k, hk3, ?_⟩
 rw [← pull_ord (p := p) hk3, List.getElem?_eq_getElem hk, Option.getD_some]

include hp in
theorem pull_com {a b : Nat} (h : Com1 p (pullE p ι j σ e) a b) : Com1 q e (ι a) (ι b) := by
 rcases h with ⟨l, hl, x, y, h1, h2, h3, h4⟩ | ⟨h1, h2⟩ | ⟨h1, h2, h3, y, h4, h5, h6⟩
 ·obtain ⟨k, hk, rfl⟩ := pull_ordmem hl
  rw [List.length_map] at h2
  exact .inl ⟨_, pull_mem H hs hk, x, y, h1, h2, (pull_at H hs hk (by omega) h3).1, (pull_at H hs hk h2 h4).1⟩
 ·exact .inr (.inl ⟨by simp only [Ev.reads, H.kind b h2.1]; exact h1, pull_rf1 H hs h2⟩)
 ·have hk5 : (evAt p a).op.kind ≠ 5 := by
   simp only [Ev.reads, Bool.and_eq_true, decide_eq_true_eq] at h2; exact h2.2
  have hl := hp.loc a h1
  have hk : (evAt p a).op.loc.toNat < 3 := by omega
  have e1 : ordAt p (pullE p ι j σ e) a = (e.ord[(σ (evAt p a).op.loc.toNat).toNat]?.getD []).map fun x => ((j x.toNat : Nat) : Int) := pull_ord hk
  have e2 : ordAt q e (ι a) = e.ord[(σ (evAt p a).op.loc.toNat).toNat]?.getD [] := by
   unfold ordAt
   rw [H.loc a h1 hk5, show (((evAt p a).op.loc.toNat : Nat) : Int) = (evAt p a).op.loc by omega]
  rw [e1, List.length_map] at h4
  rw [e1] at h5 h6
  obtain ⟨g1, g2⟩ := pull_at H hs hk h4 h5
  refine .inr (.inr ⟨H.lt a h1, by simp only [Ev.reads, H.kind a h1]; exact h2, ?_, y, by rw [e2]; exact h4, by rw [e2]; exact g1, ?_⟩)
  ·intro e
   exact h3 (by rw [← H.inv b g2, ← H.inv a h1, e])
  ·rw [e2]
   rw [pull_frm h1] at h6
   rcases (pull_src H hs h1).2 h2 with h7 | ⟨w, w1, w2, w3, _⟩
   ·exact .inl h7
   ·rw [w2, bk_nat, w3] at h6
    rcases h6 with h6 | ⟨x, x1, x2⟩
    ·omega
    ·exact .inr ⟨x, x1, by rw [w2]; exact (pull_at H hs hk (by omega) x2).1⟩

include hp hmq in
theorem pull_cons (hc : Cons q e) : Cons p (pullE p ι j σ e) := by
 refine ⟨fun ⟨a, ha⟩ => hc.round ⟨ι a, ?_⟩, fun h => hc.cross ?_, fun l hl i hi hr => ?_⟩
 ·have key : ∀ a b, (Sb1 p a b ∨ Fo1 (pullE p ι j σ e).fen a b ∨ Rf (pullE p ι j σ e) p.length a b) → TG (fun a b => Sb1 q a b ∨ Fo1 e.fen a b ∨ Rf e q.length a b) (ι a) (ι b) := by
   rintro a b (h | h | h)
   ·exact (pull_sb H hmq h).mono fun _ _ k => .inl k
   ·exact (pull_fo H hs h).mono fun _ _ k => .inr (.inl k)
   ·exact .one (.inr (.inr (pull_rf1 H hs h)))
  have : ∀ {a b}, TG (fun a b => Sb1 p a b ∨ Fo1 (pullE p ι j σ e).fen a b ∨ Rf (pullE p ι j σ e) p.length a b) a b → TG (fun a b => Sb1 q a b ∨ Fo1 e.fen a b ∨ Rf e q.length a b) (ι a) (ι b) := by
   intro a b h
   induction h with
   | one h => exact key _ _ h
   | more h _ ih => exact (key _ _ h).trans ih
  exact this ha
 ·rcases h with ⟨a, ha⟩ | ⟨a, b, h1, h2⟩
  ·exact .inl ⟨ι a, pull_hb H hmq hs ha⟩
  ·exact .inr ⟨ι a, ι b, pull_hb H hmq hs h1, TG.map ι h2 fun _ _ h => pull_com H hp hs h⟩
 ·obtain ⟨k, hk, rfl⟩ := pull_ordmem hl
  rw [List.length_map] at hi
  have hm := pull_ordm H hs hk
  obtain ⟨b, h1, h2, h3, h4, _⟩ := hm _ (mem_numAt.2 ⟨i, hi, rfl⟩)
  have e1 : numAt ((e.ord[(σ k).toNat]?.getD []).map fun x => ((j x.toNat : Nat) : Int)) i = (b : Nat) := by rw [numAt_map hi, h2, Int.toNat_natCast, h3]
  rw [e1, Int.toNat_natCast] at hr ⊢
  have hn := hc.next _ (pull_mem H hs hk) i hi
  rw [h2, Int.toNat_natCast] at hn
  have hn2 := hn (by simp only [Ev.reads, H.kind b h1]; exact hr)
  rw [pull_frm h1, hn2]
  cases i with
  | zero => rfl
  | succ i =>
   have hi2 : i < (e.ord[(σ k).toNat]?.getD []).length := by omega
   show bk j (numAt _ i) = numAt _ i
   rw [numAt_map hi2]
   obtain ⟨c, _, c2, c3, _⟩ := hm _ (mem_numAt.2 ⟨i, hi2, rfl⟩)
   rw [c2, bk_nat, Int.toNat_natCast]

include hp in
theorem pull_words (hac : RfOk q e) : ∀ i, i < p.length → (wordsP p (pullE p ι j σ e).frm).R i = (wordsP q e.frm).R (ι i) ∧ (1 ≤ (evAt p i).op.kind → (evAt p i).op.kind ≤ 4 → (wordsP p (pullE p ι j σ e).frm).W i = (wordsP q e.frm).W (ι i)) := by
 have hs' := pull_shape H hp hs
 have hac' := pull_rfOk H hs hac
 have hw := hs.words hac
 have hr : ∀ i, i < p.length → (evAt q (ι i)).reads = (evAt p i).reads := fun i hi => by simp only [Ev.reads, H.kind i hi]
 refine Words.uniq hs'.fromOk hs'.srcOk hac' (fun i hi => ((hs'.xok (.inr trivial)).fr i hi).1) (hs'.words hac') ?_
 refine ⟨fun i hi h => hw.out _ (H.lt i hi) ((hr i hi).trans h), fun i hi h h0 => ?_, fun i w hi h h0 => ?_, fun i hi hk => ?_, fun i hi hk => ?_, fun i hi hk => ?_⟩
 ·refine hw.init _ (H.lt i hi) ((hr i hi).trans h) ?_
  have h1 : bk j (frmAt e (ι i)) = -1 := by rw [← pull_frm (p := p) (σ := σ) hi]; exact h0
  rcases (pull_src H hs hi).2 h with h2 | ⟨w, _, h2, _⟩
  ·exact h2
  ·rw [h2, bk_nat] at h1; omega
 ·exact hw.from_ _ _ (H.lt i hi) ((hr i hi).trans h) (pull_rf H hs hi h0).1
 ·rw [hw.store _ (H.lt i hi) (by rw [H.kind i hi]; exact hk), H.v i hi]
 ·rw [hw.add _ (H.lt i hi) (by rw [H.kind i hi]; exact hk), H.v i hi]
 ·rw [hw.cas _ (H.lt i hi) (by rw [H.kind i hi]; exact hk), H.w i hi]

include hp hq hmq in
theorem pull_exec (hmp : Mono p) (he : e ∈ execsP q) : pullE p ι j σ e ∈ execsP p := by
 obtain ⟨_, hw, hc⟩ := (exec_iff hq hmq).1 he
 have hac := Round.rfOk hc.round
 refine (exec_iff hp hmp).2 ⟨pull_shape H hp hs, fun i hi => ?_, pull_cons H hp hmq hs hc⟩
 have h1 := hw _ (H.lt i hi)
 rw [H.kind i hi, H.v i hi, ← (pull_words H hp hs hac i hi).1, ← pull_dn (p := p) (j := j) (σ := σ) hi] at h1
 exact h1

omit H hs in
theorem outReads_eq (p : List Ev) (w : Wd) : ∀ n, outReads p w n = ((List.range n).filter fun i => (evAt p i).reads).map w.R
 | 0 => rfl
 | n + 1 => by
  rw [outReads, outReads_eq p w n, List.range_succ, List.filter_append, List.map_append]
  congr 1
  cases h : (evAt p n).reads <;> simp [h, Wd.R]

include hp in
theorem pull_outcome (hac : RfOk q e) : outcomeP p (pullE p ι j σ e) = (((List.range p.length).filter fun i => (evAt p i).reads).map fun i => (wordsP q e.frm).R (ι i)) ++ [lastOf (wordsP q e.frm) (e.ord[(σ 0).toNat]?.getD []), lastOf (wordsP q e.frm) (e.ord[(σ 1).toNat]?.getD []), lastOf (wordsP q e.frm) (e.ord[(σ 2).toNat]?.getD [])] := by
 have hwd := pull_words H hp hs hac
 unfold outcomeP
 congr 1
 ·rw [outReads_eq]
  refine List.map_congr_left fun i hi => ?_
  obtain ⟨h1, _⟩ := List.mem_filter.1 hi
  exact (hwd i (by simpa using h1)).1
 ·have key : ∀ k : Nat, k < 3 → lastOf (wordsP p (pullE p ι j σ e).frm) ((e.ord[(σ k).toNat]?.getD []).map fun x => ((j x.toNat : Nat) : Int)) = lastOf (wordsP q e.frm) (e.ord[(σ k).toNat]?.getD []) := by
   intro k hk
   unfold lastOf
   rw [List.length_map]
   split
   ·rfl
   ·rename_i hne
    have hi : (e.ord[(σ k).toNat]?.getD []).length - 1 < (e.ord[(σ k).toNat]?.getD []).length := by omega
    obtain ⟨a, h1, h2, h3, h4, h5, _⟩ := pull_ordm H hs hk _ (mem_numAt.2 ⟨_, hi, rfl⟩)
    have hkd := hs.dn0 _ (H.lt a h1) h4
    rw [H.kind a h1] at hkd
    rw [numAt_map hi, h2, Int.toNat_natCast, Int.toNat_natCast, h3]
    exact (hwd a h1).2 hkd.1 hkd.2
  show [_, _, _] = _
  simp only [List.cons.injEq, and_true]
  exact ⟨key 0 (by omega), key 1 (by omega), key 2 (by omega)⟩
end
end
end Go.EV

namespace Go.EV
open Go.Proofs

theorem TG.rank {R : Nat → Nat → Prop} {rk : Nat → Nat} (h : ∀ a b, R a b → rk a < rk b) {a b : Nat} (t : TG R a b) : rk a < rk b := by
 induction t with
 | one k => exact h _ _ k
 | more k _ ih => exact Nat.lt_trans (h _ _ k) ih

/-- What goes with a total order is consistent. -/
theorem lin_cons {p : List Ev} {e : Exec} (rk : Nat → Nat) (hth : ∀ a b, a < b → b < p.length → (evAt p a).th = (evAt p b).th → rk a < rk b) (hfo : ∀ a b, Fo1 e.fen a b → rk a < rk b)
  (hlt : ∀ a b, Rf e p.length a b → a < p.length) (hrf : ∀ a b, Rf e p.length a b → rk a < rk b) (hco : ∀ l ∈ e.ord, ∀ a b, Co1 l a b → rk a < rk b) (hfr : ∀ a b, Fr1 p e a b → rk a < rk b) (hn : NextOk p e)
  (hex : ∀ w, exchP p e w = true → w < p.length) : Cons p e := by
 have hsb : ∀ a b, Sb1 p a b → rk a < rk b := fun a b ⟨h1, h2, h3⟩ => hth a b (by omega) h2 h3.symm
 have hbk : ∀ w v, Back p e w v → w < p.length → rk v ≤ rk w ∧ v < p.length := by
  intro w v h
  induction h with
  | here => exact fun h => ⟨Nat.le_refl _, h⟩
  | on h t ih =>
   intro hw
   have h2 := hrf _ _ ⟨hw, h.2⟩
   obtain ⟨h3, h4⟩ := ih (hlt _ _ ⟨hw, h.2⟩)
   exact ⟨by omega, h4⟩
 have hrel : ∀ w c, Rel1 p w c → w < p.length → rk c ≤ rk w := by
  rintro w c ⟨_, rfl | ⟨h1, h2, _⟩⟩ hw
  ·exact Nat.le_refl _
  ·exact Nat.le_of_lt (hth c w h1 hw h2)
 have hacq : ∀ r c, Acq1 p r c → rk r ≤ rk c := by
  rintro r c ⟨_, rfl | ⟨h1, h2, h3, _⟩⟩
  ·exact Nat.le_refl _
  ·exact Nat.le_of_lt (hth r c h1 h2 h3.symm)
 have hsw : ∀ a b, Sw p e a b → rk a < rk b := by
  rintro a b ⟨r, w, v, hr, _, hf, hb, h1, h2⟩
  have k1 := hrf w r ⟨hr, hf⟩
  obtain ⟨k2, k3⟩ := hbk w v hb (hlt w r ⟨hr, hf⟩)
  have k4 := hrel v a h1 k3
  have k5 := hacq r b h2
  omega
 have hhb : ∀ a b, Hb p e a b → rk a < rk b := fun a b h => TG.rank (rk := rk) (fun x y k => by
  rcases k with k | k | k
  ·exact hsb _ _ k
  ·exact hfo _ _ k
  ·exact hsw _ _ k) h
 have hec : ∀ a b, Eco p e a b → rk a < rk b := fun a b h => TG.rank (rk := rk) (fun x y k => by
  rcases k with ⟨l, hl, k⟩ | ⟨_, k⟩ | k
  ·exact hco l hl _ _ k
  ·exact hrf _ _ k
  ·exact hfr _ _ k) h
 refine ⟨?_, ?_, hn⟩
 ·rintro ⟨a, h⟩
  refine Nat.lt_irrefl _ (TG.rank (rk := rk) (fun x y k => ?_) h)
  rcases k with k | k | k
  ·exact hsb _ _ k
  ·exact hfo _ _ k
  ·exact hrf _ _ k
 ·rintro (⟨a, h⟩ | ⟨a, b, h1, h2⟩)
  ·exact Nat.lt_irrefl _ (hhb _ _ h)
  ·have := hhb _ _ h1
   have := hec _ _ h2
   omega

/-! ### A run of events -/
structure Sx where
 wd : Int → Int
 lw : Int → Int
 R : Nat → Int
 frm : Nat → Int
 dn : Nat → Bool
 W : Nat → Int

def upI {α : Type} (f : Int → α) (k : Int) (x : α) : Int → α := fun j => if j = k then x else f j
def upN {α : Type} (f : Nat → α) (k : Nat) (x : α) : Nat → α := fun j => if j = k then x else f j

def sx0 : Sx := ⟨fun _ => 0, fun _ => -1, fun _ => 0, fun _ => -2, fun _ => false, fun _ => 0⟩

/-- Whether an operation writes, where v is there. -/
def wrO (o : OpV) (v : Int) (ch : Bool) : Bool := if o.kind = 1 ∨ o.kind = 2 then true else if o.kind = 3 then decide (v = o.v) else if o.kind = 4 then decide (v = o.v) && ch else false
/-- What it writes. -/
def nwO (o : OpV) (v : Int) : Int := if o.kind = 1 then o.v else if o.kind = 2 then IntKind.i64.wrap (v + o.v) else o.w

def stepX (p : List Ev) (s : Sx) (x : Nat × Bool) : Sx :=
 let o := (evAt p x.1).op
 let v := s.wd o.loc
 let w := wrO o v x.2
 {wd := if w then upI s.wd o.loc (nwO o v) else s.wd
  lw := if w then upI s.lw o.loc x.1 else s.lw
  R := upN s.R x.1 (if (evAt p x.1).reads then v else 0)
  frm := upN s.frm x.1 (if (evAt p x.1).reads then s.lw o.loc else -2)
  dn := upN s.dn x.1 w
  W := upN s.W x.1 (nwO o v) }

def runX (p : List Ev) (tr : List (Nat × Bool)) : Sx := tr.foldl (stepX p) sx0

theorem runX_snoc {p : List Ev} {tr : List (Nat × Bool)} {x : Nat × Bool} : runX p (tr ++ [x]) = stepX p (runX p tr) x := by simp [runX, List.foldl_append]

/-- The last of a list of events, or -1. -/
def lastW (l : List Nat) : Int := match l.getLast? with | none => -1 | some i => i

def wrX (p : List Ev) (s : Sx) (k : Int) (i : Nat) : Bool := s.dn i && decide ((evAt p i).op.loc = k)

variable {p : List Ev}

theorem runX_keep {tr : List (Nat × Bool)} {x : Nat × Bool} {i : Nat} (h : i ≠ x.1) : (runX p (tr ++ [x])).R i = (runX p tr).R i ∧ (runX p (tr ++ [x])).frm i = (runX p tr).frm i ∧ (runX p (tr ++ [x])).dn i = (runX p tr).dn i ∧ (runX p (tr ++ [x])).W i = (runX p tr).W i := by
 rw [runX_snoc]
 simp [stepX, upN, h]

theorem snoc_ind {α : Type} {C : List α → Prop} (h0 : C []) (h1 : ∀ l x, C l → C (l ++ [x])) (l : List α) : C l := by
 rw [← l.reverse_reverse]
 induction l.reverse with
 | nil => exact h0
 | cons a t ih => rw [List.reverse_cons]; exact h1 _ _ ih

/-- What stands of an event when it is done, stays. -/
theorem runX_stay {l1 l2 : List (Nat × Bool)} : ∀ {i : Nat}, (∀ x ∈ l2, i ≠ x.1) → (runX p (l1 ++ l2)).R i = (runX p l1).R i ∧ (runX p (l1 ++ l2)).frm i = (runX p l1).frm i ∧ (runX p (l1 ++ l2)).dn i = (runX p l1).dn i ∧ (runX p (l1 ++ l2)).W i = (runX p l1).W i := by
 refine snoc_ind (C := fun l2 => ∀ {i : Nat}, (∀ x ∈ l2, i ≠ x.1) → (runX p (l1 ++ l2)).R i = (runX p l1).R i ∧ (runX p (l1 ++ l2)).frm i = (runX p l1).frm i ∧ (runX p (l1 ++ l2)).dn i = (runX p l1).dn i ∧ (runX p (l1 ++ l2)).W i = (runX p l1).W i) ?_ ?_ l2
 ·intro i _; simp
 ·intro l x ih i h
  rw [← List.append_assoc]
  obtain ⟨a1, a2, a3, a4⟩ := runX_keep (p := p) (tr := l1 ++ l) (x := x) (i := i) (h x (by simp))
  obtain ⟨b1, b2, b3, b4⟩ := ih (i := i) (fun y hy => h y (by simp [hy]))
  exact ⟨a1.trans b1, a2.trans b2, a3.trans b3, a4.trans b4⟩

/-- The words and last writers go with the list of writers. -/
theorem runX_last {tr : List (Nat × Bool)} (hn : (tr.map Prod.fst).Nodup) (k : Int) :
  (runX p tr).lw k = lastW ((tr.map Prod.fst).filter (wrX p (runX p tr) k)) ∧ ((runX p tr).lw k = -1 ∧ (runX p tr).wd k = 0 ∨ ∃ w : Nat, (runX p tr).lw k = w ∧ (runX p tr).wd k = (runX p tr).W w) := by
 revert hn
 refine snoc_ind (C := fun tr => (tr.map Prod.fst).Nodup → (runX p tr).lw k = lastW ((tr.map Prod.fst).filter (wrX p (runX p tr) k)) ∧ ((runX p tr).lw k = -1 ∧ (runX p tr).wd k = 0 ∨ ∃ w : Nat, (runX p tr).lw k = w ∧ (runX p tr).wd k = (runX p tr).W w)) ?_ ?_ tr
 ·intro _; exact ⟨rfl, .inl ⟨rfl, rfl⟩⟩
 ·intro l x ih hn
  rw [List.map_append, List.nodup_append] at hn
  obtain ⟨hn1, _, hn2⟩ := hn
  have hx : x.1 ∉ l.map Prod.fst := fun h => hn2 x.1 h x.1 (by simp) rfl
  obtain ⟨ih1, ih2⟩ := ih hn1
  have hf : (l.map Prod.fst).filter (wrX p (runX p (l ++ [x])) k) = (l.map Prod.fst).filter (wrX p (runX p l) k) := by
   apply List.filter_congr
   intro i hi
   have hne : i ≠ x.1 := fun e => hx (e ▸ hi)
   simp only [wrX, (runX_keep (p := p) (tr := l) hne).2.2.1]
  rw [List.map_append, List.filter_append, hf]
  generalize hL : (l.map Prod.fst).filter (wrX p (runX p l) k) = L at *
  have hmem : ∀ i ∈ L, i ≠ x.1 := by
   intro i hi e
   rw [← hL] at hi
   exact hx (e ▸ (List.mem_filter.1 hi).1)
  have hlwn : ∀ w : Nat, (runX p l).lw k = w → w ≠ x.1 := by
   intro w hw
   rw [ih1, lastW] at hw
   cases hg : L.getLast? with
   | none => rw [hg] at hw; simp only at hw; omega
   | some i =>
    rw [hg] at hw
    simp only at hw
    have : i = w := by omega
    exact hmem w (this ▸ List.mem_of_getLast? hg)
  simp only [List.map_cons, List.map_nil, List.filter_cons, List.filter_nil]
  rw [runX_snoc]
  by_cases hw : wrO (evAt p x.1).op ((runX p l).wd (evAt p x.1).op.loc) x.2 = true
  ·by_cases hk : (evAt p x.1).op.loc = k
   ·subst hk
    have h1 : wrX p (stepX p (runX p l) x) (evAt p x.1).op.loc x.1 = true := by simp [wrX, stepX, upN, hw]
    rw [if_pos h1]
    constructor
    ·simp [stepX, hw, upI, lastW]
    ·exact .inr ⟨x.1, by simp [stepX, hw, upI], by simp [stepX, hw, upI, upN]⟩
   ·have h1 : wrX p (stepX p (runX p l) x) k x.1 = false := by simp [wrX, hk]
    have hk' : k ≠ (evAt p x.1).op.loc := fun e => hk e.symm
    rw [if_neg (by rw [h1]; decide), List.append_nil]
    have e1 : (stepX p (runX p l) x).lw k = (runX p l).lw k := by simp [stepX, hw, upI, hk']
    have e2 : (stepX p (runX p l) x).wd k = (runX p l).wd k := by simp [stepX, hw, upI, hk']
    rw [e1, e2]
    refine ⟨ih1, ?_⟩
    rcases ih2 with h | ⟨w, h2, h3⟩
    ·exact .inl h
    ·exact .inr ⟨w, h2, by rw [h3]; simp [stepX, upN, hlwn w h2]⟩
  ·have h1 : wrX p (stepX p (runX p l) x) k x.1 = false := by simp [wrX, stepX, upN, hw]
   rw [if_neg (by rw [h1]; decide), List.append_nil]
   have e1 : (stepX p (runX p l) x).lw k = (runX p l).lw k := by simp [stepX, hw]
   have e2 : (stepX p (runX p l) x).wd k = (runX p l).wd k := by simp [stepX, hw]
   rw [e1, e2]
   refine ⟨ih1, ?_⟩
   rcases ih2 with h | ⟨w, h2, h3⟩
   ·exact .inl h
   ·exact .inr ⟨w, h2, by rw [h3]; simp [stepX, upN, hlwn w h2]⟩

end Go.EV

namespace Go.EV
open Go.Proofs

variable {p : List Ev} {tr : List (Nat × Bool)}

/-- All events, each once, those of a thread in their order. -/
structure IsRun (p : List Ev) (tr : List (Nat × Bool)) : Prop where
 perm : (tr.map Prod.fst).Perm (List.range p.length)
 keep : (tr.map Prod.fst).Pairwise fun a b => (evAt p a).th = (evAt p b).th → a < b

theorem IsRun.nodup (h : IsRun p tr) : (tr.map Prod.fst).Nodup := h.perm.nodup_iff.2 List.nodup_range
theorem IsRun.mem (h : IsRun p tr) {i : Nat} : i ∈ tr.map Prod.fst ↔ i < p.length := by rw [h.perm.mem_iff, List.mem_range]

def rkX (tr : List (Nat × Bool)) (i : Nat) : Nat := (tr.map Prod.fst).idxOf i

def ordX (p : List Ev) (tr : List (Nat × Bool)) (k : Int) : List Nat := (tr.map Prod.fst).filter (wrX p (runX p tr) k)
def fenX (p : List Ev) (tr : List (Nat × Bool)) : List Nat := (tr.map Prod.fst).filter fun i => (evAt p i).strong
def toI (l : List Nat) : List Int := l.map fun (i : Nat) => (i : Int)
def execX (p : List Ev) (tr : List (Nat × Bool)) : Exec :=
 ⟨(List.range p.length).map (runX p tr).frm, (List.range p.length).map (runX p tr).dn, [toI (ordX p tr 0), toI (ordX p tr 1), toI (ordX p tr 2)], toI (fenX p tr)⟩

theorem frmAt_X {i : Nat} (hi : i < p.length) : frmAt (execX p tr) i = (runX p tr).frm i := by simp [frmAt, execX, hi]
theorem dnAt_X {i : Nat} (hi : i < p.length) : dnAt (execX p tr).dn i = (runX p tr).dn i := by simp [dnAt, execX, hi]
theorem ord_X {k : Nat} (hk : k < 3) : (execX p tr).ord[k]?.getD [] = toI (ordX p tr k) := by
 match k, hk with
 | 0, _ => rfl
 | 1, _ => rfl
 | 2, _ => rfl

theorem idx_asc {l : List Nat} (hn : l.Nodup) : l.Pairwise fun a b => l.idxOf a < l.idxOf b := by
 rw [List.pairwise_iff_getElem]
 intro i j hi hj hij
 rw [hn.idxOf_getElem i hi, hn.idxOf_getElem j hj]; exact hij

theorem lastW_mem {l : List Nat} {w : Nat} (h : lastW l = w) : w ∈ l := by
 unfold lastW at h
 split at h
 ·omega
 ·rename_i i hi
  have : i = w := by omega
  exact this ▸ List.mem_of_getLast? hi
theorem lastW_none {l : List Nat} : lastW l = -1 ↔ l = [] := by
 unfold lastW
 split
 ·rename_i h; simpa using h
 ·rename_i i hi
  constructor
  ·intro h; omega
  ·rintro rfl; simp at hi
theorem lastW_cases (l : List Nat) : lastW l = -1 ∨ ∃ w : Nat, lastW l = w := by
 unfold lastW
 split
 ·exact .inl rfl
 ·exact .inr ⟨_, rfl⟩
theorem lastW_max {l : List Nat} {f : Nat → Nat} (hp : l.Pairwise fun a b => f a < f b) {u : Nat} (h : lastW l = u) {w : Nat} (hw : w ∈ l) : f w ≤ f u := by
 have hne : l ≠ [] := fun e => by rw [e] at hw; cases hw
 have hu : u = l.getLast hne := by
  unfold lastW at h
  rw [List.getLast?_eq_some_getLast hne] at h
  simp only at h; omega
 rw [hu]
 rw [← List.dropLast_concat_getLast hne] at hw hp
 rw [List.pairwise_append] at hp
 rcases List.mem_append.1 hw with h1 | h1
 ·exact Nat.le_of_lt (hp.2.2 _ h1 _ (by simp))
 ·simp only [List.mem_singleton] at h1; rw [h1]; exact Nat.le_refl _

/-- An event in its place. -/
theorem IsRun.at (h : IsRun p tr) {i : Nat} (hi : i < p.length) : ∃ l1 c l2, tr = l1 ++ (i, c) :: l2 ∧ i ∉ l1.map Prod.fst ∧ i ∉ l2.map Prod.fst ∧ rkX tr i = l1.length ∧ (∀ x ∈ l1.map Prod.fst, rkX tr x < rkX tr i ∧ x < p.length) ∧ (∀ x, x < p.length → rkX tr x < rkX tr i → x ∈ l1.map Prod.fst) := by
 have hm := h.mem.2 hi
 obtain ⟨⟨i', c⟩, hx, e⟩ := List.mem_map.1 hm
 simp only at e; subst e
 obtain ⟨l1, l2, rfl⟩ := List.append_of_mem hx
 have hn := h.nodup
 rw [List.map_append, List.map_cons, List.nodup_append, List.nodup_cons] at hn
 obtain ⟨n1, ⟨n2, n3⟩, n4⟩ := hn
 have h1 : i' ∉ l1.map Prod.fst := fun hh => n4 _ hh i' (by simp) rfl
 have hidx : rkX (l1 ++ (i', c) :: l2) i' = l1.length := by
  simp only [rkX, List.map_append, List.map_cons]
  rw [List.idxOf_append, if_neg h1, List.idxOf_cons_self]; simp
 refine ⟨l1, c, l2, rfl, h1, n2, hidx, ?_, ?_⟩
 ·intro x hx1
  refine ⟨?_, h.mem.1 (by simp only [List.map_append, List.mem_append]; exact .inl hx1)⟩
  rw [hidx]
  simp only [rkX, List.map_append]
  rw [List.idxOf_append, if_pos hx1]
  have := List.idxOf_lt_length_of_mem hx1
  rwa [List.length_map] at this
 ·intro x hxl hlt
  rw [hidx] at hlt
  apply Classical.byContradiction
  intro hx1
  simp only [rkX, List.map_append] at hlt
  rw [List.idxOf_append, if_neg hx1, List.length_map] at hlt
  omega

/-- What stands of an event at the end. -/
theorem IsRun.doneC (h : IsRun p tr) {i : Nat} (hi : i < p.length) : ∃ l1 c, (i, c) ∈ tr ∧ rkX tr i = l1.length ∧ (∀ x ∈ l1, rkX tr x < rkX tr i ∧ x < p.length) ∧ (∀ x, x < p.length → rkX tr x < rkX tr i → x ∈ l1) ∧ l1 <+: tr.map Prod.fst ∧
  ∃ v lw, (runX p tr).R i = (if (evAt p i).reads then v else 0) ∧ (runX p tr).frm i = (if (evAt p i).reads then lw else -2) ∧ (runX p tr).dn i = wrO (evAt p i).op v c ∧ (runX p tr).W i = nwO (evAt p i).op v ∧
   lw = lastW (l1.filter (wrX p (runX p tr) (evAt p i).op.loc)) ∧ (lw = -1 ∧ v = 0 ∨ ∃ w : Nat, lw = w ∧ v = (runX p tr).W w) := by
 obtain ⟨l1, c, l2, e, h1, h2, h3, h4, h5⟩ := h.at hi
 refine ⟨l1.map Prod.fst, c, by rw [e]; simp, by rw [h3, List.length_map], h4, h5, ⟨i :: l2.map Prod.fst, by rw [e]; simp⟩, (runX p l1).wd (evAt p i).op.loc, (runX p l1).lw (evAt p i).op.loc, ?_⟩
 have hn := h.nodup
 rw [e, List.map_append, List.nodup_append] at hn
 have hst : ∀ {j : Nat}, j ∈ l1.map Prod.fst → (runX p tr).R j = (runX p l1).R j ∧ (runX p tr).frm j = (runX p l1).frm j ∧ (runX p tr).dn j = (runX p l1).dn j ∧ (runX p tr).W j = (runX p l1).W j := by
  intro j hj
  rw [e]
  refine runX_stay fun x hx hjx => ?_
  exact hn.2.2 j hj x.1 (List.mem_map.2 ⟨x, hx, rfl⟩) hjx
 have hend : (runX p tr).R i = (stepX p (runX p l1) (i, c)).R i ∧ (runX p tr).frm i = (stepX p (runX p l1) (i, c)).frm i ∧ (runX p tr).dn i = (stepX p (runX p l1) (i, c)).dn i ∧ (runX p tr).W i = (stepX p (runX p l1) (i, c)).W i := by
  rw [e, ← runX_snoc, show l1 ++ (i, c) :: l2 = (l1 ++ [(i, c)]) ++ l2 by simp]
  exact runX_stay fun x hx hjx => h2 (List.mem_map.2 ⟨x, hx, hjx.symm⟩)
 obtain ⟨q1, q2⟩ := runX_last (p := p) hn.1 (evAt p i).op.loc
 have hflt : (l1.map Prod.fst).filter (wrX p (runX p l1) (evAt p i).op.loc) = (l1.map Prod.fst).filter (wrX p (runX p tr) (evAt p i).op.loc) := by
  apply List.filter_congr
  intro j hj
  simp only [wrX, (hst hj).2.2.1]
 refine ⟨by rw [hend.1]; simp [stepX, upN], by rw [hend.2.1]; simp [stepX, upN], by rw [hend.2.2.1]; simp [stepX, upN], by rw [hend.2.2.2]; simp [stepX, upN], by rw [q1, hflt], ?_⟩
 rcases q2 with q2 | ⟨w, q2, q3⟩
 ·exact .inl q2
 ·refine .inr ⟨w, q2, ?_⟩
  rw [q3]
  have hw : w ∈ l1.map Prod.fst := by
   rw [q1] at q2
   exact (List.mem_filter.1 (lastW_mem q2)).1
  exact (hst hw).2.2.2.symm

theorem IsRun.done (h : IsRun p tr) {i : Nat} (hi : i < p.length) : ∃ l1 c, rkX tr i = l1.length ∧ (∀ x ∈ l1, rkX tr x < rkX tr i ∧ x < p.length) ∧ (∀ x, x < p.length → rkX tr x < rkX tr i → x ∈ l1) ∧ l1 <+: tr.map Prod.fst ∧
  ∃ v lw, (runX p tr).R i = (if (evAt p i).reads then v else 0) ∧ (runX p tr).frm i = (if (evAt p i).reads then lw else -2) ∧ (runX p tr).dn i = wrO (evAt p i).op v c ∧ (runX p tr).W i = nwO (evAt p i).op v ∧
   lw = lastW (l1.filter (wrX p (runX p tr) (evAt p i).op.loc)) ∧ (lw = -1 ∧ v = 0 ∨ ∃ w : Nat, lw = w ∧ v = (runX p tr).W w) :=
 let ⟨l1, c, _, k⟩ := h.doneC hi; ⟨l1, c, k⟩

theorem wrO_kind {o : OpV} {v : Int} {c : Bool} (h : wrO o v c = true) : 1 ≤ o.kind ∧ o.kind ≤ 4 := by
 unfold wrO at h
 split at h
 ·omega
 ·split at h
  ·omega
  ·split at h
   ·omega
   ·cases h

theorem mem_ordX (h : IsRun p tr) {k : Int} {i : Nat} : i ∈ ordX p tr k ↔ i < p.length ∧ (runX p tr).dn i = true ∧ (evAt p i).op.loc = k := by
 simp only [ordX, List.mem_filter, h.mem, wrX, Bool.and_eq_true, decide_eq_true_eq]

theorem ordX_asc (h : IsRun p tr) (k : Int) : (ordX p tr k).Pairwise fun a b => rkX tr a < rkX tr b := (idx_asc h.nodup).filter _
theorem fenX_asc (h : IsRun p tr) : (fenX p tr).Pairwise fun a b => rkX tr a < rkX tr b := (idx_asc h.nodup).filter _

theorem toI_nodup {l : List Nat} (h : l.Nodup) : (toI l).Nodup := by
 unfold toI
 rw [List.Nodup, List.pairwise_map]
 exact h.imp fun hab e => hab (by omega)
theorem mem_toI {l : List Nat} {x : Int} : x ∈ toI l ↔ ∃ i : Nat, i ∈ l ∧ x = i := by
 simp only [toI, List.mem_map]
 constructor
 ·rintro ⟨i, h, rfl⟩; exact ⟨i, h, rfl⟩
 ·rintro ⟨i, h, rfl⟩; exact ⟨i, h, rfl⟩
theorem numAt_toI {l : List Nat} {i : Nat} (hi : i < l.length) : numAt (toI l) i = (l[i] : Nat) := by simp [numAt, toI, hi]
theorem toI_len {l : List Nat} : (toI l).length = l.length := by simp [toI]

/-- Positions in an ascending list. -/
theorem co_asc {l : List Nat} {f : Nat → Nat} (h : l.Pairwise fun a b => f a < f b) {a b : Nat} (hc : Co1 (toI l) a b) : f a < f b := by
 obtain ⟨i, j, hij, hj, e1, e2⟩ := hc
 rw [toI_len] at hj
 rw [numAt_toI (by omega)] at e1
 rw [numAt_toI hj] at e2
 have := List.pairwise_iff_getElem.1 h i j (by omega) hj hij
 have e1' : l[i] = a := by omega
 have e2' : l[j] = b := by omega
 rw [e1', e2'] at this; exact this

end Go.EV

namespace Go.EV
open Go.Proofs

variable {p : List Ev} {tr : List (Nat × Bool)}

theorem run_rf (h : IsRun p tr) {a b : Nat} (hr : Rf (execX p tr) p.length a b) : (evAt p b).reads = true ∧ a < p.length ∧ rkX tr a < rkX tr b ∧ (runX p tr).dn a = true ∧ (evAt p a).op.loc = (evAt p b).op.loc := by
 obtain ⟨hb, hf⟩ := hr
 rw [frmAt_X hb] at hf
 obtain ⟨l1, c, _, h4, _, _, v, lw, _, e2, _, _, e5, _⟩ := h.done hb
 cases hrd : (evAt p b).reads with
 | false => rw [e2, hrd] at hf; simp at hf
 | true =>
  rw [e2, hrd, if_pos rfl, e5] at hf
  have hm := List.mem_filter.1 (lastW_mem hf)
  obtain ⟨k1, k2⟩ := h4 a hm.1
  have k3 := hm.2
  simp only [wrX, Bool.and_eq_true, decide_eq_true_eq] at k3
  exact ⟨rfl, k2, k1, k3.1, k3.2⟩

theorem rk_inj (h : IsRun p tr) {a b : Nat} (ha : a < p.length) (hb : b < p.length) (e : rkX tr a = rkX tr b) : a = b := by
 have h1 := h.mem.2 ha
 have h2 := h.mem.2 hb
 unfold rkX at e
 have e1 := List.getElem_idxOf (List.idxOf_lt_length_of_mem h1)
 have e2 := List.getElem_idxOf (List.idxOf_lt_length_of_mem h2)
 rw [← e1, ← e2]
 simp only [e]

theorem rk_th (h : IsRun p tr) {a b : Nat} (hab : a < b) (hb : b < p.length) (e : (evAt p a).th = (evAt p b).th) : rkX tr a < rkX tr b := by
 apply Classical.byContradiction
 intro hn
 have hne : rkX tr a ≠ rkX tr b := fun e' => by have := rk_inj h (by omega) hb e'; omega
 have hlt : rkX tr b < rkX tr a := by omega
 have h1 := h.mem.2 (show a < p.length by omega)
 have h2 := h.mem.2 hb
 unfold rkX at hlt
 have := List.pairwise_iff_getElem.1 h.keep _ _ (List.idxOf_lt_length_of_mem h2) (List.idxOf_lt_length_of_mem h1) hlt
 rw [List.getElem_idxOf, List.getElem_idxOf] at this
 have := this e.symm
 omega

theorem run_shape (h : IsRun p tr) (hp : POk p) : Shape p (execX p tr) := by
 refine ⟨by simp [execX], by simp [execX], rfl, ?_, ?_, ?_, ?_, ?_, ?_⟩
 ·intro i hi hk
  rw [dnAt_X hi]
  obtain ⟨l1, c, _, _, _, _, v, lw, _, _, e3, _⟩ := h.done hi
  rw [e3, wrO, if_pos hk]
 ·intro i hi hd
  rw [dnAt_X hi] at hd
  obtain ⟨l1, c, _, _, _, _, v, lw, _, _, e3, _⟩ := h.done hi
  rw [e3] at hd
  exact wrO_kind hd
 ·intro i hi hr
  rw [frmAt_X hi]
  obtain ⟨l1, c, _, _, _, _, v, lw, _, e2, _⟩ := h.done hi
  rw [e2, hr]; rfl
 ·intro i hi hr
  rw [frmAt_X hi]
  obtain ⟨l1, c, _, _, _, _, v, lw, _, e2, _, _, e5, _⟩ := h.done hi
  rcases lastW_cases (l1.filter (wrX p (runX p tr) (evAt p i).op.loc)) with k | ⟨w, k⟩
  ·left; rw [e2, hr, if_pos rfl, e5, k]
  ·right
   have hw : frmAt (execX p tr) i = w := by rw [frmAt_X hi, e2, hr, if_pos rfl, e5, k]
   obtain ⟨_, k2, _, k4, k5⟩ := run_rf h ⟨hi, hw⟩
   rw [frmAt_X hi] at hw
   exact ⟨w, hw, k2, by rw [dnAt_X k2]; exact k4, k5⟩
 ·intro k hk
  rw [ord_X hk]
  refine (List.perm_ext_iff_of_nodup (toI_nodup (h.nodup.filter _)) (asc_nodup (writers_asc _ _ _))).2 fun x => ?_
  rw [mem_toI, mem_writersI]
  constructor
  ·rintro ⟨i, h1, rfl⟩
   obtain ⟨q1, q2, q3⟩ := (mem_ordX h).1 h1
   refine ⟨i, rfl, q1, ?_, by rw [dnAt_X q1]; exact q2, q3⟩
   obtain ⟨l1, c, _, _, _, _, v, lw, _, _, e3, _⟩ := h.done q1
   rw [e3] at q2
   have := wrO_kind q2
   omega
  ·rintro ⟨i, rfl, q1, _, q2, q3⟩
   rw [dnAt_X q1] at q2
   exact ⟨i, (mem_ordX h).2 ⟨q1, q2, q3⟩, rfl⟩
 ·refine (List.perm_ext_iff_of_nodup (toI_nodup (h.nodup.filter _)) (asc_nodup (fences_asc _))).2 fun x => ?_
  rw [mem_fencesI, mem_toI]
  simp only [List.mem_filter, h.mem]
  constructor
  ·rintro ⟨i, ⟨h1, h2⟩, rfl⟩; exact ⟨i, rfl, h1, h2⟩
  ·rintro ⟨i, rfl, h1, h2⟩; exact ⟨i, ⟨h1, h2⟩, rfl⟩

theorem run_next (h : IsRun p tr) (hp : POk p) : NextOk p (execX p tr) := by
 intro l hl i hi hr
 obtain ⟨k, hk, rfl⟩ : ∃ k : Int, (k = 0 ∨ k = 1 ∨ k = 2) ∧ l = toI (ordX p tr k) := by
  simp only [execX, List.mem_cons, List.not_mem_nil, or_false] at hl
  rcases hl with h | h | h
  ·exact ⟨0, .inl rfl, h⟩
  ·exact ⟨1, .inr (.inl rfl), h⟩
  ·exact ⟨2, .inr (.inr rfl), h⟩
 rw [toI_len] at hi
 rw [numAt_toI hi] at hr ⊢
 rw [Int.toNat_natCast] at hr ⊢
 obtain ⟨q1, q2, q3⟩ := (mem_ordX h).1 (List.getElem_mem hi)
 rw [frmAt_X q1]
 obtain ⟨l1, c, e0, h4, h5, ⟨l2, hl2⟩, v, lw, _, e2, _, _, e5, _⟩ := h.done q1
 rw [e2, hr, if_pos rfl, e5, q3]
 have hasc := ordX_asc h k
 have hsub : l1.filter (wrX p (runX p tr) k) = (ordX p tr k).take i := by
  have hpre : (ordX p tr k) = l1.filter (wrX p (runX p tr) k) ++ l2.filter (wrX p (runX p tr) k) := by
   unfold ordX; rw [← hl2, List.filter_append]
  have hlen : (l1.filter (wrX p (runX p tr) k)).length = i := by
   rw [List.pairwise_iff_getElem] at hasc
   rcases Nat.lt_trichotomy (l1.filter (wrX p (runX p tr) k)).length i with hlt | heq | hgt
   ·exfalso
    have h8 := hasc _ i (by omega) hi hlt
    have hm : (ordX p tr k)[(l1.filter (wrX p (runX p tr) k)).length]'(by omega) ∈ ordX p tr k := List.getElem_mem _
    have h9 := h5 _ ((mem_ordX h).1 hm).1 h8
    have h10 : (ordX p tr k)[(l1.filter (wrX p (runX p tr) k)).length]'(by omega) ∈ l1.filter (wrX p (runX p tr) k) := List.mem_filter.2 ⟨h9, (List.mem_filter.1 hm).2⟩
    obtain ⟨j, hj, ej⟩ := List.getElem_of_mem h10
    have h11 := hasc j _ (by omega) (by omega : (l1.filter (wrX p (runX p tr) k)).length < (ordX p tr k).length) hj
    have : (ordX p tr k)[j]'(by omega) = (l1.filter (wrX p (runX p tr) k))[j] := by simp only [hpre]; rw [List.getElem_append_left hj]
    rw [this, ej] at h11
    exact Nat.lt_irrefl _ h11
   ·exact heq
   ·exfalso
    have hm : (ordX p tr k)[i] ∈ l1 := by
     have : (ordX p tr k)[i] = (l1.filter (wrX p (runX p tr) k))[i] := by simp only [hpre]; rw [List.getElem_append_left hgt]
     rw [this]; exact (List.mem_filter.1 (List.getElem_mem hgt)).1
    exact Nat.lt_irrefl _ (h4 _ hm).1
  rw [hpre, ← hlen, List.take_left']
  rfl
 rw [hsub]
 cases i with
 | zero => rfl
 | succ i =>
  rw [frontAt, numAt_toI (by omega)]
  unfold lastW
  have : ((ordX p tr k).take (i + 1)).getLast? = some ((ordX p tr k)[i]'(by omega)) := by
   rw [List.take_succ_eq_append_getElem (by omega), List.getLast?_concat]
  rw [this]

theorem run_cons (h : IsRun p tr) (hp : POk p) : Cons p (execX p tr) := by
 refine lin_cons (rkX tr) (fun a b h1 h2 h3 => rk_th h h1 h2 h3) ?_ (fun a b k => (run_rf h k).2.1) (fun a b k => (run_rf h k).2.2.1) ?_ ?_ (run_next h hp) ?_
 ·rintro a b ⟨j, hj, e1, e2⟩
  exact co_asc (fenX_asc h) ⟨j, j + 1, by omega, hj, e1, e2⟩
 ·intro l hl a b hc
  simp only [execX, List.mem_cons, List.not_mem_nil, or_false] at hl
  rcases hl with rfl | rfl | rfl
  ·exact co_asc (ordX_asc h 0) hc
  ·exact co_asc (ordX_asc h 1) hc
  ·exact co_asc (ordX_asc h 2) hc
 ·rintro r w ⟨hr, hrd, hne, j, hj, ej, hfr⟩
  have hloc := hp.loc r hr
  have hoe : ordAt p (execX p tr) r = toI (ordX p tr (evAt p r).op.loc) := by
   rw [ordAt, ord_X (by omega)]
   rw [Int.toNat_of_nonneg hloc.1]
  rw [hoe] at hj ej hfr
  rw [toI_len] at hj
  have hw : (ordX p tr (evAt p r).op.loc)[j] = w := by rw [numAt_toI hj] at ej; omega
  have hwm : w ∈ ordX p tr (evAt p r).op.loc := hw ▸ List.getElem_mem hj
  have hwn := ((mem_ordX h).1 hwm).1
  apply Classical.byContradiction
  intro hnl
  have hlt : rkX tr w < rkX tr r := by
   have : rkX tr w ≠ rkX tr r := fun e => hne (rk_inj h hwn hr e)
   omega
  obtain ⟨l1, c, e0, h4, h5, ⟨l2, hl2⟩, v, lw, _, e2, _, _, e5, _⟩ := h.done hr
  have hwl : w ∈ l1.filter (wrX p (runX p tr) (evAt p r).op.loc) := List.mem_filter.2 ⟨h5 w hwn hlt, (List.mem_filter.1 hwm).2⟩
  rw [frmAt_X hr, e2, hrd, if_pos rfl, e5] at hfr
  have hpl : (l1.filter (wrX p (runX p tr) (evAt p r).op.loc)).Pairwise fun a b => rkX tr a < rkX tr b := by
   have := (idx_asc h.nodup)
   rw [← hl2, List.pairwise_append] at this
   have h6 := this.1.filter (wrX p (runX p tr) (evAt p r).op.loc)
   refine h6.imp fun k => ?_
   rw [hl2] at k; exact k
  rcases hfr with k | ⟨i, hij, k⟩
  ·rw [lastW_none] at k; rw [k] at hwl; cases hwl
  ·rw [numAt_toI (by omega)] at k
   have h7 := lastW_max hpl k.symm hwl
   have h8 := List.pairwise_iff_getElem.1 (ordX_asc h (evAt p r).op.loc) i j (by omega) hj hij
   rw [hw] at h8
   omega
 ·intro w hx
  apply Classical.byContradiction
  intro hw
  have : (execX p tr).dn[w]? = none := List.getElem?_eq_none (by simp [execX]; omega)
  simp [exchP, this] at hx

theorem run_words (h : IsRun p tr) (hp : POk p) : Words p (execX p tr).frm (runX p tr).R (runX p tr).W := by
 have hnum : ∀ i, numF (execX p tr).frm i = frmAt (execX p tr) i := fun i => rfl
 refine ⟨?_, ?_, ?_, ?_, ?_, ?_⟩
 ·intro i hi hr
  obtain ⟨l1, c, _, _, _, _, v, lw, e1, _⟩ := h.done hi
  rw [e1, hr]; rfl
 ·intro i hi hr hf
  obtain ⟨l1, c, _, _, _, _, v, lw, e1, e2, _, _, _, e6⟩ := h.done hi
  rw [hnum, frmAt_X hi, e2, hr, if_pos rfl] at hf
  rw [e1, hr, if_pos rfl]
  rcases e6 with e6 | ⟨w, e6, _⟩
  ·exact e6.2
  ·omega
 ·intro i w hi hr hf
  obtain ⟨l1, c, _, _, _, _, v, lw, e1, e2, _, _, _, e6⟩ := h.done hi
  rw [hnum, frmAt_X hi, e2, hr, if_pos rfl] at hf
  rw [e1, hr, if_pos rfl]
  rcases e6 with e6 | ⟨w', e6, e7⟩
  ·omega
  ·have : w' = w := by omega
   rw [e7, this]
 ·intro i hi hk
  obtain ⟨l1, c, _, _, _, _, v, lw, _, _, _, e4, _⟩ := h.done hi
  rw [e4, nwO, if_pos hk]
 ·intro i hi hk
  obtain ⟨l1, c, _, _, _, _, v, lw, e1, _, _, e4, _⟩ := h.done hi
  have hr : (evAt p i).reads = true := by simp [Ev.reads, hk]
  rw [e4, nwO, if_neg (by omega), if_pos hk, e1, hr, if_pos rfl]
 ·intro i hi hk
  obtain ⟨l1, c, _, _, _, _, v, lw, _, _, _, e4, _⟩ := h.done hi
  rw [e4, nwO, if_neg (by omega), if_neg (by omega)]

/-- The words of the execution are those of the run. -/
theorem run_same (h : IsRun p tr) (hp : POk p) {i : Nat} (hi : i < p.length) : (wordsP p (execX p tr).frm).R i = (runX p tr).R i ∧ (1 ≤ (evAt p i).op.kind → (evAt p i).op.kind ≤ 4 → (wordsP p (execX p tr).frm).W i = (runX p tr).W i) := by
 have hs := run_shape h hp
 have hac : RfOk p (execX p tr) := Round.rfOk (run_cons h hp).round
 refine Words.uniq hs.fromOk hs.srcOk hac ?_ (hs.words hac) (run_words h hp) i hi
 intro b hb
 rcases Classical.em (∃ w : Nat, frmAt (execX p tr) b = w) with ⟨w, hw⟩ | hn
 ·have := (run_rf h ⟨hb, hw⟩).2.1
  show frmAt (execX p tr) b < _
  omega
 ·show frmAt (execX p tr) b < _
  apply Classical.byContradiction
  intro hc
  exact hn ⟨(frmAt (execX p tr) b).toNat, by omega⟩

/-- A run of all events is an execution. -/
theorem run_exec (h : IsRun p tr) (hp : POk p) (hm : Mono p) : execX p tr ∈ execsP p := by
 refine (exec_iff hp hm).2 ⟨run_shape h hp, ?_, run_cons h hp⟩
 intro i hi
 have hR := (run_same h hp hi).1
 obtain ⟨l1, c, _, _, _, _, v, lw, e1, _, e3, _⟩ := h.done hi
 constructor
 ·intro hk
  have hr : (evAt p i).reads = true := by simp [Ev.reads, hk]
  rw [hR, dnAt_X hi, e3, e1, hr, if_pos rfl, wrO, if_neg (by omega), if_pos hk, decide_eq_true_eq]
 ·intro hk hd
  have hr : (evAt p i).reads = true := by simp [Ev.reads, hk]
  rw [dnAt_X hi, e3, wrO, if_neg (by omega), if_neg (by omega), if_pos hk] at hd
  simp only [Bool.and_eq_true, decide_eq_true_eq] at hd
  rw [hR, e1, hr, if_pos rfl]; exact hd.1

end Go.EV

namespace Go.EV
open Go.Proofs

variable {p : List Ev} {tr : List (Nat × Bool)}

/-- What the events of a list read. -/
def rdsX (p : List Ev) (s : Sx) (l : List Nat) : List Int := l.flatMap fun i => if (evAt p i).reads then [s.R i] else []

theorem outReads_flat (w : Wd) : ∀ n, outReads p w n = (List.range n).flatMap fun i => if (evAt p i).reads then [w.R i] else []
 | 0 => rfl
 | n + 1 => by rw [outReads, outReads_flat w n, List.range_succ, List.flatMap_append]; simp [Wd.R]

theorem flatMap_congrX {α β : Type} {l : List α} {f g : α → List β} (h : ∀ x ∈ l, f x = g x) : l.flatMap f = l.flatMap g := by
 induction l with
 | nil => rfl
 | cons a t ih => rw [List.flatMap_cons, List.flatMap_cons, h a (by simp), ih fun x hx => h x (by simp [hx])]

theorem run_lastOf (h : IsRun p tr) (hp : POk p) {k : Int} (hk : 0 ≤ k ∧ k < 3) : lastOf (wordsP p (execX p tr).frm) (toI (ordX p tr k)) = (runX p tr).wd k := by
 obtain ⟨q1, q2⟩ := runX_last (p := p) h.nodup k
 rw [show (List.map Prod.fst tr).filter (wrX p (runX p tr) k) = ordX p tr k from rfl] at q1
 rw [lastOf, toI_len]
 by_cases h0 : (ordX p tr k).length = 0
 ·rw [if_pos h0]
  rw [List.length_eq_zero_iff.1 h0] at q1
  rcases q2 with ⟨_, q2⟩ | ⟨w, q2, _⟩
  ·exact q2.symm
  ·rw [q1] at q2; simp [lastW] at q2
 ·rw [if_neg h0]
  rw [numAt_toI (by omega), Int.toNat_natCast]
  have hg : lastW (ordX p tr k) = ((ordX p tr k)[(ordX p tr k).length - 1]'(by omega) : Nat) := by
   unfold lastW
   rw [List.getLast?_eq_getElem?, List.getElem?_eq_getElem (by omega)]
  have hm := (mem_ordX h).1 (List.getElem_mem (l := ordX p tr k) (n := (ordX p tr k).length - 1) (by omega))
  generalize (ordX p tr k)[(ordX p tr k).length - 1]'(by omega) = i at *
  rw [hg] at q1
  rcases q2 with ⟨q2, _⟩ | ⟨w, q2, q3⟩
  ·omega
  ·have : w = i := by omega
   subst this
   obtain ⟨l1, c, _, _, _, _, v, lw, _, _, e3, _⟩ := h.done hm.1
   have hd := hm.2.1
   rw [e3] at hd
   obtain ⟨k1, k4⟩ := wrO_kind hd
   rw [q3, ← (run_same h hp hm.1).2 k1 k4]
   rfl

theorem run_outcome (h : IsRun p tr) (hp : POk p) : outcomeP p (execX p tr) = rdsX p (runX p tr) (List.range p.length) ++ [(runX p tr).wd 0, (runX p tr).wd 1, (runX p tr).wd 2] := by
 rw [outcomeP, outReads_flat]
 congr 1
 ·apply flatMap_congrX
  intro i hi
  rw [(run_same h hp (List.mem_range.1 hi)).1]
 ·simp only [execX, List.map_cons, List.map_nil]
  rw [← run_lastOf h hp (k := 0) (by decide), ← run_lastOf h hp (k := 1) (by decide), ← run_lastOf h hp (k := 2) (by decide)]
  rfl

theorem run_out (h : IsRun p tr) (hp : POk p) (hm : Mono p) : IsOut p (rdsX p (runX p tr) (List.range p.length) ++ [(runX p tr).wd 0, (runX p tr).wd 1, (runX p tr).wd 2]) :=
 ⟨_, run_exec h hp hm, run_outcome h hp⟩

end Go.EV

namespace Go.EV
open Go.Proofs

variable {p : List Ev} {e : Exec} {T : List Nat}

/-- Events in an order, what is written as an execution says. -/
def trE (e : Exec) (T : List Nat) : List (Nat × Bool) := T.map fun i => (i, dnAt e.dn i)
theorem trE_fst : (trE e T).map Prod.fst = T := by
 rw [trE, List.map_map]
 exact List.map_id _
theorem trE_mem {i : Nat} {c : Bool} (h : (i, c) ∈ trE e T) : c = dnAt e.dn i := by
 obtain ⟨j, _, hj⟩ := List.mem_map.1 h
 cases hj; rfl

/-- All that an execution says goes up in an order. -/
structure Goes (p : List Ev) (e : Exec) (T : List Nat) : Prop where
 perm : T.Perm (List.range p.length)
 keep : T.Pairwise fun a b => (evAt p a).th = (evAt p b).th → a < b
 rf : ∀ a b, Rf e p.length a b → T.idxOf a < T.idxOf b
 co : ∀ l ∈ e.ord, ∀ a b, Co1 l a b → T.idxOf a < T.idxOf b
 fr : ∀ a b, Fr1 p e a b → T.idxOf a < T.idxOf b

theorem Goes.run (h : Goes p e T) : IsRun p (trE e T) := ⟨by rw [trE_fst]; exact h.perm, by rw [trE_fst]; exact h.keep⟩
theorem rk_trE {i : Nat} : rkX (trE e T) i = T.idxOf i := by rw [rkX, trE_fst]

theorem perm_asc_eq {α : Type} {f : α → Nat} : ∀ {l m : List α}, l.Perm m → l.Pairwise (fun a b => f a < f b) → m.Pairwise (fun a b => f a < f b) → l = m
 | [], m, h, _, _ => (List.nil_perm.1 h).symm
 | a :: l, [], h, _, _ => absurd h.length_eq (by simp)
 | a :: l, b :: m, h, h1, h2 => by
  have h1' := List.pairwise_cons.1 h1
  have h2' := List.pairwise_cons.1 h2
  have hab : a = b := by
   have ha : a ∈ b :: m := h.mem_iff.1 (List.mem_cons_self ..)
   have hb : b ∈ a :: l := h.mem_iff.2 (List.mem_cons_self ..)
   rcases List.mem_cons.1 ha with ha | ha
   ·exact ha
   ·rcases List.mem_cons.1 hb with hb | hb
    ·exact hb.symm
    ·have := h1'.1 b hb
     have := h2'.1 a ha
     omega
  subst hab
  rw [perm_asc_eq h.cons_inv h1'.2 h2'.2]

/-- A writer has its place in the order of its location. -/
theorem Shape.place (hs : Shape p e) (hp : POk p) {i w : Nat} (hi : i < p.length) (hw : w < p.length) (hd : dnAt e.dn w = true) (hl : (evAt p w).op.loc = (evAt p i).op.loc) : ∃ j, j < (ordAt p e i).length ∧ numAt (ordAt p e i) j = w := by
 have hloc := hp.loc i hi
 have hk := hs.dn0 w hw hd
 have hm : (w : Int) ∈ writersI p e.dn ((evAt p i).op.loc.toNat : Nat) := mem_writersI.2 ⟨w, rfl, hw, by omega, hd, by rw [hl, Int.toNat_of_nonneg hloc.1]⟩
 have h2 := ((hs.ord (evAt p i).op.loc.toNat (by omega)).mem_iff).2 hm
 obtain ⟨j, h3, h4⟩ := mem_numAt.1 h2
 exact ⟨j, h3, h4⟩

theorem ordAt_mem (hs : Shape p e) (hp : POk p) {i : Nat} (hi : i < p.length) : ordAt p e i ∈ e.ord := by
 have hloc := hp.loc i hi
 have hk : (evAt p i).op.loc.toNat < e.ord.length := by rw [hs.ol]; omega
 rw [ordAt, List.getElem?_eq_getElem hk]
 exact List.getElem_mem hk

theorem lastW_some {l : List Nat} (h : l ≠ []) : ∃ u : Nat, lastW l = u ∧ u ∈ l := by
 rcases lastW_cases l with k | ⟨u, k⟩
 ·exact absurd (lastW_none.1 k) h
 ·exact ⟨u, k, lastW_mem k⟩

/-- Event by event the run does what the execution says. -/
theorem Goes.same (h : Goes p e T) (hp : POk p) (hs : Shape p e) (hwd : Worded p e) (hac : RfOk p e) : ∀ (n i : Nat), T.idxOf i = n → i < p.length →
  (runX p (trE e T)).frm i = frmAt e i ∧ (runX p (trE e T)).dn i = dnAt e.dn i ∧ (runX p (trE e T)).R i = (wordsP p e.frm).R i ∧ (1 ≤ (evAt p i).op.kind → (evAt p i).op.kind ≤ 4 → (runX p (trE e T)).W i = (wordsP p e.frm).W i) := by
 have hw := hs.words hac
 intro n
 induction n using Nat.strongRecOn with
 | _ n ih =>
 intro i hn hi
 have ihj : ∀ j, j < p.length → T.idxOf j < T.idxOf i → _ := fun j hj hlt => ih (T.idxOf j) (by omega) j rfl hj
 obtain ⟨l1, c, hic, e0, h4, h5, hpre, v, lw, e1, e2, e3, e4, e5, e6⟩ := h.run.doneC hi
 simp only [rk_trE] at e0 h4 h5
 have hc := trE_mem hic
 subst hc
 have hflt : l1.filter (wrX p (runX p (trE e T)) (evAt p i).op.loc) = l1.filter (fun j => dnAt e.dn j && decide ((evAt p j).op.loc = (evAt p i).op.loc)) := by
  apply List.filter_congr
  intro j hj
  obtain ⟨q1, q2⟩ := h4 j hj
  rw [wrX, (ihj j q2 q1).2.1]
 have hpl : (l1.filter (wrX p (runX p (trE e T)) (evAt p i).op.loc)).Pairwise fun a b => T.idxOf a < T.idxOf b := by
  have h6 := idx_asc h.run.nodup
  obtain ⟨l2, hl2⟩ := hpre
  rw [← hl2, List.pairwise_append] at h6
  refine (h6.1.filter _).imp fun k => ?_
  rw [hl2, trE_fst] at k; exact k
 rw [hflt] at e5 hpl
 have hin : ∀ j, j ∈ l1.filter (fun j => dnAt e.dn j && decide ((evAt p j).op.loc = (evAt p i).op.loc)) ↔ j < p.length ∧ T.idxOf j < T.idxOf i ∧ dnAt e.dn j = true ∧ (evAt p j).op.loc = (evAt p i).op.loc := by
  intro j
  simp only [List.mem_filter, Bool.and_eq_true, decide_eq_true_eq]
  exact ⟨fun ⟨a, b, c⟩ => ⟨(h4 j a).2, (h4 j a).1, b, c⟩, fun ⟨a, b, c, d⟩ => ⟨h5 j a b, c, d⟩⟩
 generalize l1.filter (fun j => dnAt e.dn j && decide ((evAt p j).op.loc = (evAt p i).op.loc)) = L at e5 hpl hin
 have hfrm : (evAt p i).reads = true → lw = frmAt e i := by
  intro hr
  rcases hs.src i hi hr with k | ⟨w, k, k2, k3, k4⟩
  ·rw [k, e5, lastW_none]
   apply Classical.byContradiction
   intro hne
   obtain ⟨u, _, hu⟩ := lastW_some hne
   obtain ⟨u1, u2, u3, u4⟩ := (hin u).1 hu
   obtain ⟨j, j1, j2⟩ := hs.place hp hi u1 u3 u4
   have := h.fr i u ⟨hi, hr, fun e9 => by subst e9; omega, j, j1, j2, .inl k⟩
   omega
  ·have hrf := h.rf w i ⟨hi, k⟩
   have hwL : w ∈ L := (hin w).2 ⟨k2, hrf, k3, k4⟩
   obtain ⟨u, hu1, hu⟩ := lastW_some (l := L) (fun e9 => by rw [e9] at hwL; cases hwL)
   have hmax := lastW_max hpl hu1 hwL
   obtain ⟨u1, u2, u3, u4⟩ := (hin u).1 hu
   obtain ⟨j, j1, j2⟩ := hs.place hp hi u1 u3 u4
   obtain ⟨m, m1, m2⟩ := hs.place hp hi k2 k3 k4
   rw [e5, hu1, k]
   rcases Nat.lt_trichotomy j m with q | q | q
   ·have := h.co _ (ordAt_mem hs hp hi) u w ⟨j, m, q, m1, j2, m2⟩
    omega
   ·subst q; omega
   ·have := h.fr i u ⟨hi, hr, fun e9 => by subst e9; omega, j, j1, j2, .inr ⟨m, q, by rw [m2, k]⟩⟩
    omega
 have hv : (evAt p i).reads = true → v = (wordsP p e.frm).R i := by
  intro hr
  have hf := hfrm hr
  rcases e6 with ⟨q1, q2⟩ | ⟨w, q1, q2⟩
  ·rw [q2]; exact (hw.init i hi hr (show frmAt e i = -1 by omega)).symm
  ·have hfw : frmAt e i = w := by omega
   rcases hs.src i hi hr with k | ⟨w', k, k2, k3, k4⟩
   ·omega
   ·have : w' = w := by omega
    subst this
    have hk := hs.dn0 w' k2 k3
    rw [q2, (ihj w' k2 (h.rf w' i ⟨hi, k⟩)).2.2.2 hk.1 hk.2]
    exact (hw.from_ i w' hi hr hfw).symm
 have hreads : (evAt p i).op.kind ≠ 1 → (evAt p i).op.kind ≠ 5 → (evAt p i).reads = true := fun a b => by simp [Ev.reads, a, b]
 refine ⟨?_, ?_, ?_, ?_⟩
 ·rw [e2]
  cases hr : (evAt p i).reads with
  | true => rw [if_pos rfl]; exact hfrm hr
  | false => rw [if_neg (by decide)]; exact (hs.out i hi hr).symm
 ·rw [e3]
  unfold wrO
  split
  ·rename_i k; exact (hs.dn1 i hi k).symm
  ·split
   ·rename_i k1 k
    rw [hv (hreads (by omega) (by omega))]
    have := (hwd i hi).1 k
    cases hd : dnAt e.dn i with
    | true => exact decide_eq_true (this.1 hd)
    | false => exact decide_eq_false fun hh => by have := this.2 hh; rw [hd] at this; cases this
   ·split
    ·rename_i k1 k3 k
     rw [hv (hreads (by omega) (by omega))]
     cases hd : dnAt e.dn i with
     | true => rw [decide_eq_true ((hwd i hi).2 k hd)]; rfl
     | false => simp
    ·rename_i k1 k3 k4
     cases hd : dnAt e.dn i with
     | true => have := hs.dn0 i hi hd; omega
     | false => rfl
 ·rw [e1]
  cases hr : (evAt p i).reads with
  | true => rw [if_pos rfl]; exact hv hr
  | false => rw [if_neg (by decide)]; exact (hw.out i hi hr).symm
 ·intro k1 k4
  rw [e4]
  unfold nwO
  split
  ·rename_i k; exact (hw.store i hi k).symm
  ·split
   ·rename_i k9 k; rw [hv (hreads (by omega) (by omega))]; exact (hw.add i hi k).symm
   ·rename_i k8 k9; exact (hw.cas i hi (by omega)).symm

end Go.EV

namespace Go.EV
open Go.Proofs

/-- The second operation is the first one, but for an order that is at least as strong. -/
structure StrO (o o' : OpV) : Prop where
 ok : okOp o = true
 ok' : okOp o' = true
 kind : o'.kind = o.kind
 loc : o'.loc = o.loc
 v : o'.v = o.v
 w : o'.w = o.w
 ord : aboveP o'.ord o.ord = true

theorem okOp_ord {o : OpV} (h : okOp o = true) : (0 ≤ o.kind ∧ o.kind < 6) ∧ (0 ≤ o.ord ∧ o.ord < 5) ∧ mayP o.kind o.ord = true := by
 obtain ⟨q1, q2, _⟩ := (okOp_iff o).1 h
 unfold mayR isOrderP at q1
 simp only [Bool.and_eq_true, decide_eq_true_eq] at q1
 exact ⟨q1.1, q1.2, q2⟩

/-- What an event keeps of another one. -/
structure EvLe (a b : Ev) : Prop where
 th : b.th = a.th
 kind : b.op.kind = a.op.kind
 loc : b.op.loc = a.op.loc
 v : b.op.v = a.op.v
 w : b.op.w = a.op.w
 rel : a.rel = true → b.rel = true
 acq : a.acq = true → b.acq = true
 strong : a.strong = true → b.strong = true
theorem EvLe.refl (a : Ev) : EvLe a a := ⟨rfl, rfl, rfl, rfl, rfl, id, id, id⟩

/-- Threads' operations, each with the stronger one. -/
abbrev Prs := List (Int × OpV × OpV)
def evX (t : Int) (o : OpV) : List Ev := (expOp o).map fun e => ⟨e, t⟩
def cat1 (l : Prs) : List Ev := l.flatMap fun x => evX x.1 x.2.1
def cat2 (l : Prs) : List Ev := l.flatMap fun x => evX x.1 x.2.2
theorem evX_len (t : Int) (o : OpV) : (evX t o).length = (expOp o).length := by simp [evX]
theorem expOp_two (o : OpV) : (expOp o).length = 1 ∧ (accessP o = false ∨ o.ord ≠ 4) ∧ expOp o = [o] ∨ (expOp o).length = 3 ∧ accessP o = true ∧ o.ord = 4 ∧ expOp o = [sfence, { o with ord := plainP o.kind o.ord }, sfence] := by
 by_cases h : accessP o = false ∨ o.ord ≠ 4
 ·left; unfold expOp; rw [if_pos h]; exact ⟨rfl, h, rfl⟩
 ·right
  have h1 : accessP o = true := by
   cases ha : accessP o with
   | true => rfl
   | false => exact absurd (.inl ha) h
  have h2 : o.ord = 4 := by
   apply Classical.byContradiction; intro hn; exact h (.inr hn)
  unfold expOp; rw [if_neg h]; exact ⟨rfl, h1, h2, rfl⟩

def ι1 (o o' : OpV) (a : Nat) : Nat := if (expOp o).length = (expOp o').length then a else 1
def j1 (o o' : OpV) (b : Nat) : Nat := if (expOp o).length = (expOp o').length then b else 0
def ιL : Prs → Nat → Nat
 | [], a => a
 | x :: l, a => if a < (expOp x.2.1).length then ι1 x.2.1 x.2.2 a else (expOp x.2.2).length + ιL l (a - (expOp x.2.1).length)
def jL : Prs → Nat → Nat
 | [], b => b
 | x :: l, b => if b < (expOp x.2.2).length then j1 x.2.1 x.2.2 b else (expOp x.2.1).length + jL l (b - (expOp x.2.2).length)

/-- One operation. -/
theorem str_one {o o' : OpV} (h : StrO o o') (t : Int) : (∀ a, a < (expOp o).length → ι1 o o' a < (expOp o').length ∧ j1 o o' (ι1 o o' a) = a ∧ EvLe (evAt (evX t o) a) (evAt (evX t o') (ι1 o o' a))) ∧
  (∀ a b, a < b → b < (expOp o).length → ι1 o o' a < ι1 o o' b) ∧ ∀ b, b < (expOp o').length → (evAt (evX t o') b).op.kind ≠ 5 → j1 o o' b < (expOp o).length ∧ ι1 o o' (j1 o o' b) = b := by
 obtain ⟨k1, k2, k3⟩ := okOp_ord h.ok
 obtain ⟨k1', k2', k3'⟩ := okOp_ord h.ok'
 have hk := h.kind
 have ho := h.ord
 unfold aboveP at ho
 simp only [Bool.or_eq_true, Bool.and_eq_true, decide_eq_true_eq] at ho
 have hacc : accessP o' = accessP o := by unfold accessP; rw [hk]
 rcases expOp_two o with ⟨l1, c1, e1⟩ | ⟨l1, c1, d1, e1⟩
 ·rcases expOp_two o' with ⟨l2, c2, e2⟩ | ⟨l2, c2, d2, e2⟩
  · -- one and one
   have hl : (expOp o).length = (expOp o').length := by rw [l1, l2]
   refine ⟨fun a ha => ?_, fun a b hab hb => by omega, fun b hb _ => ?_⟩
   ·have ha0 : a = 0 := by omega
    subst ha0
    simp only [ι1, j1, if_pos hl]
    refine ⟨by omega, trivial, ?_⟩
    simp only [evX, e1, e2, evAt, List.map_cons, List.map_nil, List.getElem?_cons_zero, Option.getD_some]
    refine ⟨rfl, hk, h.loc, h.v, h.w, fun q => ?_, fun q => ?_, fun q => ?_⟩
    ·simp only [Ev.rel, relP, Bool.or_eq_true, decide_eq_true_eq] at q ⊢; omega
    ·simp only [Ev.acq, acqP, Bool.or_eq_true, decide_eq_true_eq] at q ⊢; omega
    ·simp only [Ev.strong, Bool.and_eq_true, decide_eq_true_eq] at q ⊢; omega
   ·simp only [ι1, j1, if_pos hl]; exact ⟨hl ▸ hb, trivial⟩
  · -- an access that has become strong
   have hl : ¬ (expOp o).length = (expOp o').length := by rw [l1, l2]; omega
   have hna : accessP o = true := hacc ▸ c2
   have ho4 : o.ord ≠ 4 := by
    rcases c1 with c | c
    ·rw [hna] at c; cases c
    ·exact c
   refine ⟨fun a ha => ?_, fun a b hab hb => by omega, fun b hb hb5 => ?_⟩
   ·have ha0 : a = 0 := by omega
    subst ha0
    simp only [ι1, j1, if_neg hl]
    refine ⟨by omega, trivial, ?_⟩
    simp only [evX, e1, e2, evAt, List.map_cons, List.map_nil, List.getElem?_cons_zero, List.getElem?_cons_succ, Option.getD_some]
    have hpl : plainP o'.kind o'.ord = if o.kind = 0 then 1 else if o.kind = 1 then 2 else 3 := by rw [d2, hk]; rfl
    have hm := k3
    unfold mayP at hm
    refine ⟨rfl, hk, h.loc, h.v, h.w, fun q => ?_, fun q => ?_, fun q => ?_⟩
    ·simp only [Ev.rel, relP, Bool.or_eq_true, decide_eq_true_eq, hpl] at q ⊢
     by_cases h0 : o.kind = 0
     ·rw [if_pos h0] at hm
      simp only [Bool.and_eq_true, Bool.not_eq_true', decide_eq_false_iff_not] at hm
      omega
     ·rw [if_neg h0]
      split <;> omega
    ·simp only [Ev.acq, acqP, Bool.or_eq_true, decide_eq_true_eq, hpl] at q ⊢
     by_cases h0 : o.kind = 0
     ·rw [if_pos h0]; omega
     ·rw [if_neg h0] at hm ⊢
      by_cases h1 : o.kind = 1
      ·rw [if_pos h1] at hm
       simp only [Bool.and_eq_true, Bool.not_eq_true', decide_eq_false_iff_not] at hm
       omega
      ·rw [if_neg h1]; omega
    ·simp only [Ev.strong, Bool.and_eq_true, decide_eq_true_eq] at q
     omega
   ·simp only [ι1, j1, if_neg hl]
    refine ⟨by omega, ?_⟩
    match b, hb5 with
    | 0, hb5 => exact absurd (by simp [evX, e2, evAt, sfence]) hb5
    | 1, _ => rfl
    | 2, hb5 => exact absurd (by simp [evX, e2, evAt, sfence]) hb5
    | b + 3, _ => omega
 · -- strong as before
  have ho4 : o'.ord = 4 := by omega
  have he : o' = o := by
   cases o; cases o'
   obtain ⟨_, _, a, b, c, d, _⟩ := h
   simp only at a b c d d1 ho4
   subst a b c d d1 ho4
   rfl
  subst he
  refine ⟨fun a ha => ?_, fun a b hab hb => ?_, fun b hb _ => ?_⟩
  ·simp only [ι1, j1, if_true]; exact ⟨ha, trivial, EvLe.refl _⟩
  ·simp only [ι1, if_true]; exact hab
  ·simp only [ι1, j1, if_true]; exact ⟨hb, trivial⟩

theorem evAt_left {A B : List Ev} {i : Nat} (h : i < A.length) : evAt (A ++ B) i = evAt A i := by
 rw [evAt, List.getElem?_append_left h]; rfl
theorem evAt_right {A B : List Ev} {i : Nat} (h : A.length ≤ i) : evAt (A ++ B) i = evAt B (i - A.length) := by
 rw [evAt, List.getElem?_append_right h]; rfl

theorem str_all : ∀ {l : Prs}, (∀ x ∈ l, StrO x.2.1 x.2.2) → (∀ a, a < (cat1 l).length → ιL l a < (cat2 l).length ∧ jL l (ιL l a) = a ∧ EvLe (evAt (cat1 l) a) (evAt (cat2 l) (ιL l a))) ∧
  (∀ a b, a < b → b < (cat1 l).length → ιL l a < ιL l b) ∧ ∀ b, b < (cat2 l).length → (evAt (cat2 l) b).op.kind ≠ 5 → jL l b < (cat1 l).length ∧ ιL l (jL l b) = b
 | [], _ => ⟨fun a ha => absurd ha (Nat.not_lt_zero _), fun a b _ hb => absurd hb (Nat.not_lt_zero _), fun b hb => absurd hb (Nat.not_lt_zero _)⟩
 | x :: l, h => by
  obtain ⟨i1, i2, i3⟩ := str_all (l := l) fun y hy => h y (List.mem_cons_of_mem _ hy)
  obtain ⟨o1, o2, o3⟩ := str_one (h x (List.mem_cons_self ..)) x.1
  have c1 : cat1 (x :: l) = evX x.1 x.2.1 ++ cat1 l := by simp [cat1]
  have c2 : cat2 (x :: l) = evX x.1 x.2.2 ++ cat2 l := by simp [cat2]
  have n1 := evX_len x.1 x.2.1
  have n2 := evX_len x.1 x.2.2
  have L1 : (cat1 (x :: l)).length = (expOp x.2.1).length + (cat1 l).length := by rw [c1, List.length_append, n1]
  have L2 : (cat2 (x :: l)).length = (expOp x.2.2).length + (cat2 l).length := by rw [c2, List.length_append, n2]
  refine ⟨fun a ha => ?_, fun a b hab hb => ?_, fun b hb hb5 => ?_⟩
  ·rw [L1] at ha
   rw [L2]
   by_cases hlt : a < (expOp x.2.1).length
   ·obtain ⟨q1, q2, q3⟩ := o1 a hlt
    simp only [ιL, if_pos hlt]
    refine ⟨by omega, ?_, ?_⟩
    ·simp only [jL, if_pos q1]; exact q2
    ·rw [c1, c2, evAt_left (by omega), evAt_left (by omega)]; exact q3
   ·obtain ⟨q1, q2, q3⟩ := i1 (a - (expOp x.2.1).length) (by omega)
    simp only [ιL, if_neg hlt]
    refine ⟨by omega, ?_, ?_⟩
    ·simp only [jL]
     rw [if_neg (by omega), Nat.add_sub_cancel_left, q2]; omega
    ·rw [c1, c2, evAt_right (by omega), evAt_right (by omega), n1, n2, Nat.add_sub_cancel_left]; exact q3
  ·rw [L1] at hb
   simp only [ιL]
   by_cases hlb : b < (expOp x.2.1).length
   ·rw [if_pos (by omega), if_pos hlb]; exact o2 a b hab hlb
   ·rw [if_neg hlb]
    by_cases hla : a < (expOp x.2.1).length
    ·rw [if_pos hla]
     have := (o1 a hla).1; omega
    ·rw [if_neg hla]
     have := i2 (a - (expOp x.2.1).length) (b - (expOp x.2.1).length) (by omega) (by omega)
     omega
  ·rw [L2] at hb
   rw [L1]
   by_cases hlt : b < (expOp x.2.2).length
   ·rw [c2, evAt_left (by omega)] at hb5
    obtain ⟨q1, q2⟩ := o3 b hlt hb5
    simp only [jL, if_pos hlt]
    refine ⟨by omega, ?_⟩
    simp only [ιL, if_pos q1]; exact q2
   ·rw [c2, evAt_right (by omega), n2] at hb5
    obtain ⟨q1, q2⟩ := i3 (b - (expOp x.2.2).length) (by omega) hb5
    simp only [jL, if_neg hlt]
    refine ⟨by omega, ?_⟩
    simp only [ιL]
    rw [if_neg (by omega), Nat.add_sub_cancel_left, q2]; omega

theorem str_emb {l : Prs} (h : ∀ x ∈ l, StrO x.2.1 x.2.2) : Emb (cat1 l) (cat2 l) (ιL l) (jL l) id := by
 obtain ⟨i1, i2, i3⟩ := str_all h
 exact ⟨fun a ha => (i1 a ha).1, fun a ha => (i1 a ha).2.1, fun b hb h5 => i3 b hb h5, fun a b hab hb ht => ⟨i2 a b hab hb, by rw [(i1 a (by omega)).2.2.th, (i1 b hb).2.2.th, ht]⟩,
  fun a ha => (i1 a ha).2.2.kind, fun a ha => (i1 a ha).2.2.v, fun a ha => (i1 a ha).2.2.w, fun a ha _ => (i1 a ha).2.2.loc, fun a ha => (i1 a ha).2.2.rel, fun a ha => (i1 a ha).2.2.acq, fun a ha => (i1 a ha).2.2.strong,
  fun k h0 h3 => ⟨h0, h3⟩, fun k k' _ _ _ _ e => e⟩

theorem filter_asc (n : Nat) (f : Nat → Bool) : ((List.range n).filter f).Pairwise (fun a b => id a < id b) := List.pairwise_lt_range.filter _

/-- The outcomes of the stronger program are some of the other one's. -/
theorem str_out {l : Prs} (h : ∀ x ∈ l, StrO x.2.1 x.2.2) (hp : POk (cat1 l)) (hq : POk (cat2 l)) (hmp : Mono (cat1 l)) (hmq : Mono (cat2 l)) {x : List Int} (hx : IsOut (cat2 l) x) : IsOut (cat1 l) x := by
 have H := str_emb h
 obtain ⟨i1, i2, i3⟩ := str_all h
 obtain ⟨e, he, rfl⟩ := hx
 obtain ⟨hs, _, hc⟩ := (exec_iff hq hmq).1 he
 have hac := Round.rfOk hc.round
 refine ⟨_, pull_exec H hp hq hmq hs hmp he, ?_⟩
 rw [pull_outcome H hp hs hac, outcomeP, outReads_eq]
 congr 1
 ·have hfl : ((List.range (cat2 l).length).filter fun i => (evAt (cat2 l) i).reads) = ((List.range (cat1 l).length).filter fun i => (evAt (cat1 l) i).reads).map (ιL l) := by
   have hp2 : (((List.range (cat1 l).length).filter fun i => (evAt (cat1 l) i).reads).map (ιL l)).Pairwise (fun a b => id a < id b) := by
    rw [List.pairwise_map]
    refine List.Pairwise.imp_of_mem ?_ (filter_asc _ _)
    intro a b ha hb hab
    have hb2 := (List.mem_filter.1 hb).1
    rw [List.mem_range] at hb2
    exact i2 a b hab hb2
   have hnd : ∀ {m : List Nat}, m.Pairwise (fun a b => id a < id b) → m.Nodup := fun hm => hm.imp fun hab e => by subst e; exact Nat.lt_irrefl _ hab
   refine perm_asc_eq (f := id) ?_ (filter_asc _ _) hp2
   refine (List.perm_ext_iff_of_nodup (hnd (filter_asc _ _)) (hnd hp2)).2 fun b => ?_
   rw [List.mem_filter, List.mem_map, List.mem_range]
   constructor
   ·rintro ⟨h1, h2⟩
    have h5 : (evAt (cat2 l) b).op.kind ≠ 5 := by
     simp only [Ev.reads, Bool.and_eq_true, decide_eq_true_eq] at h2; exact h2.2
    obtain ⟨q1, q2⟩ := i3 b h1 h5
    refine ⟨jL l b, List.mem_filter.2 ⟨List.mem_range.2 q1, ?_⟩, q2⟩
    have := (i1 _ q1).2.2.kind
    rw [q2] at this
    simp only [Ev.reads, ← this]; exact h2
   ·rintro ⟨a, ha, rfl⟩
    obtain ⟨h1, h2⟩ := List.mem_filter.1 ha
    rw [List.mem_range] at h1
    refine ⟨(i1 a h1).1, ?_⟩
    have := (i1 a h1).2.2.kind
    simp only [Ev.reads, this]; exact h2
  rw [hfl, List.map_map]; rfl
 ·have hol := hs.ol
  match e.ord, hol with
  | [a, b, c], _ => rfl

/-- Programs, thread by thread. -/
def zipT : Nat → List (List OpV) → List (List OpV) → Prs
 | n, a :: ts, b :: us => (a.zip b).map (fun x => ((n : Int), x.1, x.2)) ++ zipT (n + 1) ts us
 | _, _, _ => []
inductive F2 {α β : Type} (R : α → β → Prop) : List α → List β → Prop
 | nil : F2 R [] []
 | cons {a : α} {b : β} {l : List α} {m : List β} (h : R a b) (t : F2 R l m) : F2 R (a :: l) (b :: m)
/-- Each operation is as strong, or stronger. -/
def StrT (ts us : List (List OpV)) : Prop := F2 (F2 StrO) ts us

theorem zip_cat (n : Int) : ∀ {a b : List OpV}, a.length = b.length → cat1 ((a.zip b).map fun x => (n, x.1, x.2)) = (expT a).map (fun o => ⟨o, n⟩) ∧ cat2 ((a.zip b).map fun x => (n, x.1, x.2)) = (expT b).map (fun o => ⟨o, n⟩)
 | [], [], _ => ⟨rfl, rfl⟩
 | x :: a, y :: b, h => by
  obtain ⟨h1, h2⟩ := zip_cat n (a := a) (b := b) (by simpa using h)
  constructor
  ·simp only [cat1, List.zip_cons_cons, List.map_cons, List.flatMap_cons] at h1 ⊢
   rw [h1]; simp [expT, evX]
  ·simp only [cat2, List.zip_cons_cons, List.map_cons, List.flatMap_cons] at h2 ⊢
   rw [h2]; simp [expT, evX]

theorem f2_len {α β : Type} {R : α → β → Prop} {a : List α} {b : List β} (h : F2 R a b) : a.length = b.length := by
 induction h with
 | nil => rfl
 | cons _ _ ih => simp [ih]

theorem zipT_cat : ∀ {ts us : List (List OpV)} (n : Nat), StrT ts us → cat1 (zipT n ts us) = evsGo n (ts.map expT) ∧ cat2 (zipT n ts us) = evsGo n (us.map expT)
 | _, _, _, .nil => ⟨rfl, rfl⟩
 | _, _, n, .cons h t => by
  obtain ⟨h1, h2⟩ := zipT_cat (n + 1) t
  obtain ⟨k1, k2⟩ := zip_cat (n : Int) (f2_len h)
  constructor
  ·simp only [zipT, cat1, List.flatMap_append, List.map_cons, evsGo] at h1 k1 ⊢
   rw [h1, k1]
  ·simp only [zipT, cat2, List.flatMap_append, List.map_cons, evsGo] at h2 k2 ⊢
   rw [h2, k2]

theorem zip_str (n : Int) : ∀ {a b : List OpV}, F2 StrO a b → ∀ x ∈ (a.zip b).map fun x => (n, x.1, x.2), StrO x.2.1 x.2.2
 | _, _, .nil, x, hx => by simp at hx
 | _, _, .cons h t, x, hx => by
  simp only [List.zip_cons_cons, List.map_cons, List.mem_cons] at hx
  rcases hx with rfl | hx
  ·exact h
  ·exact zip_str n t x hx
theorem zipT_str : ∀ {ts us : List (List OpV)} (n : Nat), StrT ts us → ∀ x ∈ zipT n ts us, StrO x.2.1 x.2.2
 | _, _, _, .nil, x, hx => by simp [zipT] at hx
 | _, _, n, .cons h t, x, hx => by
  rw [zipT, List.mem_append] at hx
  rcases hx with hx | hx
  ·exact zip_str n h x hx
  ·exact zipT_str (n + 1) t x hx

/-- With orders that are at least as strong there are no more outcomes. -/
theorem stronger_out {ts us : List (List OpV)} (h : StrT ts us) (hc : checkP ts = 0) (hc' : checkP us = 0) {x : List Int} (hx : IsOut (evsOf us) x) : IsOut (evsOf ts) x := by
 obtain ⟨h1, h2⟩ := zipT_cat 0 h
 have h1' : cat1 (zipT 0 ts us) = evsOf ts := h1
 have h2' : cat2 (zipT 0 ts us) = evsOf us := h2
 have := str_out (l := zipT 0 ts us) (x := x) (zipT_str 0 h) (h1' ▸ evs_pok hc) (h2' ▸ evs_pok hc') (h1' ▸ evs_mono ts) (h2' ▸ evs_mono us) (h2' ▸ hx)
 exact h1' ▸ this

end Go.EV

namespace Go.EV
open Go.Proofs

/-- Where the events of threads lie. -/
structure Lay (p : List Ev) (q : List (List OpV)) (base : Nat → Nat) : Prop where
 at_ : ∀ t j o, (q[t]?.getD [])[j]? = some o → base t + j < p.length ∧ evAt p (base t + j) = ⟨o, t⟩
 all : ∀ i, i < p.length → ∃ t j o, (q[t]?.getD [])[j]? = some o ∧ i = base t + j

theorem lay_go (q : List (List OpV)) : Lay (evsGo 0 q) q (fun t => (evsGo 0 (q.take t)).length) := by
 constructor
 ·intro t j o h
  by_cases ht : t < q.length
  ·rw [List.getElem?_eq_getElem ht, Option.getD_some] at h
   obtain ⟨hj, ho⟩ := List.getElem?_eq_some_iff.1 h
   have hq : q = q.take t ++ q[t] :: q.drop (t + 1) := by simp
   have hl : (q.take t).length = t := by simp; omega
   have e : evsGo 0 q = evsGo 0 (q.take t) ++ (q[t].map (fun o => (⟨o, ((t : Nat) : Int)⟩ : Ev)) ++ evsGo (t + 1) (q.drop (t + 1))) := by
    conv => lhs; rw [hq]
    rw [evsGo_append, hl, Nat.zero_add]; rfl
   have hlt : (evsGo 0 (q.take t)).length + j < (evsGo 0 q).length := by rw [e, List.length_append, List.length_append, List.length_map]; omega
   refine ⟨hlt, ?_⟩
   rw [evAt, e, List.getElem?_append_right (by simp), Nat.add_sub_cancel_left, List.getElem?_append_left (by simpa using hj), List.getElem?_map, h]
   rfl
  ·rw [show q[t]? = none from List.getElem?_eq_none (by omega)] at h; simp at h
 ·have key : ∀ (n : Nat) (q : List (List OpV)) (i : Nat), i < (evsGo n q).length → ∃ t j o, (q[t]?.getD [])[j]? = some o ∧ i = (evsGo n (q.take t)).length + j := by
   intro n q
   induction q generalizing n with
   | nil => intro i hi; simp [evsGo] at hi
   | cons a q ih =>
    intro i hi
    by_cases h : i < a.length
    ·exact ⟨0, i, a[i], by simp [h], by simp [evsGo]⟩
    ·simp only [evsGo, List.length_append, List.length_map] at hi
     obtain ⟨t, j, o, h1, h2⟩ := ih (n + 1) (i - a.length) (by omega)
     exact ⟨t + 1, j, o, by simpa using h1, by simp [evsGo]; omega⟩
  exact key 0 q

/-- What is told of a run by how far each thread is, the words, and what was read. -/
structure RelE (p : List Ev) (q : List (List OpV)) (base : Nat → Nat) (tr : List (Nat × Bool)) (y : Nat → Nat) (wd : Int → Int) (rd : Nat → List Int) : Prop where
 th : ∀ t : Nat, (tr.map Prod.fst).filter (fun i => decide ((evAt p i).th = t)) = (List.range (y t)).map (base t + ·)
 mem : ∀ i ∈ tr.map Prod.fst, i < p.length
 wd : ∀ k, 0 ≤ k → k < 3 → (runX p tr).wd k = wd k
 rd : ∀ t, rdsX p (runX p tr) ((List.range (y t)).map (base t + ·)) = rd t

variable {p : List Ev} {q : List (List OpV)} {base : Nat → Nat}

theorem RelE.nil : RelE p q base [] (fun _ => 0) (fun _ => 0) (fun _ => []) := ⟨fun _ => rfl, fun _ h => absurd h (by simp), fun _ _ _ => rfl, fun _ => rfl⟩

theorem RelE.step {tr : List (Nat × Bool)} {y : Nat → Nat} {wd : Int → Int} {rd : Nat → List Int} (h : RelE p q base tr y wd rd) (hl : Lay p q base) (hp : POk p) {t : Nat} {o : OpV} (ho : (q[t]?.getD [])[y t]? = some o) (c : Bool) :
  RelE p q base (tr ++ [(base t + y t, c)]) (upN y t (y t + 1)) (if wrO o (wd o.loc) c then upI wd o.loc (nwO o (wd o.loc)) else wd) (upN rd t (rd t ++ if o.kind ≠ 1 ∧ o.kind ≠ 5 then [wd o.loc] else [])) := by
 obtain ⟨hi, hev⟩ := hl.at_ t (y t) o ho
 have hloc := hp.loc _ hi
 rw [hev] at hloc
 have hwd := h.wd o.loc hloc.1 hloc.2
 have hnew : base t + y t ∉ tr.map Prod.fst := by
  intro hm
  have : base t + y t ∈ (tr.map Prod.fst).filter (fun i => decide ((evAt p i).th = t)) := List.mem_filter.2 ⟨hm, by rw [hev]; simp⟩
  rw [h.th t] at this
  obtain ⟨j, hj, e⟩ := List.mem_map.1 this
  rw [List.mem_range] at hj
  omega
 have hrd : ∀ t', t' ≠ t ∨ True → rdsX p (runX p (tr ++ [(base t + y t, c)])) ((List.range (y t')).map (base t' + ·)) = rd t' := by
  intro t' _
  rw [← h.rd t']
  unfold rdsX
  apply flatMap_congrX
  intro x hx
  rw [← h.th t'] at hx
  have hne : x ≠ base t + y t := fun e => hnew (e ▸ (List.mem_filter.1 hx).1)
  rw [(runX_keep (p := p) (tr := tr) (x := (base t + y t, c)) hne).1]
 refine ⟨?_, ?_, ?_, ?_⟩
 ·intro t'
  rw [List.map_append, List.filter_append, h.th t']
  by_cases ht : t' = t
  ·subst ht
   rw [upN, if_pos rfl, List.range_succ, List.map_append]
   simp [hev]
  ·rw [upN, if_neg ht]
   have : ¬ ((t : Nat) : Int) = t' := by omega
   simp [hev, this]
 ·intro i hi'
  rw [List.map_append, List.mem_append] at hi'
  rcases hi' with hi' | hi'
  ·exact h.mem i hi'
  ·simp at hi'; rw [hi']; exact hi
 ·intro k hk0 hk3
  rw [runX_snoc]
  simp only [stepX, hev, hwd]
  split
  ·simp only [upI]; split
   ·rfl
   ·exact h.wd k hk0 hk3
  ·exact h.wd k hk0 hk3
 ·intro t'
  by_cases ht : t' = t
  ·subst ht
   rw [upN, if_pos rfl, upN, if_pos rfl, List.range_succ, List.map_append]
   have happ : ∀ (s : Sx) (l m : List Nat), rdsX p s (l ++ m) = rdsX p s l ++ rdsX p s m := fun s l m => by simp [rdsX, List.flatMap_append]
   rw [happ, hrd t' (.inr trivial)]
   congr 1
   simp only [rdsX, List.map_cons, List.map_nil, List.flatMap_cons, List.flatMap_nil, List.append_nil]
   rw [runX_snoc]
   simp only [stepX, hev, hwd, upN, if_pos]
   by_cases hr : o.kind ≠ 1 ∧ o.kind ≠ 5
   ·rw [if_pos hr]; simp [Ev.reads, hr.1, hr.2]
   ·rw [if_neg hr]
    have : (Ev.reads ⟨o, t'⟩) = false := by
     simp only [Ev.reads, Bool.and_eq_false_iff, decide_eq_false_iff_not]
     by_cases h1 : o.kind ≠ 1
     ·exact .inr fun h5 => hr ⟨h1, h5⟩
     ·exact .inl h1
    simp [this]
  ·rw [upN, if_neg ht, upN, if_neg ht]; exact hrd t' (.inl ht)

theorem pw_filter {T : List Nat} {th : Nat → Int} (h : ∀ x ∈ T, (T.filter fun i => decide (th i = th x)).Pairwise (· < ·)) : T.Pairwise fun a b => th a = th b → a < b := by
 rw [List.pairwise_iff_forall_sublist]
 intro a b hs hab
 have ha : a ∈ T := hs.subset (by simp)
 have h1 := h a ha
 have h2 : [a, b].Sublist (T.filter fun i => decide (th i = th a)) := by
  have := hs.filter (fun i => decide (th i = th a))
  simpa [hab] using this
 exact (List.pairwise_iff_forall_sublist.1 h1) h2

/-- When all is done it is a run of all events. -/
theorem RelE.run {tr : List (Nat × Bool)} {y : Nat → Nat} {wd : Int → Int} {rd : Nat → List Int} (h : RelE p q base tr y wd rd) (hl : Lay p q base) (hy : ∀ t, y t = (q[t]?.getD []).length) : IsRun p tr := by
 have hkeep : (tr.map Prod.fst).Pairwise fun a b => (evAt p a).th = (evAt p b).th → a < b := by
  refine pw_filter (th := fun i => (evAt p i).th) fun x hx => ?_
  obtain ⟨t, j, o, h1, rfl⟩ := hl.all x (h.mem x hx)
  have e := (hl.at_ t j o h1).2
  simp only [e]
  rw [h.th t, List.pairwise_map]
  exact List.pairwise_lt_range.imp fun hab => by omega
 refine ⟨?_, hkeep⟩
 refine (List.perm_ext_iff_of_nodup ?_ List.nodup_range).2 fun i => ?_
 ·exact hkeep.imp fun hab e => by subst e; exact Nat.lt_irrefl _ (hab rfl)
 ·rw [List.mem_range]
  refine ⟨h.mem i, fun hi => ?_⟩
  obtain ⟨t, j, o, h1, rfl⟩ := hl.all i hi
  have : base t + j ∈ (tr.map Prod.fst).filter (fun i => decide ((evAt p i).th = t)) := by
   rw [h.th t, hy t]
   exact List.mem_map.2 ⟨j, List.mem_range.2 (List.getElem?_eq_some_iff.1 h1).1, rfl⟩
  exact (List.mem_filter.1 this).1

end Go.EV

namespace Go.EV
open Go.Proofs

end Go.EV

namespace Go.EV
open Go.Proofs

/-- The count of the writes of a location. -/
def LimS.wk (s : LimS) (k : Int) : Int := if k = 0 then s.w0 else if k = 1 then s.w1 else s.w2
/-! ### Outcomes -/
theorem outcome_shape {p : List Ev} {e : Exec} (hol : e.ord.length = 3) : ∃ r a b c, outcomeP p e = r ++ [a, b, c] ∧ r = outReads p (wordsP p e.frm) p.length ∧ a = lastOf (wordsP p e.frm) (e.ord[0]?.getD []) ∧ b = lastOf (wordsP p e.frm) (e.ord[1]?.getD []) ∧ c = lastOf (wordsP p e.frm) (e.ord[2]?.getD []) := by
 rcases ho : e.ord with _ | ⟨a, _ | ⟨b, _ | ⟨c, _ | ⟨d, l⟩⟩⟩⟩ <;> rw [ho] at hol <;> simp at hol
 exact ⟨_, _, _, _, by rw [outcomeP, ho]; rfl, rfl, rfl, rfl, rfl⟩

theorem outs_iff {p : List Ev} {l : List (List Int)} (h : Outs p l) {x : List Int} : x ∈ l ↔ IsOut p x := by
 rw [h.2 x, List.mem_map]; rfl
theorem Outs.nodup {p : List Ev} {l : List (List Int)} (h : Outs p l) : l.Nodup := by
 rw [List.nodup_iff_pairwise_ne]
 exact h.1.imp fun {a b} h e => by rw [e, cmpL_self] at h; omega
theorem isOut_len {p : List Ev} (hp : POk p) {x : List Int} (h : IsOut p x) : ∃ r a b c, x = r ++ [a, b, c] ∧ r.length ≤ p.length := by
 obtain ⟨e, he, rfl⟩ := h
 obtain ⟨r, a, b, c, h1, h2, _⟩ := outcome_shape (p := p) (e := e) (execsP_ok hp he).ol
 exact ⟨r, a, b, c, h1, by rw [h2]; exact outReads_len _ _ _⟩

end Go.EV

namespace Go.EV
open Go.Proofs

def opAt (l : List OpV) (i : Nat) : OpV := l[i]?.getD ⟨0, 0, 0, 0, 0⟩
/-! ### What is read, thread by thread -/
theorem range_add' (a b : Nat) : List.range (a + b) = List.range a ++ (List.range b).map (a + ·) := by
 induction b with
 | zero => simp
 | succ b ih => rw [← Nat.add_assoc, List.range_succ, ih, List.range_succ, List.map_append, List.append_assoc]; rfl
/-! ### Programs whose threads stand in the opposite order -/
end Go.EV

namespace Go.EV
open Go.Proofs

/-- A point of an interleaving. -/
structure Mem where
 w0 : Int
 w1 : Int
 w2 : Int
 n0 : Nat
 n1 : Nat
 n2 : Nat
 r0 : List Int
 r1 : List Int
 r2 : List Int

def Mem.wd (m : Mem) (k : Int) : Int := if k = 0 then m.w0 else if k = 1 then m.w1 else m.w2
def Mem.nx (m : Mem) (t : Nat) : Nat := if t = 0 then m.n0 else if t = 1 then m.n1 else m.n2
def Mem.rd (m : Mem) (t : Nat) : List Int := if t = 0 then m.r0 else if t = 1 then m.r1 else m.r2
def Mem.setW (m : Mem) (k v : Int) : Mem := if k = 0 then { m with w0 := v } else if k = 1 then { m with w1 := v } else { m with w2 := v }
def Mem.bump (m : Mem) (t : Nat) : Mem := if t = 0 then { m with n0 := m.n0 + 1 } else if t = 1 then { m with n1 := m.n1 + 1 } else { m with n2 := m.n2 + 1 }
def Mem.addR (m : Mem) (t : Nat) (v : Int) : Mem := if t = 0 then { m with r0 := m.r0 ++ [v] } else if t = 1 then { m with r1 := m.r1 ++ [v] } else { m with r2 := m.r2 ++ [v] }
def Mem.out (m : Mem) : List Int := m.r0 ++ m.r1 ++ m.r2 ++ [m.w0, m.w1, m.w2]
def mem0 : Mem := ⟨0, 0, 0, 0, 0, 0, [], [], []⟩

section
variable {m : Mem} {t s : Nat} {k j v : Int}
theorem wd_bump : (m.bump t).wd k = m.wd k := by unfold Mem.bump; split <;> (try split) <;> rfl
theorem rd_bump : (m.bump t).rd s = m.rd s := by unfold Mem.bump; split <;> (try split) <;> rfl
theorem nx_bump (ht : t < 3) (hs : s < 3) : (m.bump t).nx s = if s = t then m.nx s + 1 else m.nx s := by
 match t, s, ht, hs with
 | 0, 0, _, _ => rfl
 | 0, 1, _, _ => rfl
 | 0, 2, _, _ => rfl
 | 1, 0, _, _ => rfl
 | 1, 1, _, _ => rfl
 | 1, 2, _, _ => rfl
 | 2, 0, _, _ => rfl
 | 2, 1, _, _ => rfl
 | 2, 2, _, _ => rfl
theorem wd_addR : (m.addR t v).wd k = m.wd k := by unfold Mem.addR; split <;> (try split) <;> rfl
theorem nx_addR : (m.addR t v).nx s = m.nx s := by unfold Mem.addR; split <;> (try split) <;> rfl
theorem rd_addR (ht : t < 3) (hs : s < 3) : (m.addR t v).rd s = if s = t then m.rd s ++ [v] else m.rd s := by
 match t, s, ht, hs with
 | 0, 0, _, _ => rfl
 | 0, 1, _, _ => rfl
 | 0, 2, _, _ => rfl
 | 1, 0, _, _ => rfl
 | 1, 1, _, _ => rfl
 | 1, 2, _, _ => rfl
 | 2, 0, _, _ => rfl
 | 2, 1, _, _ => rfl
 | 2, 2, _, _ => rfl
theorem nx_setW : (m.setW k v).nx s = m.nx s := by unfold Mem.setW; split <;> (try split) <;> rfl
theorem rd_setW : (m.setW k v).rd s = m.rd s := by unfold Mem.setW; split <;> (try split) <;> rfl
theorem wd_setW (hk : 0 ≤ k ∧ k < 3) (hj : 0 ≤ j ∧ j < 3) : (m.setW k v).wd j = if j = k then v else m.wd j := by
 obtain rfl | rfl | rfl : k = 0 ∨ k = 1 ∨ k = 2 := by omega
 all_goals
  obtain rfl | rfl | rfl : j = 0 ∨ j = 1 ∨ j = 2 := by omega
  all_goals rfl
end

/-- What can come of the next operation of a thread. -/
def goesP (m0 : Mem) (t : Nat) (o : OpV) : List Mem :=
 if accessP o = false then [m0.bump t] else
 let old := m0.wd o.loc
 let m := if o.kind ≠ 1 ∧ o.kind ≠ 5 then (m0.bump t).addR t old else m0.bump t
 if o.kind = 1 then [m.setW o.loc o.v] else if o.kind = 2 then [m.setW o.loc (IntKind.i64.wrap (old + o.v))] else
 if (o.kind = 3 ∨ o.kind = 4) ∧ old = o.v then (if o.kind = 4 then [m, m.setW o.loc o.w] else [m.setW o.loc o.w]) else [m]

theorem goes_mem {m m' : Mem} {t : Nat} {o : OpV} (ht : t < 3) (hk : 0 ≤ o.kind ∧ o.kind ≤ 5) (hl : 0 ≤ o.loc ∧ o.loc < 3) (h : m' ∈ goesP m t o) :
  ∃ c, (∀ s, s < 3 → m'.nx s = if s = t then m.nx s + 1 else m.nx s) ∧ (∀ k, 0 ≤ k → k < 3 → m'.wd k = (if wrO o (m.wd o.loc) c then upI m.wd o.loc (nwO o (m.wd o.loc)) else m.wd) k) ∧
   (∀ s, s < 3 → m'.rd s = upN m.rd t (m.rd t ++ if o.kind ≠ 1 ∧ o.kind ≠ 5 then [m.wd o.loc] else []) s) := by
 have hrd0 : ∀ s, s < 3 → (m.bump t).rd s = upN m.rd t (m.rd t ++ []) s := by
  intro s _
  rw [rd_bump, List.append_nil, upN]; split
  ·rename_i e; rw [e]
  ·rfl
 have hrd1 : ∀ v s, s < 3 → ((m.bump t).addR t v).rd s = upN m.rd t (m.rd t ++ [v]) s := by
  intro v s hs
  rw [rd_addR ht hs, rd_bump, upN]; split
  ·rename_i e; rw [e]
  ·rfl
 have hset : ∀ (m1 : Mem) (v : Int), (∀ k, m1.wd k = m.wd k) → ∀ k, 0 ≤ k → k < 3 → (m1.setW o.loc v).wd k = upI m.wd o.loc v k := by
  intro m1 v h1 k h0 h3
  rw [wd_setW hl ⟨h0, h3⟩, upI]; split
  ·rfl
  ·exact h1 k
 have hb1 : ∀ v k, ((m.bump t).addR t v).wd k = m.wd k := fun v k => by rw [wd_addR, wd_bump]
 have hnx : ∀ s, s < 3 → (m.bump t).nx s = if s = t then m.nx s + 1 else m.nx s := fun s hs => nx_bump ht hs
 obtain e | e | e | e | e | e : o.kind = 0 ∨ o.kind = 1 ∨ o.kind = 2 ∨ o.kind = 3 ∨ o.kind = 4 ∨ o.kind = 5 := by omega
 ·simp [goesP, accessP, e] at h
  subst h
  exact ⟨true, fun s hs => by rw [nx_addR]; exact hnx s hs, fun k _ _ => by simp [wrO, e, hb1], fun s hs => by rw [hrd1 _ s hs]; simp [e]⟩
 ·simp [goesP, accessP, e] at h
  subst h
  exact ⟨true, fun s hs => by rw [nx_setW]; exact hnx s hs, fun k h0 h3 => by rw [hset _ _ (fun k => wd_bump) k h0 h3]; simp [wrO, nwO, e], fun s hs => by rw [rd_setW, hrd0 s hs]; simp [e]⟩
 ·simp [goesP, accessP, e] at h
  subst h
  exact ⟨true, fun s hs => by rw [nx_setW, nx_addR]; exact hnx s hs, fun k h0 h3 => by rw [hset _ _ (hb1 _) k h0 h3]; simp [wrO, nwO, e], fun s hs => by rw [rd_setW, hrd1 _ s hs]; simp [e]⟩
 ·by_cases hv : m.wd o.loc = o.v
  ·simp [goesP, accessP, e, hv] at h
   subst h
   exact ⟨true, fun s hs => by rw [nx_setW, nx_addR]; exact hnx s hs, fun k h0 h3 => by rw [hset _ _ (hb1 _) k h0 h3]; simp [wrO, nwO, e, hv], fun s hs => by rw [rd_setW, hrd1 _ s hs]; simp [e, hv]⟩
  ·simp [goesP, accessP, e, hv] at h
   subst h
   exact ⟨true, fun s hs => by rw [nx_addR]; exact hnx s hs, fun k h0 h3 => by simp [wrO, e, hb1, hv], fun s hs => by rw [hrd1 _ s hs]; simp [e]⟩
 ·by_cases hv : m.wd o.loc = o.v
  ·simp [goesP, accessP, e, hv] at h
   rcases h with h | h
   ·subst h
    exact ⟨false, fun s hs => by rw [nx_addR]; exact hnx s hs, fun k h0 h3 => by simp [wrO, e, hb1], fun s hs => by rw [hrd1 _ s hs]; simp [e, hv]⟩
   ·subst h
    exact ⟨true, fun s hs => by rw [nx_setW, nx_addR]; exact hnx s hs, fun k h0 h3 => by rw [hset _ _ (hb1 _) k h0 h3]; simp [wrO, nwO, e, hv], fun s hs => by rw [rd_setW, hrd1 _ s hs]; simp [e, hv]⟩
  ·simp [goesP, accessP, e, hv] at h
   subst h
   exact ⟨true, fun s hs => by rw [nx_addR]; exact hnx s hs, fun k h0 h3 => by simp [wrO, e, hb1, hv], fun s hs => by rw [hrd1 _ s hs]; simp [e]⟩
 ·simp [goesP, accessP, e] at h
  subst h
  exact ⟨true, hnx, fun k _ _ => by simp [wrO, e, wd_bump], fun s hs => by rw [hrd0 s hs]; simp [e]⟩

/-- The outcomes from a point on, thread by thread. -/
def threadsP (rec : Mem → List (List Int)) (m : Mem) : List (List OpV) → Nat → Bool → List (List Int)
 | [], _, over => if over then [m.out] else []
 | l :: ls, t, over => if m.nx t = l.length then threadsP rec m ls (t + 1) over else
  (goesP m t (opAt l (m.nx t))).flatMap rec ++ if accessP (opAt l (m.nx t)) then threadsP rec m ls (t + 1) false else []
def walkP (ts : List (List OpV)) : Nat → Mem → List (List Int)
 | 0, m => threadsP (fun _ => []) m ts 0 true
 | f + 1, m => threadsP (walkP ts f) m ts 0 true

/-- Interleavings, step by step. -/
inductive Il (ts : List (List OpV)) : Mem → List Int → Prop
 | over {m : Mem} (h : ∀ t, t < ts.length → m.nx t = (ts[t]?.getD []).length) : Il ts m m.out
 | step {m m' : Mem} {t : Nat} {o : OpV} {x : List Int} (ho : (ts[t]?.getD [])[m.nx t]? = some o) (hm : m' ∈ goesP m t o) (hx : Il ts m' x) : Il ts m x

end Go.EV

namespace Go.EV
open Go.Proofs

def thr (ts : List (List OpV)) (t : Nat) : List OpV := ts[t]?.getD []
def baseOf (ts : List (List OpV)) (t : Nat) : Nat := (evsGo 0 ((ts.map expT).take t)).length

theorem expT_append (a b : List OpV) : expT (a ++ b) = expT a ++ expT b := by simp [expT, List.flatMap_append]
theorem q_thr (ts : List (List OpV)) (t : Nat) : (ts.map expT)[t]?.getD [] = expT (thr ts t) := by
 rw [List.getElem?_map, thr]
 cases ts[t]? <;> rfl

theorem lay_ts (ts : List (List OpV)) : Lay (evsOf ts) (ts.map expT) (baseOf ts) := lay_go _

theorem exp_at {l : List OpV} {n : Nat} {o : OpV} (h : l[n]? = some o) {k : Nat} (hk : k < (expOp o).length) : (expT l)[(expT (l.take n)).length + k]? = (expOp o)[k]? ∧ (expT (l.take (n + 1))).length = (expT (l.take n)).length + (expOp o).length := by
 obtain ⟨hn, e⟩ := List.getElem?_eq_some_iff.1 h
 have h1 : l.take (n + 1) = l.take n ++ [o] := by rw [List.take_succ_eq_append_getElem hn, e]
 have h2 : expT (l.take (n + 1)) = expT (l.take n) ++ expOp o := by rw [h1, expT_append]; simp [expT]
 have h3 : expT l = expT (l.take n) ++ (expOp o ++ expT (l.drop (n + 1))) := by
  rw [← List.append_assoc, ← h2, ← expT_append, List.take_append_drop]
 constructor
 ·rw [h3, List.getElem?_append_right (by omega), Nat.add_sub_cancel_left, List.getElem?_append_left hk]
 ·rw [h2, List.length_append]

/-- A run goes with a point of an interleaving. -/
def RelM (ts : List (List OpV)) (tr : List (Nat × Bool)) (m : Mem) : Prop :=
 ∃ y wd rd, RelE (evsOf ts) (ts.map expT) (baseOf ts) tr y wd rd ∧ (∀ t, t < 3 → y t = (expT ((thr ts t).take (m.nx t))).length ∧ rd t = m.rd t) ∧ (∀ t, 3 ≤ t → y t = 0) ∧ ∀ k, 0 ≤ k → k < 3 → wd k = m.wd k

theorem relM_nil (ts : List (List OpV)) : RelM ts [] mem0 := by
 refine ⟨_, _, _, RelE.nil, fun t ht => ?_, fun _ _ => rfl, fun k _ _ => ?_⟩
 ·have h1 : mem0.nx t = 0 := by unfold Mem.nx mem0; split <;> (try split) <;> rfl
  have h2 : mem0.rd t = [] := by unfold Mem.rd mem0; split <;> (try split) <;> rfl
  rw [h1, h2]; exact ⟨rfl, rfl⟩
 ·unfold Mem.wd mem0; split <;> (try split) <;> rfl

theorem upN_same {α : Type} {f : Nat → α} {k : Nat} : upN f k (f k) = f := by
 funext j; unfold upN; split
 ·rename_i e; rw [e]
 ·rfl

/-- A fence moves nothing. -/
theorem RelE.fence {p : List Ev} {q : List (List OpV)} {base : Nat → Nat} {tr : List (Nat × Bool)} {y : Nat → Nat} {wd : Int → Int} {rd : Nat → List Int} (h : RelE p q base tr y wd rd) (hl : Lay p q base) (hp : POk p) {t : Nat} {o : OpV} (ho : (q[t]?.getD [])[y t]? = some o) (h5 : o.kind = 5) :
  RelE p q base (tr ++ [(base t + y t, true)]) (upN y t (y t + 1)) wd rd := by
 have h1 := h.step hl hp ho true
 have e1 : wrO o (wd o.loc) true = false := by simp [wrO, h5]
 have e2 : ¬ (o.kind ≠ 1 ∧ o.kind ≠ 5) := fun k => k.2 h5
 rw [if_neg (by rw [e1]; decide), if_neg e2, List.append_nil, upN_same] at h1
 exact h1

theorem upN_upN {α : Type} {f : Nat → α} {k : Nat} {a b : α} : upN (upN f k a) k b = upN f k b := by
 funext j; unfold upN; split <;> simp_all

theorem relM_step {ts : List (List OpV)} (hc : checkP ts = 0) {tr : List (Nat × Bool)} {m m' : Mem} (h : RelM ts tr m) {t : Nat} (ht : t < 3) {o : OpV} (ho : (thr ts t)[m.nx t]? = some o) (hm : m' ∈ goesP m t o) : ∃ tr', RelM ts tr' m' := by
 obtain ⟨y, wd, rd, hr, hy, hy3, hwd⟩ := h
 have hp := evs_pok hc
 have hl := lay_ts ts
 have hk : ∀ k, k < (expOp o).length → ((ts.map expT)[t]?.getD [])[y t + k]? = (expOp o)[k]? := by
  intro k hk
  rw [q_thr, (hy t ht).1]; exact (exp_at ho hk).1
 have hpos : 0 < (expOp o).length := by unfold expOp; split <;> simp
 have hlen := (exp_at ho hpos).2
 -- what the operation is
 have hfirst : ∀ k, k < (expOp o).length → ∃ e, (expOp o)[k]? = some e ∧ 0 ≤ e.loc ∧ e.loc < 3 ∧ 0 ≤ e.kind ∧ e.kind ≤ 5 := by
  intro k hk'
  refine ⟨(expOp o)[k], List.getElem?_eq_getElem hk', ?_⟩
  have h1 := hk k hk'
  rw [List.getElem?_eq_getElem hk'] at h1
  obtain ⟨h2, h3⟩ := hl.at_ t (y t + k) _ h1
  have h4 := hp.loc _ h2
  have h5 := evs_kind hc _ h2
  rw [h3] at h4 h5
  exact ⟨h4.1, h4.2, h5.1, h5.2⟩
 by_cases hx : accessP o = false ∨ o.ord ≠ 4
 ·have he : expOp o = [o] := by unfold expOp; rw [if_pos hx]
  obtain ⟨e, h1, h2, h3, h4, h5⟩ := hfirst 0 hpos
  have : e = o := by rw [he] at h1; simpa using h1.symm
  subst this
  obtain ⟨c, k1, k2, k3⟩ := goes_mem ht ⟨h4, h5⟩ ⟨h2, h3⟩ hm
  have hs := hr.step hl hp (by rw [← h1]; exact hk 0 hpos) c
  rw [hwd _ h2 h3, (hy t ht).2] at hs
  refine ⟨_, _, _, _, hs, ?_, ?_, ?_⟩
  ·intro s hs3
   rw [k1 s hs3, k3 s hs3]
   constructor
   ·unfold upN; split
    ·rename_i e1; subst e1; rw [(hy s hs3).1, hlen, he]; rfl
    ·exact (hy s hs3).1
   ·unfold upN; split
    ·rfl
    ·exact (hy s hs3).2
  ·intro s hs3
   unfold upN; rw [if_neg (by omega)]; exact hy3 s hs3
  ·intro k hk0 hk3
   rw [k2 k hk0 hk3]
   split
   ·unfold upI; split
    ·rfl
    ·exact hwd k hk0 hk3
   ·exact hwd k hk0 hk3
 ·have he : expOp o = [sfence, { o with ord := plainP o.kind o.ord }, sfence] := by unfold expOp; rw [if_neg hx]
  have hlen3 : (expOp o).length = 3 := by rw [he]; rfl
  obtain ⟨e, h1, h2, h3, h4, h5⟩ := hfirst 1 (by omega)
  have e1 : e = { o with ord := plainP o.kind o.ord } := by rw [he] at h1; simpa using h1.symm
  have hloc : 0 ≤ o.loc ∧ o.loc < 3 := by rw [e1] at h2 h3; exact ⟨h2, h3⟩
  obtain ⟨c, k1, k2, k3⟩ := goes_mem ht (by rw [e1] at h4 h5; exact ⟨h4, h5⟩) hloc hm
  have hs1 := hr.fence hl hp (o := sfence) (by have := hk 0 (by omega); rw [he] at this; exact this) rfl
  have hs2 := hs1.step hl hp (t := t) (o := { o with ord := plainP o.kind o.ord }) (by
   have := hk 1 (by omega); rw [he] at this
   rw [show upN y t (y t + 1) t = y t + 1 from by simp [upN]]; exact this) c
  have hs3 := hs2.fence hl hp (t := t) (o := sfence) (by
   have := hk 2 (by omega); rw [he] at this
   rw [upN_upN, show upN y t (upN y t (y t + 1) t + 1) t = y t + 2 from by simp [upN]]; exact this) rfl
  simp only [upN_upN] at hs3
  have ey : upN y t (y t + 1) t = y t + 1 := by simp [upN]
  rw [ey] at hs3
  have ey2 : upN y t (y t + 1 + 1) t = y t + 2 := by simp [upN]
  rw [ey2] at hs3
  have ew : wrO { o with ord := plainP o.kind o.ord } (wd o.loc) c = wrO o (wd o.loc) c := rfl
  have en : nwO { o with ord := plainP o.kind o.ord } (wd o.loc) = nwO o (wd o.loc) := rfl
  rw [ew, en, hwd _ hloc.1 hloc.2, (hy t ht).2] at hs3
  refine ⟨_, _, _, _, hs3, ?_, ?_, ?_⟩
  ·intro s hs9
   rw [k1 s hs9, k3 s hs9]
   constructor
   ·unfold upN; split
    ·rename_i e1; subst e1; rw [(hy s hs9).1, hlen, hlen3]
    ·exact (hy s hs9).1
   ·unfold upN; split
    ·rfl
    ·exact (hy s hs9).2
  ·intro s hs9
   unfold upN; rw [if_neg (by omega)]; exact hy3 s hs9
  ·intro k hk0 hk3
   rw [k2 k hk0 hk3]
   split
   ·unfold upI; split
    ·rfl
    ·exact hwd k hk0 hk3
   ·exact hwd k hk0 hk3

theorem base_succ (q : List (List OpV)) (t : Nat) : (evsGo 0 (q.take (t + 1))).length = (evsGo 0 (q.take t)).length + (q[t]?.getD []).length := by
 simp only [evsGo_len]
 by_cases ht : t < q.length
 ·rw [List.take_succ_eq_append_getElem ht, List.flatten_append, List.length_append, List.getElem?_eq_getElem ht]; simp
 ·rw [List.take_of_length_le (by omega), List.take_of_length_le (by omega), List.getElem?_eq_none (by omega)]; simp

theorem il_out {ts : List (List OpV)} (hc : checkP ts = 0) {m : Mem} {x : List Int} (h : Il ts m x) : ∀ {tr : List (Nat × Bool)}, RelM ts tr m → IsOut (evsOf ts) x := by
 have h3 := (checkP_small hc).2
 induction h with
 | @over m h =>
  intro tr ⟨y, wd, rd, hr, hy, hy3, hwd⟩
  have hp := evs_pok hc
  have hl := lay_ts ts
  have hyl : ∀ t, y t = ((ts.map expT)[t]?.getD []).length := by
   intro t
   rw [q_thr]
   by_cases ht : t < ts.length
   ·rw [(hy t (by omega)).1, h t ht]
    show (expT ((thr ts t).take (thr ts t).length)).length = _
    rw [List.take_length]
   ·have e : thr ts t = [] := by simp only [thr]; rw [List.getElem?_eq_none (by omega)]; rfl
    by_cases ht3 : t < 3
    ·rw [(hy t ht3).1, e]; simp
    ·rw [hy3 t (by omega), e]; rfl
  have hrun := hr.run hl hyl
  have ho := run_out hrun hp (evs_mono ts)
  have hb : ∀ t, baseOf ts (t + 1) = baseOf ts t + y t := fun t => by rw [hyl t]; exact base_succ _ t
  have hb0 : baseOf ts 0 = 0 := rfl
  have hn : (evsOf ts).length = baseOf ts 3 := by
   simp only [baseOf, evsOf]; rw [List.take_of_length_le (by simpa using h3)]
  have happ : ∀ (s : Sx) (l m : List Nat), rdsX (evsOf ts) s (l ++ m) = rdsX (evsOf ts) s l ++ rdsX (evsOf ts) s m := fun s l m => by simp [rdsX, List.flatMap_append]
  have hrng : List.range (evsOf ts).length = (List.range (y 0)).map (baseOf ts 0 + ·) ++ (List.range (y 1)).map (baseOf ts 1 + ·) ++ (List.range (y 2)).map (baseOf ts 2 + ·) := by
   rw [hn, hb 2, range_add', hb 1, range_add', hb 0, range_add', hb0]
   simp
  rw [hrng, happ, happ, hr.rd, hr.rd, hr.rd, (hy 0 (by omega)).2, (hy 1 (by omega)).2, (hy 2 (by omega)).2, hr.wd 0 (by omega) (by omega), hr.wd 1 (by omega) (by omega), hr.wd 2 (by omega) (by omega), hwd 0 (by omega) (by omega), hwd 1 (by omega) (by omega), hwd 2 (by omega) (by omega)] at ho
  exact ho
 | @step m m' t o x ho hm hx ih =>
  intro tr hr
  have ht : t < 3 := by
   apply Classical.byContradiction
   intro hn
   rw [List.getElem?_eq_none (by omega : ts.length ≤ t)] at ho
   simp at ho
  obtain ⟨tr', hr'⟩ := relM_step hc hr ht ho hm
  exact ih hr'

theorem threads_il {ts : List (List OpV)} {rec : Mem → List (List Int)} {m : Mem} (hrec : ∀ t o m' x, (ts[t]?.getD [])[m.nx t]? = some o → m' ∈ goesP m t o → x ∈ rec m' → Il ts m' x) (hle : ∀ t, t < ts.length → m.nx t ≤ (ts[t]?.getD []).length) :
  ∀ (ls : List (List OpV)) (t : Nat) (over : Bool), ls = ts.drop t → (over = true → ∀ s, s < t → s < ts.length → m.nx s = (ts[s]?.getD []).length) → ∀ x ∈ threadsP rec m ls t over, Il ts m x
 | [], t, over, hls, hov, x, hx => by
  simp only [threadsP] at hx
  split at hx
  ·rename_i h
   simp only [List.mem_singleton] at hx
   subst hx
   have hlen : ts.length ≤ t := by
    have := congrArg List.length hls
    simp at this; omega
   exact .over fun s hs => hov h s (by omega) hs
  ·cases hx
 | l :: ls, t, over, hls, hov, x, hx => by
  have ht : t < ts.length := by
   apply Classical.byContradiction
   intro h; rw [List.drop_eq_nil_of_le (by omega)] at hls; cases hls
  rw [List.drop_eq_getElem_cons ht] at hls
  obtain ⟨rfl, rfl⟩ := List.cons.inj hls
  have hget : ts[t]?.getD [] = ts[t] := by rw [List.getElem?_eq_getElem ht]; rfl
  have hlt := hle t ht
  rw [hget] at hlt
  simp only [threadsP] at hx
  split at hx
  ·rename_i h
   refine threads_il hrec hle _ (t + 1) over rfl (fun h1 s hs hsl => ?_) x hx
   by_cases hst : s = t
   ·subst hst; rw [hget]; exact h
   ·exact hov h1 s (by omega) hsl
  ·rename_i h
   have hop : (ts[t]?.getD [])[m.nx t]? = some (opAt ts[t] (m.nx t)) := by
    rw [hget, opAt, List.getElem?_eq_getElem (by omega)]; rfl
   rcases List.mem_append.1 hx with hx | hx
   ·obtain ⟨m', hm', hx⟩ := List.mem_flatMap.1 hx
    exact .step hop hm' (hrec t _ m' x hop hm' hx)
   ·split at hx
    ·exact threads_il hrec hle _ (t + 1) false rfl (fun h1 => by cases h1) x hx
    ·cases hx

theorem nx_goes {m m' : Mem} {t : Nat} {o : OpV} (ht : t < 3) (h : m' ∈ goesP m t o) : ∀ s, s < 3 → m'.nx s = if s = t then m.nx s + 1 else m.nx s := by
 intro s hs
 have hb := nx_bump (m := m) ht hs
 have key : ∀ l : List Mem, (∀ x ∈ l, x.nx s = (m.bump t).nx s) → m' ∈ l → m'.nx s = if s = t then m.nx s + 1 else m.nx s := fun l hl hm => by rw [hl m' hm, hb]
 refine key _ ?_ h
 intro x hx
 unfold goesP at hx
 split at hx
 ·simp only [List.mem_singleton] at hx; rw [hx]
 ·dsimp only at hx
  generalize hm1 : (if o.kind ≠ 1 ∧ o.kind ≠ 5 then (m.bump t).addR t (m.wd o.loc) else m.bump t) = m1 at hx
  have h1 : m1.nx s = (m.bump t).nx s := by
   rw [← hm1]; split
   ·rw [nx_addR]
   ·rfl
  rw [← h1]
  split at hx
  ·simp only [List.mem_singleton] at hx; rw [hx, nx_setW]
  ·split at hx
   ·simp only [List.mem_singleton] at hx; rw [hx, nx_setW]
   ·split at hx
    ·split at hx
     ·simp only [List.mem_cons, List.not_mem_nil, or_false] at hx
      rcases hx with hx | hx
      ·rw [hx]
      ·rw [hx, nx_setW]
     ·simp only [List.mem_singleton] at hx; rw [hx, nx_setW]
    ·simp only [List.mem_singleton] at hx; rw [hx]

theorem walk_il {ts : List (List OpV)} (h3 : ts.length ≤ 3) : ∀ (f : Nat) (m : Mem), (∀ t, t < ts.length → m.nx t ≤ (ts[t]?.getD []).length) → ∀ x ∈ walkP ts f m, Il ts m x
 | 0, m, hle, x, hx => threads_il (rec := fun _ => []) (fun _ _ _ _ _ _ h => by cases h) hle ts 0 true rfl (fun _ s hs => absurd hs (by omega)) x hx
 | f + 1, m, hle, x, hx => by
  refine threads_il (rec := walkP ts f) (fun t o m' y ho hm hy => ?_) hle ts 0 true rfl (fun _ s hs => absurd hs (by omega)) x hx
  have ht : t < ts.length := by
   apply Classical.byContradiction
   intro hn
   rw [List.getElem?_eq_none (by omega : ts.length ≤ t)] at ho
   simp at ho
  refine walk_il h3 f m' (fun s hs => ?_) y hy
  rw [nx_goes (by omega) hm s (by omega)]
  split
  ·rename_i e; subst e
   exact (List.getElem?_eq_some_iff.1 ho).1
  ·exact hle s hs

/-- The outcomes of all interleavings are those of executions. -/
theorem walk_out {ts : List (List OpV)} (hc : checkP ts = 0) (f : Nat) : ∀ x ∈ walkP ts f mem0, IsOut (evsOf ts) x := fun x hx =>
 il_out hc (walk_il (checkP_small hc).2 f mem0 (fun t _ => by
  have h1 : mem0.nx t = 0 := by unfold Mem.nx mem0; split <;> (try split) <;> rfl
  rw [h1]; exact Nat.zero_le _) x hx) (relM_nil ts)

end Go.EV

namespace Go.EV
open Go.Proofs

theorem goes_len (m : Mem) (t : Nat) (o : OpV) : 1 ≤ (goesP m t o).length ∧ (goesP m t o).length ≤ 2 := by
 unfold goesP
 split
 ·simp
 ·dsimp only
  split
  ·simp
  ·split
   ·simp
   ·split
    ·split <;> simp
    ·simp

/-- How much is left to do. -/
def leftGo (m : Mem) : List (List OpV) → Nat → Nat
 | [], _ => 0
 | l :: ls, t => (l.length - m.nx t) + leftGo m ls (t + 1)
def leftP (ts : List (List OpV)) (m : Mem) : Nat := leftGo m ts 0

theorem left_zero {m : Mem} : ∀ (ls : List (List OpV)) (t : Nat), leftGo m ls t = 0 → ∀ s, s < ls.length → (ls[s]?.getD []).length ≤ m.nx (t + s)
 | [], t, _, s, hs => by simp at hs
 | l :: ls, t, h, s, hs => by
  simp only [leftGo] at h
  match s with
  | 0 => simp; omega
  | s + 1 =>
   have := left_zero (m := m) ls (t + 1) (by omega) s (by simpa using hs)
   simp only [List.getElem?_cons_succ]
   rw [show t + (s + 1) = t + 1 + s by omega]; exact this

theorem left_congr {m m' : Mem} : ∀ (ls : List (List OpV)) (t : Nat), (∀ s, t ≤ s → s < t + ls.length → m'.nx s = m.nx s) → leftGo m' ls t = leftGo m ls t
 | [], _, _ => rfl
 | l :: ls, t, h => by
  simp only [leftGo]
  rw [h t (Nat.le_refl _) (by simp), left_congr ls (t + 1) fun s h1 h2 => h s (by omega) (by simp only [List.length_cons]; omega)]

theorem left_step {m m' : Mem} {k : Nat} (hk : ∀ s, s < 3 → m'.nx s = if s = k then m.nx s + 1 else m.nx s) : ∀ (ls : List (List OpV)) (t : Nat), t + ls.length ≤ 3 → t ≤ k → k < t + ls.length → m.nx k < (ls[k - t]?.getD []).length → leftGo m' ls t + 1 = leftGo m ls t
 | [], t, _, h1, h2, _ => by simp at h2; omega
 | l :: ls, t, h3, h1, h2, hlt => by
  simp only [List.length_cons] at h2 h3
  simp only [leftGo]
  by_cases e : k = t
  ·subst e
   rw [Nat.sub_self] at hlt
   simp only [List.getElem?_cons_zero, Option.getD_some] at hlt
   rw [hk k (by omega), if_pos rfl, left_congr (m := m) (m' := m') ls (k + 1) fun s h4 h5 => by rw [hk s (by omega), if_neg (by omega)]]
   omega
  ·have := left_step hk ls (t + 1) (by omega) (by omega) (by omega) (by
    rw [show k - t = (k - (t + 1)) + 1 by omega] at hlt
    simpa using hlt)
   rw [hk t (by omega), if_neg (fun h => e h.symm)]
   omega

theorem threads_ne {rec : Mem → List (List Int)} {m : Mem} {ts : List (List OpV)} (hrec : ∀ t o m', (ts[t]?.getD [])[m.nx t]? = some o → m' ∈ goesP m t o → rec m' ≠ []) (hle : ∀ t, t < ts.length → m.nx t ≤ (ts[t]?.getD []).length) :
  ∀ (ls : List (List OpV)) (t : Nat), ls = ts.drop t → threadsP rec m ls t true ≠ []
 | [], t, _ => by simp [threadsP]
 | l :: ls, t, hls => by
  have ht : t < ts.length := by
   apply Classical.byContradiction
   intro h; rw [List.drop_eq_nil_of_le (by omega)] at hls; cases hls
  rw [List.drop_eq_getElem_cons ht] at hls
  obtain ⟨rfl, rfl⟩ := List.cons.inj hls
  have hget : ts[t]?.getD [] = ts[t] := by rw [List.getElem?_eq_getElem ht]; rfl
  have hlt := hle t ht
  rw [hget] at hlt
  simp only [threadsP]
  split
  ·exact threads_ne hrec hle _ (t + 1) rfl
  ·rename_i h
   have hop : (ts[t]?.getD [])[m.nx t]? = some (opAt ts[t] (m.nx t)) := by
    rw [hget, opAt, List.getElem?_eq_getElem (by omega)]; rfl
   intro e
   have e1 := (List.append_eq_nil_iff.1 e).1
   rw [List.flatMap_eq_nil_iff] at e1
   have h1 := (goes_len m t (opAt ts[t] (m.nx t))).1
   exact hrec t _ _ hop (List.getElem_mem (n := 0) (by omega)) (e1 _ (List.getElem_mem (n := 0) (by omega)))

theorem walk_ne {ts : List (List OpV)} (h3 : ts.length ≤ 3) : ∀ (f : Nat) (m : Mem), (∀ t, t < ts.length → m.nx t ≤ (ts[t]?.getD []).length) → leftP ts m ≤ f → walkP ts f m ≠ []
 | 0, m, hle, hl => by
  refine threads_ne (rec := fun _ => []) (fun t o m' ho _ => ?_) hle ts 0 rfl
  have ht : t < ts.length := by
   apply Classical.byContradiction
   intro hn
   rw [List.getElem?_eq_none (by omega : ts.length ≤ t)] at ho
   simp at ho
  have := left_zero (m := m) ts 0 (by unfold leftP at hl; omega) t ht
  have h5 := (List.getElem?_eq_some_iff.1 ho).1
  rw [Nat.zero_add] at this
  omega
 | f + 1, m, hle, hl => by
  refine threads_ne (rec := walkP ts f) (fun t o m' ho hm => ?_) hle ts 0 rfl
  have ht : t < ts.length := by
   apply Classical.byContradiction
   intro hn
   rw [List.getElem?_eq_none (by omega : ts.length ≤ t)] at ho
   simp at ho
  have h5 := (List.getElem?_eq_some_iff.1 ho).1
  have hnx := nx_goes (by omega) hm
  refine walk_ne h3 f m' (fun s hs => ?_) ?_
  ·rw [hnx s (by omega)]
   split
   ·rename_i e; subst e; exact h5
   ·exact hle s hs
  ·have := left_step (m := m) (m' := m') (k := t) hnx ts 0 (by omega) (by omega) (by omega) (by simpa using h5)
   unfold leftP at hl ⊢
   omega

end Go.EV

namespace Go.EV
open Go.Proofs

theorem okOp_one {o : OpV} (h : checkP [[o]] = 0) : okOp o = true := by
 obtain ⟨_, _, hall⟩ := checkP_zero h
 exact List.all_eq_true.1 hall o (by simp)
theorem str_refl {o : OpV} (h : okOp o = true) : StrO o o := ⟨h, h, rfl, rfl, rfl, rfl, by simp [aboveP]⟩
theorem rai_str {x : Int} {o : OpV} (h : okOp o = true) : StrO o (raiO x o) := by
 unfold raiO
 split
 ·rename_i hc
  simp only [Bool.and_eq_true, decide_eq_true_eq] at hc
  obtain ⟨h1, h2, h3⟩ := hc
  have h4 : stB { o with ord := rOrd x } o = true := by
   simp only [atlP, eqfP, Bool.and_true] at h3; exact h3
  simp only [stB, Bool.and_eq_true, decide_eq_true_eq] at h4
  exact ⟨h, okOp_one h1, rfl, rfl, rfl, rfl, h4.1.2⟩
 ·exact str_refl h
theorem raiL_str (by_ : List Int) : ∀ (k : Nat) (l : List OpV), (∀ o ∈ l, okOp o = true) → F2 StrO l (raiL by_ k l)
 | _, [], _ => .nil
 | k, o :: l, h => by
  refine .cons ?_ (raiL_str by_ (k + 1) l fun o ho => h o (List.mem_cons_of_mem _ ho))
  have h0 := h o (List.mem_cons_self ..)
  split
  ·exact rai_str h0
  ·exact str_refl h0
theorem raiT_str (by_ : List Int) : ∀ (k : Nat) (ts : List (List OpV)), (∀ l ∈ ts, ∀ o ∈ l, okOp o = true) → StrT ts (raiT by_ k ts)
 | _, [], _ => .nil
 | k, t :: ts, h => .cons (raiL_str by_ k t (h t (List.mem_cons_self ..))) (raiT_str by_ _ ts fun l hl => h l (List.mem_cons_of_mem _ hl))
theorem stB_of {o o' : OpV} (h : StrO o o') : stB o' o = true := by
 obtain ⟨_, k2, _⟩ := okOp_ord h.ok
 obtain ⟨_, k2', _⟩ := okOp_ord h.ok'
 simp only [stB, isOrderP, Bool.and_eq_true, decide_eq_true_eq]
 exact ⟨⟨⟨k2', k2⟩, h.ord⟩, h.kind, h.loc, h.v, h.w⟩
theorem eqf_of {α β : Type} {R : α → β → Prop} {f : β → α → Bool} (hf : ∀ a b, R a b → f b a = true) : ∀ {l : List α} {m : List β}, F2 R l m → eqfP f m l = true
 | _, _, .nil => rfl
 | _, _, .cons h t => by simp only [eqfP, hf _ _ h, eqf_of hf t, Bool.and_self]
theorem atl_of {ts us : List (List OpV)} (h : StrT ts us) : atlP us ts = true := eqf_of (fun _ _ h => eqf_of (fun _ _ h => stB_of h) h) h
theorem raiT_mem (by_ : List Int) : ∀ (k : Nat) (ts : List (List OpV)) (l : List OpV), l ∈ raiT by_ k ts → ∃ t ∈ ts, l.length = t.length
 | _, [], l, h => by simp [raiT] at h
 | k, t :: ts, l, h => by
  simp only [raiT, List.mem_cons] at h
  rcases h with rfl | h
  ·exact ⟨t, List.mem_cons_self .., raiL_len _ _ _⟩
  ·obtain ⟨t', h1, h2⟩ := raiT_mem by_ _ ts l h
   exact ⟨t', List.mem_cons_of_mem _ h1, h2⟩
/-- A program has an outcome. -/
theorem some_out {ts : List (List OpV)} (hc : checkP ts = 0) : ∃ x, IsOut (evsOf ts) x := by
 have h1 : mem0.nx = fun _ => 0 := by funext t; unfold Mem.nx mem0; split <;> (try split) <;> rfl
 have := walk_ne (checkP_small hc).2 (leftP ts mem0) mem0 (fun t _ => by rw [h1]; exact Nat.zero_le _) (Nat.le_refl _)
 obtain ⟨x, hx⟩ := List.exists_mem_of_ne_nil _ this
 exact ⟨x, walk_out hc _ x hx⟩

section
variable {M : PHeap}

set_option maxHeartbeats 8000000 in
theorem AxiomStronger_c (ts : List (List OpV)) (s : Value) (hs : SlSl M 5 encOp s ts) (hb : Sized ts) (by_ : List Int) (bv : Value) (hbv : Sl M 1 ei bv by_) :
  Con Tryz.prog 5 #[.agg #[s], bv] M [] fun u _ _ => u = vb true := by
 have hs0 := hs
 have hbv0 := hbv
 obtain ⟨a, c, vs, rfl, hl, hrd, hk⟩ := hs
 obtain ⟨ba, bc, rfl, hbr⟩ := hbv
 refine Con.enter Q55_ok (args := [.agg #[.slice a ts.length c], .slice ba by_.length bc]) (by simp [Q55]) fun w0 => ?_
 simp only [Q55, argE]
 repeat' first
   | refine EV.seq ?_
   | (refine EV.reg ?_; (conv => (arg 2; whnf)); (refine nx ?_; try with_reducible exact ⟨⟩))
   | (with_reducible intro b; try (refine nx ?_; try with_reducible exact ⟨⟩))
   | fail
 refine Con.callS (G1 := []) awake_c ?_
 rintro v M1 G1 hM1 rfl
 simp only [wpS, wpA, wpQL, push_cast, Int.cast_ofNat_Int, reduceIte, Nat.reduceEqDiff, reduceCtorEq, Nat.reduceAdd, Nat.reduceSub, Nat.reduceMul, Int.reduceToNat, Nat.reduceLeDiff]
 repeat' first
   | refine EV.seq ?_
   | refine EV.skip ?_
   | (refine EV.reg ?_; (conv => (arg 2; whnf)); (refine nx ?_; try with_reducible exact ⟨⟩))
   | (refine EV.condX rfl (fun h => ?_) (fun h => ?_) <;> try exact dead h)
   | (refine xrA rfl ?_; try (refine nx ?_; try with_reducible exact ⟨⟩))
   | fail
 obtain ⟨pb, rfl⟩ : ∃ x, x = b := ⟨_, rfl⟩
 refine Con.callS (G1 := []) (ax_Outcomes_c ts _ (hs0.mono hM1) hb) ?_
 rintro v M2 G2 hM2 (⟨hne, rfl⟩ | ⟨hck, s', outs, rfl, ho, hs'⟩)
 ·simp only [wpS, wpA, wpQL, push_cast, Int.cast_ofNat_Int, reduceIte, Nat.reduceEqDiff, reduceCtorEq, Nat.reduceAdd, Nat.reduceSub, Nat.reduceMul, Int.reduceToNat, Nat.reduceLeDiff]
  repeat' first
    | refine EV.seq ?_
    | (refine EV.reg ?_; (conv => (arg 2; whnf)); simp only [wpS, wpA, wpQL, push_cast, Int.cast_ofNat_Int, reduceIte, Nat.reduceEqDiff, reduceCtorEq, Nat.reduceAdd, Nat.reduceSub, Nat.reduceMul, Int.reduceToNat, Nat.reduceLeDiff, hne])
    | (refine EV.condX rfl (fun h => ?_) (fun h => ?_) <;> try exact dead h)
    | fail
  refine EV.ret Q55_ok ?_
  simp only [wpS, wpA, wpQL, push_cast, Int.cast_ofNat_Int, reduceIte, Nat.reduceEqDiff, reduceCtorEq, Nat.reduceAdd, Nat.reduceSub, Nat.reduceMul, Int.reduceToNat, Nat.reduceLeDiff, Q55]
  try simp
 have hp1 := evs_pok hck
 have hok : ∀ l ∈ ts, ∀ o ∈ l, okOp o = true := fun l hl o ho => by
  obtain ⟨_, _, hall⟩ := checkP_zero hck
  exact List.all_eq_true.1 hall o (List.mem_flatten.2 ⟨l, hl, ho⟩)
 have hstr := raiT_str by_ 0 ts hok
 have hM12 := PHeap.le_trans hM1 hM2
 obtain ⟨ua, uc, us, rfl, hul, hurd, huk⟩ := hs'.sl
 simp only [wpS, wpA, wpQL, push_cast, Int.cast_ofNat_Int, reduceIte, Nat.reduceEqDiff, reduceCtorEq, Nat.reduceAdd, Nat.reduceSub, Nat.reduceMul, Int.reduceToNat, Nat.reduceLeDiff]
 repeat' first
   | refine EV.seq ?_
   | refine EV.skip ?_
   | (refine EV.reg ?_; (conv => (arg 2; whnf)); (refine nx ?_; try with_reducible exact ⟨⟩))
   | (refine EV.condX rfl (fun h => ?_) (fun h => ?_) <;> try exact dead h)
   | (refine xrA rfl ?_; try (refine nx ?_; try with_reducible exact ⟨⟩))
   | fail
 refine Con.callS (G1 := []) (raised_c ts _ (hs0.mono hM12) hb hck by_ _ (hbv0.mono hM12)) ?_
 rintro v M3 G3 hM3 ⟨sq, rfl, hsq⟩
 simp only [wpS, wpA, wpQL, push_cast, Int.cast_ofNat_Int, reduceIte, Nat.reduceEqDiff, reduceCtorEq, Nat.reduceAdd, Nat.reduceSub, Nat.reduceMul, Int.reduceToNat, Nat.reduceLeDiff]
 have hbq : Sized (raiT by_ 0 ts) := ⟨by rw [raiT_len]; exact hb.1, fun l hl => by obtain ⟨t, h1, h2⟩ := raiT_mem by_ 0 ts l hl; rw [h2]; exact hb.2 t h1⟩
 obtain ⟨qs, hqs⟩ : ∃ qs, qs = raiT by_ 0 ts := ⟨_, rfl⟩
 rw [← hqs] at hstr hsq hbq
 have hatl := fun G => litmus_AtLeast_q (M := M3.add G) qs ts _ _ (hsq.mono (PHeap.le_add _ _)) ((hs0.mono (PHeap.le_trans hM12 hM3)).mono (PHeap.le_add _ _)) hbq hb
 have hsq0 := hsq
 obtain ⟨qa, qc, qvs, rfl, _⟩ := hsq
 repeat' first
   | refine EV.seq ?_
   | (refine EV.reg ?_; (conv => (arg 2; whnf)); (refine nx ?_; try with_reducible exact ⟨⟩))
   | ((first | refine ConQ.call (hatl _) ?_ | with_reducible intro b | refine xrA rfl ?_ | fail); try (refine nx ?_; try with_reducible exact ⟨⟩))
   | (refine xw ?_; (refine nx ?_; try with_reducible exact ⟨⟩))
   | fail
 refine Con.callS (G1 := []) (ax_Outcomes_c qs _ hsq0 hbq) ?_
 rintro v M4 G4 hM4 (⟨hne, rfl⟩ | ⟨hckq, s2, outs2, rfl, ho2, hs2⟩)
 ·have hchk := fun G => litmus_Check_q (M := M4.add G) qs _ ((hsq0.mono hM4).mono (PHeap.le_add _ _)) hbq
  simp only [wpS, wpA, wpQL, push_cast, Int.cast_ofNat_Int, reduceIte, Nat.reduceEqDiff, reduceCtorEq, Nat.reduceAdd, Nat.reduceSub, Nat.reduceMul, Int.reduceToNat, Nat.reduceLeDiff]
  repeat' first
    | refine EV.seq ?_
    | (refine EV.reg ?_; (conv => (arg 2; whnf)); simp only [wpS, wpA, wpQL, push_cast, Int.cast_ofNat_Int, reduceIte, Nat.reduceEqDiff, reduceCtorEq, Nat.reduceAdd, Nat.reduceSub, Nat.reduceMul, Int.reduceToNat, Nat.reduceLeDiff, hne])
    | (refine ConQ.call (hchk _) ?_; try simp only [wpS, wpA, wpQL, push_cast, Int.cast_ofNat_Int, reduceIte, Nat.reduceEqDiff, reduceCtorEq, Nat.reduceAdd, Nat.reduceSub, Nat.reduceMul, Int.reduceToNat, Nat.reduceLeDiff, hne])
    | with_reducible assumption
    | (refine condW.merge ?_ (fun hc K' hK => ?_) ?_; rotate_left)
    | (refine EV.condX rfl (fun h => ?_) (fun h => ?_) <;> try exact dead h)
    | (refine xrA rfl ?_; try simp only [wpS, wpA, wpQL, push_cast, Int.cast_ofNat_Int, reduceIte, Nat.reduceEqDiff, reduceCtorEq, Nat.reduceAdd, Nat.reduceSub, Nat.reduceMul, Int.reduceToNat, Nat.reduceLeDiff, hne])
    | fail
  refine EV.ret Q55_ok ?_
  simp only [wpS, wpA, wpQL, push_cast, Int.cast_ofNat_Int, reduceIte, Nat.reduceEqDiff, reduceCtorEq, Nat.reduceAdd, Nat.reduceSub, Nat.reduceMul, Int.reduceToNat, Nat.reduceLeDiff, Q55]
  try simp
 have hpq := evs_pok hckq
 have hat : atlP qs ts = true := atl_of hstr
 have hfew := outs_few hp1 (evs_mono ts) (evs_few hck) ho.nodup (fun x hx => (outs_iff ho).1 hx)
 have hfew2 := outs_few hpq (evs_mono qs) (evs_few hckq) ho2.nodup (fun x hx => (outs_iff ho2).1 hx)
 have hout2l : ∀ x ∈ outs, x.length ≤ 281474976710656 := fun x hx => by
  obtain ⟨r, a, b, c, rfl, hr⟩ := isOut_len hp1 ((outs_iff ho).1 hx)
  have := hp1.len
  rw [List.length_append]; simp; omega
 have hin : ∀ x ∈ outs2, x ∈ outs := fun x hx => (outs_iff ho).2 (stronger_out hstr hck hckq ((outs_iff ho2).1 hx))
 have hpos : 0 < outs2.length := by
  obtain ⟨x, hx⟩ := some_out hckq
  exact List.length_pos_of_mem ((outs_iff ho2).2 hx)
 have hxl : ∀ x ∈ outs2, x.length ≤ 281474976710656 := fun x hx => hout2l x (hin x hx)
 obtain ⟨ma, mc, ms, rfl, hml, hmrd, hmk⟩ := hs2.sl
 rw [hckq, hck, hat]
 have hlz : ((outs2.length : Int) = 0) = False := eq_false (by omega)
 simp only [wpS, wpA, wpQL, push_cast, Int.cast_ofNat_Int, reduceIte, Nat.reduceEqDiff, reduceCtorEq, Nat.reduceAdd, Nat.reduceSub, Nat.reduceMul, Int.reduceToNat, Nat.reduceLeDiff]
 repeat' first
   | refine EV.seq ?_
   | refine EV.skip ?_
   | refine EV.block ?_
   | (refine EV.reg ?_; (conv => (arg 2; whnf)); simp only [wpS, wpA, wpQL, push_cast, Int.cast_ofNat_Int, reduceIte, Nat.reduceEqDiff, reduceCtorEq, Nat.reduceAdd, Nat.reduceSub, Nat.reduceMul, Int.reduceToNat, Nat.reduceLeDiff, hlz])
   | with_reducible assumption
   | (refine condW.merge ?_ (fun hc K' hK => ?_) ?_; rotate_left)
   | (refine EV.condX rfl (fun h => ?_) (fun h => ?_) <;> try exact dead h)
   | fail
 ·exfalso; simp at h
 refine EV.reS (G' := []) ?_
 have hM34 := PHeap.le_trans hM3 hM4
 refine EV.loopTo (fun i : Nat => ([(5, .slice ua outs.length uc), (10, .slice ma outs2.length mc), (12, vi i)], M4, [])) (fun i => i ≤ outs2.length) (fun i => outs2.length - i) 0 rfl (Nat.zero_le _) ?env3 (List.nil_sublist _) ?_
 case env3 =>
  repeat' first
   | (refine List.forall_mem_cons.2 (And.intro ?_ ?_))
   | (intro _ hnil; cases hnil; done)
   | rfl
   | fail
 intro i hi ih
 dsimp only at hi ih ⊢
 repeat' first
   | refine EV.seq ?_
   | refine EV.skip ?_
   | refine EV.block ?_
   | (refine EV.reg ?_; (conv => (arg 2; whnf)); (refine nx ?_; try with_reducible exact ⟨⟩))
   | (refine EV.condX rfl (fun h => ?_) (fun h => ?_) <;> try exact dead h)
   | (refine EV.exit rfl ?_)
   | fail
 ·have hi' : i < outs2.length := by omega
  obtain ⟨ub, uo, rfl, hat⟩ := SlSl.at hmrd hml hmk (by omega)
  obtain ⟨a', c', hr1, hr2⟩ := hat i hi'
  simp only [Nat.mul_one] at hr1
  have hyin := hin _ (List.getElem_mem hi')
  have hyl := hxl _ (List.getElem_mem hi')
  generalize outs2[i] = y at hr1 hr2 hyin hyl
  have hsl : SlSl M4 1 ei (.slice ua outs.length uc) outs := ⟨ua, uc, us, rfl, hul, hurd.mono hM34, fun i h1 h2 => (huk i h1 h2).mono hM34⟩
  have hwi := fun G => r1_Within_q (M := M4.add G) outs y _ _ (hsl.mono (PHeap.le_add _ _)) ⟨a', c', rfl, hr2.mono (PHeap.le_add _ _)⟩ ho.1 (by omega) (by omega) hout2l
  rw [decide_eq_true hyin] at hwi
  repeat' first
    | refine EV.skip ?_
    | refine EV.inBlock ?_
    | (refine EV.reg ?_; (conv => (arg 2; whnf)); (refine nx ?_; try with_reducible exact ⟨⟩))
    | (refine ConQ.call (hwi _) ?_; try (refine nx ?_; try with_reducible exact ⟨⟩))
    | (refine EV.condX rfl (fun h => ?_) (fun h => ?_) <;> try exact dead h)
    | (refine And.intro (by omega) ?_)
    | (refine Exists.intro _ (Exists.intro _ (Exists.intro _ (And.intro (rd_M (by assumption)) ?_))); try (refine nx ?_; try with_reducible exact ⟨⟩))
    | fail
  refine EV.to (ih (i + 1) (by omega) (by omega)) ?_ (List.Sublist.refl _)
  repeat' first
   | (refine List.forall_mem_cons.2 (And.intro ?_ ?_))
   | (intro _ hnil; cases hnil; done)
   | rfl
   | (refine env_w64 rfl (by first | rfl | (push_cast; first | rfl | omega)) (by omega) (by omega); done)
   | fail
 ·refine EV.ret Q55_ok ?_
  simp only [wpS, wpA, wpQL, push_cast, Int.cast_ofNat_Int, reduceIte, Nat.reduceEqDiff, reduceCtorEq, Nat.reduceAdd, Nat.reduceSub, Nat.reduceMul, Int.reduceToNat, Nat.reduceLeDiff, Q55]

end
end Go.EV

namespace Go.Proofs.YtmgnpoleilcjoaaGreat.axiomStronger
open Go.ChangeShapes Go.WideShapes Go.ChangeAt Go.RowKit Go.EV
set_option linter.unusedVariables false

theorem own : ownKnob Tryz.prog.godebug = none := by kernel_rfl

set_option maxRecDepth 100000 in
theorem lifted (os : Os) (started : os.Started) (H : Type) (enc : TypeId × Value → H) :
  ReturnsInHanded {} Tryz.checked os 5 .any (Rows.axiomStrongerSpec.pre6 enc Tryz.prog Tryz.f5 Rows.axiomStrongerRow.domain false) (Rows.axiomStrongerSpec.post enc Tryz.prog Tryz.f5 false true false false) := by
 refine returnsInHanded_of_change_shaped (C := Tryz.checked) own started (by kernel_rfl) Tryz.func5
  (ChangeSpec.witness6 (enc := enc) (C := Tryz.checked) false ⟨#[], #[.agg #[.slice none 0 0], .slice none 0 0], []⟩ 8 (by kernel_rfl) (by kernel_rfl) (by kernel_rfl) (by kernel_rfl)) ?_
 intro W base args ds gs before hval0 hW hcnd hwt _ _
 have hval : ∀ (j : Nat) t v, Tryz.f5.params[j]? = some t → args[j]? = some v → Value.okWide Tryz.prog W .any base t v := hval0
 have hW' := hW
 obtain ⟨p, q, hA0, hV, rfl, hfz, hnd⟩ := hW
 have hA : DataW.TrodAll enc Tryz.prog W 0 (fun _ => true) true Tryz.f5.params.toList args.toList ds p := hA0
 have hA1 := hA
 rw [Tryz.params5] at hA hval
 obtain ⟨v0, vs0, d0, ds0, p0, q0, hargs, rfl, rfl, h0, r0⟩ := trodAll_cons hA
 obtain ⟨v1, vs1, d1, ds1, p1, q1, rfl, rfl, rfl, h1, r1⟩ := trodAll_cons r0
 obtain ⟨rfl, rfl, rfl⟩ := trodAll_nil r1
 obtain rfl : args = #[v0, v1] := by cases args; simp_all
 obtain ⟨rfl, rfl⟩ := trodVars_none hV
 have k0 := hval 0 24 v0 rfl rfl
 simp only [Value.okWide, Tryz.underlying24] at k0
 obtain ⟨cs0, rfl, _, _⟩ := k0
 have k1 := hval 1 34 v1 rfl rfl
 obtain ⟨a1, n1, c1, rfl⟩ := okWide_slice Tryz.underlying34 k1
 obtain ⟨m1, h1⟩ := h1
 obtain ⟨m0, h0⟩ := h0
 have hwt2 : (DataW.weightsEach Tryz.prog [24, 34] [d0, d1]).all (· ≤ reachBytes) = true := hwt
 simp only [DataW.weightsEach, List.all_append, Bool.and_eq_true] at hwt2
 obtain ⟨hw0, hw1, _⟩ := hwt2
 obtain ⟨s, ts, hcs, hs, hb, hb2⟩ := litmus_in h0 hw0
 have hcs2 : cs0 = #[s] := by
  have : cs0.toList = [s] := hcs
  exact Array.ext' this
 subst hcs2
 obtain ⟨by_, hby, _⟩ := ints_in h1 hw1
 have hrb : reachBytes ≤ 140737488355328 := by decide
 refine (Con.at2 (AxiomStronger_c ts s hs ⟨by omega, fun t ht => by have := hb2 t ht; omega⟩ by_ _ hby)).mono fun e W' hX => ?_
 obtain ⟨v, rfl, ⟨_, _, rfl⟩, hk, hfr⟩ := hX
 have hlt := hW'.lt
 exact ⟨_, rfl, post_of_kept (pv := []) hW' (fun _ _ _ => (trodAll_cons_mk (shut_bool Tryz.underlying4 _) trodAll_mk0)) (fun sp hsp => trodAll_kept kids rows_pos' hfr (by rw [Tryz.params5]; exact of_decide_eq_true (by kernel_rfl)) hA1 (fun r hr => hlt r (by simpa using hr)) (fun r hr => hsp r (by simpa using hr))) (fun _ _ => rfl) rfl hk⟩

theorem over : Rows.axiomStrongerRow.holds Tryz.pinned (OpenSpec.ofChange Rows.axiomStrongerSpec) :=
 OpenClaim.holds_of_wide 5 Tryz.f5 rfl rfl rfl rfl rfl rfl rfl ⟨rfl, rfl, rfl, rfl, rfl⟩ rfl rfl rfl rfl rfl (by kernel_rfl) Tryz.func5 (by kernel_rfl)
  (of_decide_eq_true (by kernel_rfl)) (by unfold Func.isWrapper; first | (rw [if_pos (by decide +kernel)]; kernel_rfl) | (rw [if_neg (by decide +kernel)]; exact ⟨rfl, rfl⟩))
  (fun os started H enc _ => lifted os started H enc)

/-- The statement. -/
theorem proved : Rows.AxiomStrongerSaid :=
 over
#print axioms proved
end Go.Proofs.YtmgnpoleilcjoaaGreat.axiomStronger
