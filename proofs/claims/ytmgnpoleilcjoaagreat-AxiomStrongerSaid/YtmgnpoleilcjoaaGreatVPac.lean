/- Memory orders: what the functions of the package order compute. Litmus programs: what the functions of the package litmus compute. litmus.Check. litmus.strongFence, litmus.Expand$1. Nothing of its own. litmus.rebuilt, litmus.Expand. litmus.Expand. The calculus EV, part 18: loops over functions: rounds. The calculus EV, part 19: loops over functions, whole; returns behind them. The calculus EV, part 20: more helpers of proofs. The events of a program: what the methods of an event tell; the events, numbered. The events that have some property. The events that write a location. What each event reads and writes. Relations: rows of bits. Steps, exchanges, where releases start and acquires end. What is before what. What the locations tell: eco. -/
import Derived.Test.YtmgnpoleilcjoaaGreatVPab
import Derived.RangeFuncIn
import Derived.RangeFuncNested
set_option maxRecDepth 8000
set_option linter.unusedSimpArgs false
set_option linter.unusedVariables false
set_option linter.unusedSectionVars false
namespace Go.EV
open Go.Proofs

abbrev vi (n : Int) : Value := .int .i64 n
abbrev vb (b : Bool) : Value := .bool b

def bitsP (o : Int) : Int := if o = 4 then 7 else o
def isOrderP (o : Int) : Bool := decide (0 ≤ o) && decide (o < 5)
def mayP (k o : Int) : Bool :=
 if k = 0 then !decide (o = 2) && !decide (o = 3) else if k = 1 then !decide (o = 1) && !decide (o = 3) else if k = 5 then !decide (o = 0) else true

section
variable {M : PHeap}

theorem order_bits_q (o : Int) : ConQ Tryz.prog 132 #[vi o] M (vi (bitsP o)) := by
 refine Con.enter Q68_ok (args := [vi o]) (by simp [Q68]) fun w0 => ?_
 simp only [Q68, argE]
 repeat' first
   | refine EV.seq ?_
   | refine EV.skip ?_
   | (refine EV.reg ?_; (conv => (arg 2; whnf)); (refine nx ?_; try with_reducible exact ⟨⟩))
   | (refine EV.condX rfl (fun h => ?_) (fun h => ?_) <;> try exact dead h)
   | (refine EV.ret Q68_ok ?_; simp only [wpS, wpA, wpQL, push_cast, Int.cast_ofNat_Int, reduceIte, Nat.reduceEqDiff, reduceCtorEq, Nat.reduceAdd, Nat.reduceSub, Nat.reduceMul, Int.reduceToNat, Nat.reduceLeDiff, Q68])
   | fail
 all_goals simp_all [bitsP]

theorem order_isOrder_q (o : Int) : ConQ Tryz.prog 96 #[vi o] M (vb (isOrderP o)) := by
 refine Con.enter Q70_ok (args := [vi o]) (by simp [Q70]) fun w0 => ?_
 simp only [Q70, argE]
 repeat' first
   | refine EV.seq ?_
   | (refine EV.reg ?_; (conv => (arg 2; whnf)); (refine nx ?_; try with_reducible exact ⟨⟩))
   | with_reducible assumption
   | (refine condW.merge ?_ (fun hc K' hK => ?_) ?_; rotate_left)
   | (refine EV.ret Q70_ok ?_; simp only [wpS, wpA, wpQL, push_cast, Int.cast_ofNat_Int, reduceIte, Nat.reduceEqDiff, reduceCtorEq, Nat.reduceAdd, Nat.reduceSub, Nat.reduceMul, Int.reduceToNat, Nat.reduceLeDiff, Q70])
   | fail
 all_goals simp_all [isOrderP]

theorem order_may_q (k o : Int) : ConQ Tryz.prog 99 #[vi k, vi o] M (vb (mayP k o)) := by
 refine Con.enter Q71_ok (args := [vi k, vi o]) (by simp [Q71]) fun w0 => ?_
 simp only [Q71, argE]
 repeat' first
   | refine EV.seq ?_
   | refine EV.skip ?_
   | refine EV.block ?_
   | refine EV.inBlock ?_
   | (refine EV.reg ?_; (conv => (arg 2; whnf)); (refine nx ?_; try with_reducible exact ⟨⟩))
   | with_reducible assumption
   | (refine condW.merge ?_ (fun hc K' hK => ?_) ?_; rotate_left)
   | (refine EV.condX rfl (fun h => ?_) (fun h => ?_) <;> try exact dead h)
   | (refine EV.ret Q71_ok ?_; simp only [wpS, wpA, wpQL, push_cast, Int.cast_ofNat_Int, reduceIte, Nat.reduceEqDiff, reduceCtorEq, Nat.reduceAdd, Nat.reduceSub, Nat.reduceMul, Int.reduceToNat, Nat.reduceLeDiff, Q71])
   | fail
 all_goals simp_all [mayP]


def mayR (k o : Int) : Bool := decide (0 ≤ k) && decide (k < 6) && isOrderP o
theorem order_May_q (k o : Int) : ConQ Tryz.prog 64 #[vi k, vi o] M (.tuple #[vb (mayR k o && mayP k o), vi (if mayR k o then 0 else 1)]) := by
 refine Con.enter Q65_ok (args := [vi k, vi o]) (by simp [Q65]) fun w0 => ?_
 simp only [Q65, argE]
 repeat' first
   | refine EV.seq ?_
   | refine EV.skip ?_
   | (refine EV.reg ?_; (conv => (arg 2; whnf)); (refine nx ?_; try with_reducible exact ⟨⟩))
   | ((first | refine ConQ.call (order_may_q _ _) ?_ | refine ConQ.call (order_isOrder_q _) ?_ | fail); try (refine nx ?_; try with_reducible exact ⟨⟩))
   | with_reducible assumption
   | (refine condW.merge ?_ (fun hc K' hK => ?_) ?_; rotate_left)
   | (refine EV.condX rfl (fun h => ?_) (fun h => ?_) <;> try exact dead h)
   | (refine EV.ret Q65_ok ?_; simp only [wpS, wpA, wpQL, push_cast, Int.cast_ofNat_Int, reduceIte, Nat.reduceEqDiff, reduceCtorEq, Nat.reduceAdd, Nat.reduceSub, Nat.reduceMul, Int.reduceToNat, Nat.reduceLeDiff, Q65])
   | fail
 all_goals (simp [mayR]; grind)

def acqP (o : Int) : Bool := decide (o = 1) || decide (o = 3) || decide (o = 4)
def relP (o : Int) : Bool := decide (o = 2) || decide (o = 3) || decide (o = 4)

theorem isOrder_cases {o : Int} (h : isOrderP o = true) : o = 0 ∨ o = 1 ∨ o = 2 ∨ o = 3 ∨ o = 4 := by
 simp [isOrderP] at h; omega

theorem order_Acquires_q (o : Int) (ho : isOrderP o = true) : ConQ Tryz.prog 159 #[vi o] M (.tuple #[vb (acqP o), vi 0]) := by
 refine Con.enter Q63_ok (args := [vi o]) (by simp [Q63]) fun w0 => ?_
 simp only [Q63, argE]
 repeat' first
   | refine EV.seq ?_
   | refine EV.skip ?_
   | (refine EV.reg ?_; (conv => (arg 2; whnf)); (refine nx ?_; try with_reducible exact ⟨⟩))
   | ((first | refine ConQ.call (order_bits_q _) ?_ | refine ConQ.call (order_isOrder_q _) ?_ | fail); try (refine nx ?_; try with_reducible exact ⟨⟩))
   | (refine EV.condX rfl (fun h => ?_) (fun h => ?_) <;> try exact dead h)
   | (refine EV.ret Q63_ok ?_; simp only [wpS, wpA, wpQL, push_cast, Int.cast_ofNat_Int, reduceIte, Nat.reduceEqDiff, reduceCtorEq, Nat.reduceAdd, Nat.reduceSub, Nat.reduceMul, Int.reduceToNat, Nat.reduceLeDiff, Q63])
   | fail
 all_goals (first | (cases (ho.symm.trans h); done) | (rcases isOrder_cases ho with rfl | rfl | rfl | rfl | rfl <;> (congr 3 <;> decide)))

theorem order_Releases_q (o : Int) (ho : isOrderP o = true) : ConQ Tryz.prog 158 #[vi o] M (.tuple #[vb (relP o), vi 0]) := by
 refine Con.enter Q67_ok (args := [vi o]) (by simp [Q67]) fun w0 => ?_
 simp only [Q67, argE]
 repeat' first
   | refine EV.seq ?_
   | refine EV.skip ?_
   | (refine EV.reg ?_; (conv => (arg 2; whnf)); (refine nx ?_; try with_reducible exact ⟨⟩))
   | ((first | refine ConQ.call (order_bits_q _) ?_ | refine ConQ.call (order_isOrder_q _) ?_ | fail); try (refine nx ?_; try with_reducible exact ⟨⟩))
   | (refine EV.condX rfl (fun h => ?_) (fun h => ?_) <;> try exact dead h)
   | (refine EV.ret Q67_ok ?_; simp only [wpS, wpA, wpQL, push_cast, Int.cast_ofNat_Int, reduceIte, Nat.reduceEqDiff, reduceCtorEq, Nat.reduceAdd, Nat.reduceSub, Nat.reduceMul, Int.reduceToNat, Nat.reduceLeDiff, Q67])
   | fail
 all_goals (first | (cases (ho.symm.trans h); done) | (rcases isOrder_cases ho with rfl | rfl | rfl | rfl | rfl <;> (congr 3 <;> decide)))

def plainP (k o : Int) : Int := if o ≠ 4 then o else if k = 0 then 1 else if k = 1 then 2 else 3
theorem order_Plain_q (k o : Int) (hk : mayR k o = true) (hm : mayP k o = true) (h5 : k ≠ 5) : ConQ Tryz.prog 72 #[vi k, vi o] M (.tuple #[vi (plainP k o), vi 0]) := by
 refine Con.enter Q66_ok (args := [vi k, vi o]) (by simp [Q66]) fun w0 => ?_
 simp only [Q66, argE]
 repeat' first
   | refine EV.seq ?_
   | refine EV.skip ?_
   | refine EV.block ?_
   | refine EV.inBlock ?_
   | (refine EV.reg ?_; (conv => (arg 2; whnf)); (refine nx ?_; try with_reducible exact ⟨⟩))
   | (refine ConQ.call (order_May_q _ _) ?_; try (refine nx ?_; try with_reducible exact ⟨⟩))
   | with_reducible assumption
   | (refine condW.merge ?_ (fun hc K' hK => ?_) ?_; rotate_left)
   | (refine EV.condX rfl (fun h => ?_) (fun h => ?_) <;> try exact dead h)
   | (refine EV.ret Q66_ok ?_; simp only [wpS, wpA, wpQL, push_cast, Int.cast_ofNat_Int, reduceIte, Nat.reduceEqDiff, reduceCtorEq, Nat.reduceAdd, Nat.reduceSub, Nat.reduceMul, Int.reduceToNat, Nat.reduceLeDiff, Q66])
   | fail
 all_goals simp_all [plainP]

/-- An operation of a litmus program. -/
structure OpV where
 kind : Int
 loc : Int
 v : Int
 w : Int
 ord : Int
 deriving DecidableEq

abbrev encOp (o : OpV) : List Value := [vi o.kind, vi o.loc, vi o.v, vi o.w, vi o.ord]
abbrev vop (o : OpV) : Value := .agg #[vi o.kind, vi o.loc, vi o.v, vi o.w, vi o.ord]

def digitP (n : Int) : Bool := decide (0 ≤ n) && decide (n ≤ 9)
theorem litmus_digit_q (n : Int) : ConQ Tryz.prog 100 #[vi n] M (vb (digitP n)) := by
 refine Con.enter Q50_ok (args := [vi n]) (by simp [Q50]) fun w0 => ?_
 simp only [Q50, argE]
 repeat' first
   | refine EV.seq ?_
   | (refine EV.reg ?_; (conv => (arg 2; whnf)); (refine nx ?_; try with_reducible exact ⟨⟩))
   | with_reducible assumption
   | (refine condW.merge ?_ (fun hc K' hK => ?_) ?_; rotate_left)
   | (refine EV.ret Q50_ok ?_; simp only [wpS, wpA, wpQL, push_cast, Int.cast_ofNat_Int, reduceIte, Nat.reduceEqDiff, reduceCtorEq, Nat.reduceAdd, Nat.reduceSub, Nat.reduceMul, Int.reduceToNat, Nat.reduceLeDiff, Q50])
   | fail
 all_goals simp_all [digitP]

def accessP (o : OpV) : Bool := decide (0 ≤ o.kind) && decide (o.kind ≤ 4)
theorem litmus_access_q (o : OpV) : ConQ Tryz.prog 71 #[vop o] M (vb (accessP o)) := by
 refine Con.enter Q49_ok (args := [vop o]) (by simp [Q49]) fun w0 => ?_
 simp only [Q49, argE]
 repeat' first
   | refine EV.seq ?_
   | (refine EV.reg ?_; (conv => (arg 2; whnf)); (refine nx ?_; try with_reducible exact ⟨⟩))
   | with_reducible assumption
   | (refine condW.merge ?_ (fun hc K' hK => ?_) ?_; rotate_left)
   | (refine EV.ret Q49_ok ?_; simp only [wpS, wpA, wpQL, push_cast, Int.cast_ofNat_Int, reduceIte, Nat.reduceEqDiff, reduceCtorEq, Nat.reduceAdd, Nat.reduceSub, Nat.reduceMul, Int.reduceToNat, Nat.reduceLeDiff, Q49])
   | ((first | with_reducible intro b | refine xiA rfl ?_ | fail); try (refine nx ?_; try with_reducible exact ⟨⟩))
   | fail
 all_goals simp_all [accessP]

def fitsP (o : OpV) : Bool :=
 decide (0 ≤ o.loc) && decide (o.loc < 3) &&
 (if o.kind = 0 then decide (o.v = 0) && decide (o.w = 0) else if o.kind = 1 then digitP o.v && decide (o.w = 0) else if o.kind = 2 then decide (-9 ≤ o.v) && decide (o.v ≤ 9) && decide (o.w = 0)
  else if o.kind = 3 ∨ o.kind = 4 then digitP o.v && digitP o.w else if o.kind = 5 then decide (o.loc = 0) && decide (o.v = 0) && decide (o.w = 0) else false)
theorem litmus_fits_q (o : OpV) : ConQ Tryz.prog 65 #[vop o] M (vb (fitsP o)) := by
 refine Con.enter Q51_ok (args := [vop o]) (by simp [Q51]) fun w0 => ?_
 simp only [Q51, argE]
 repeat' first
   | refine EV.seq ?_
   | refine EV.skip ?_
   | refine EV.block ?_
   | refine EV.inBlock ?_
   | (refine EV.reg ?_; (conv => (arg 2; whnf)); (refine nx ?_; try with_reducible exact ⟨⟩))
   | (refine ConQ.call (litmus_digit_q _) ?_; try (refine nx ?_; try with_reducible exact ⟨⟩))
   | with_reducible assumption
   | (refine condW.merge ?_ (fun hc K' hK => ?_) ?_; rotate_left)
   | (refine EV.condX rfl (fun h => ?_) (fun h => ?_) <;> try exact dead h)
   | (refine EV.ret Q51_ok ?_; simp only [wpS, wpA, wpQL, push_cast, Int.cast_ofNat_Int, reduceIte, Nat.reduceEqDiff, reduceCtorEq, Nat.reduceAdd, Nat.reduceSub, Nat.reduceMul, Int.reduceToNat, Nat.reduceLeDiff, Q51])
   | ((first | with_reducible intro b | refine xiA rfl ?_ | fail); try (refine nx ?_; try with_reducible exact ⟨⟩))
   | fail
 all_goals (simp [fitsP]; grind)

end
end Go.EV

namespace Go.EV
open Go.Proofs

theorem Sl.ints {H : PHeap} {b off : Nat} {xs : List Int} (h : rd H b off xs.length (xs.map vi)) : ∀ i (hi : i < xs.length), rd H b (off + i) 1 [vi xs[i]] := by
 intro i hi
 have := h.part (i := i) (m := 1) (by omega)
 rwa [show ((xs.map vi).drop i).take 1 = [vi xs[i]] from by
  rw [List.drop_eq_getElem_cons (by simpa using hi)]; simp] at this

section
variable {M : PHeap}

def mx (xs : List Int) (i : Nat) : Int := (xs.take i).foldl (fun a b => if b > a then b else a) (xs.headD 0)

theorem mx_step {xs : List Int} {i : Nat} (hi : i < xs.length) : mx xs (i + 1) = if xs[i] > mx xs i then xs[i] else mx xs i := by
 simp only [mx, List.take_succ_eq_append_getElem hi, List.foldl_append, List.foldl_cons, List.foldl_nil]
 rfl

theorem slices_Max_q (H : PHeap) (b off c : Nat) (xs : List Int) (h0 : 0 < xs.length) (hl : xs.length < 1000000) (h : rd H b off xs.length (xs.map vi)) : ConQ Tryz.prog 98 #[.slice (some ⟨b, off, none⟩) xs.length c] H (vi (mx xs xs.length)) := by
 have hr := Sl.ints h
 have hr0 : rd H b off 1 [vi xs[0]] := hr 0 h0
 have hx0 : xs[0] = mx xs 1 := by cases xs with | nil => simp at h0 | cons x xs => simp [mx]
 refine Con.enter Q85_ok (args := [.slice (some ⟨b, off, none⟩) xs.length c]) (by simp [Q85]) fun w0 => ?_
 simp only [Q85, argE]
 repeat' first
   | refine EV.seq ?_
   | refine EV.skip ?_
   | refine EV.block ?_
   | (refine EV.reg ?_; (conv => (arg 2; whnf)); (refine nx ?_; try with_reducible exact ⟨⟩))
   | (refine EV.condX rfl (fun h => ?_) (fun h => ?_) <;> try exact dead h)
   | (refine And.intro (by omega) ?_)
   | (refine Exists.intro _ (And.intro (rd_M (by assumption)) ?_); try (refine nx ?_; try with_reducible exact ⟨⟩))
   | fail
 ·refine EV.to (ρ' := [(0, .slice (some ⟨b, off, none⟩) xs.length c), (3, vi (mx xs 1)), (4, vi (1 : Nat))]) ?_ (by simp [get, hx0]) (List.Sublist.refl _)
  refine EV.loop (fun i : Nat => ([(0, .slice (some ⟨b, off, none⟩) xs.length c), (3, vi (mx xs i)), (4, vi i)], H, [])) (fun i => 1 ≤ i ∧ i ≤ xs.length) (fun i => xs.length - i) 1 ⟨by omega, by omega⟩ ?_
  intro i ⟨hi1, hi2⟩ ih
  dsimp only at ih ⊢
  repeat' first
    | refine EV.seq ?_
    | refine EV.skip ?_
    | refine EV.block ?_
    | (refine EV.reg ?_; (conv => (arg 2; whnf)); (refine nx ?_; try with_reducible exact ⟨⟩))
    | (refine EV.condX rfl (fun h => ?_) (fun h => ?_) <;> try exact dead h)
    | (refine EV.exit rfl ?_)
    | (refine EV.ret Q85_ok ?_; simp only [wpS, wpA, wpQL, push_cast, Int.cast_ofNat_Int, reduceIte, Nat.reduceEqDiff, reduceCtorEq, Nat.reduceAdd, Nat.reduceSub, Nat.reduceMul, Int.reduceToNat, Nat.reduceLeDiff, Q85])
    | (refine And.intro (by omega) ?_)
    | fail
  ·have hi : i < xs.length := by omega
   refine ⟨_, rd_M (hr i hi), ?_⟩
   repeat' first
     | refine EV.inBlock ?_
     | (refine EV.reg ?_; (conv => (arg 2; whnf)); (refine nx ?_; try with_reducible exact ⟨⟩))
     | fail
   refine EV.to (ih (i + 1) ⟨by omega, by omega⟩ (by omega)) ?_ (List.Sublist.refl _)
   repeat' first
    | (refine List.forall_mem_cons.2 (And.intro ?_ ?_))
    | (intro _ hnil; cases hnil; done)
    | rfl
    | (refine env_w64 rfl (by first | rfl | (push_cast; first | rfl | omega)) (by omega) (by omega); done)
    | (simp (disch := omega) only [get_cons, get_nil, reduceIte, Nat.reduceEqDiff, Option.some.injEq, Value.int.injEq, w64, Int.natCast_add, Int.natCast_one, Int.cast_ofNat_Int, Int.natCast_zero, mx_step hi]; done)
    | fail
  ·rw [show i = xs.length from by omega]


/-- What limits counts. -/
structure LimS where
 acc : Int
 fen : Int
 w0 : Int
 w1 : Int
 w2 : Int

def limStep (s : LimS) (o : OpV) : LimS :=
 if o.kind = 5 then { s with fen := s.fen + 1 }
 else if accessP o = true then
  {acc := s.acc + 1, fen := if o.ord = 4 then s.fen + 2 else s.fen,
   w0 := if o.kind ≠ 0 ∧ o.loc = 0 then s.w0 + 1 else s.w0, w1 := if o.kind ≠ 0 ∧ o.loc = 1 then s.w1 + 1 else s.w1, w2 := if o.kind ≠ 0 ∧ o.loc = 2 then s.w2 + 1 else s.w2 }
 else s

def limOf (l : List OpV) : LimS := l.foldl limStep ⟨0, 0, 0, 0, 0⟩

def limitsP (ts : List (List OpV)) : Bool :=
 decide (ts.length ≤ 3) && decide ((limOf ts.flatten).acc ≤ 6) && decide ((limOf ts.flatten).fen ≤ 8) && decide ((limOf ts.flatten).w0 ≤ 4) && decide ((limOf ts.flatten).w1 ≤ 4) && decide ((limOf ts.flatten).w2 ≤ 4)

theorem lim_bound (l : List OpV) : 0 ≤ (limOf l).acc ∧ (limOf l).acc ≤ l.length ∧ 0 ≤ (limOf l).fen ∧ (limOf l).fen ≤ 2 * l.length ∧ 0 ≤ (limOf l).w0 ∧ (limOf l).w0 ≤ l.length ∧ 0 ≤ (limOf l).w1 ∧ (limOf l).w1 ≤ l.length ∧ 0 ≤ (limOf l).w2 ∧ (limOf l).w2 ≤ l.length := by
 have key : ∀ (l : List OpV) (s : LimS), s.acc ≤ (l.foldl limStep s).acc ∧ (l.foldl limStep s).acc ≤ s.acc + l.length ∧ s.fen ≤ (l.foldl limStep s).fen ∧ (l.foldl limStep s).fen ≤ s.fen + 2 * l.length ∧ s.w0 ≤ (l.foldl limStep s).w0 ∧ (l.foldl limStep s).w0 ≤ s.w0 + l.length ∧ s.w1 ≤ (l.foldl limStep s).w1 ∧ (l.foldl limStep s).w1 ≤ s.w1 + l.length ∧ s.w2 ≤ (l.foldl limStep s).w2 ∧ (l.foldl limStep s).w2 ≤ s.w2 + l.length := by
  intro l
  induction l with
  | nil => intro s; simp
  | cons o l ih =>
   intro s
   have := ih (limStep s o)
   simp only [List.foldl_cons, List.length_cons]
   have h2 : s.acc ≤ (limStep s o).acc ∧ (limStep s o).acc ≤ s.acc + 1 ∧ s.fen ≤ (limStep s o).fen ∧ (limStep s o).fen ≤ s.fen + 2 ∧ s.w0 ≤ (limStep s o).w0 ∧ (limStep s o).w0 ≤ s.w0 + 1 ∧ s.w1 ≤ (limStep s o).w1 ∧ (limStep s o).w1 ≤ s.w1 + 1 ∧ s.w2 ≤ (limStep s o).w2 ∧ (limStep s o).w2 ≤ s.w2 + 1 := by
    unfold limStep
    split
    ·simp; omega
    ·split
     ·simp only []
      refine ⟨?_, ?_, ?_, ?_, ?_, ?_, ?_, ?_, ?_, ?_⟩ <;> (repeat' split) <;> omega
     ·simp; omega
   omega
 have := key l ⟨0, 0, 0, 0, 0⟩
 dsimp only at this
 unfold limOf
 omega

theorem flat_take {α : Type} {ts : List (List α)} {i : Nat} (hi : i < ts.length) : (ts.take (i + 1)).flatten = (ts.take i).flatten ++ ts[i] := by
 rw [List.take_succ_eq_append_getElem hi, List.flatten_append]; simp

theorem flat_take_le {α : Type} (ts : List (List α)) (i : Nat) : (ts.take i).flatten.length ≤ ts.flatten.length := by
 have : ts.flatten = (ts.take i).flatten ++ (ts.drop i).flatten := by rw [← List.flatten_append, List.take_append_drop]
 rw [this]; simp

/-- Rows that a machine can hold. -/
structure Sized {α : Type} (ts : List (List α)) : Prop where
 len : ts.length ≤ 281474976710656
 each : ∀ t ∈ ts, t.length ≤ 281474976710656
theorem flat_le {α : Type} {B : Nat} : ∀ {ts : List (List α)}, (∀ t ∈ ts, t.length ≤ B) → ts.flatten.length ≤ ts.length * B
 | [], _ => by simp
 | t :: ts, h => by
  have h1 := flat_le (ts := ts) fun x hx => h x (List.mem_cons_of_mem _ hx)
  have h2 := h t (List.mem_cons_self ..)
  rw [List.flatten_cons, List.length_append, List.length_cons, Nat.succ_mul]; omega
theorem Sized.flat {α : Type} {ts : List (List α)} (h : Sized ts) (h3 : ts.length ≤ 3) : ts.flatten.length < 1000000000000000 := by
 have h1 := flat_le h.each
 have h2 : ts.length * 281474976710656 ≤ 3 * 281474976710656 := Nat.mul_le_mul_right _ h3
 omega

set_option maxHeartbeats 4000000 in
theorem litmus_limits_q (ts : List (List OpV)) (s : Value) (hs : SlSl M 5 encOp s ts) (hb : Sized ts) : ConQ Tryz.prog 63 #[.agg #[s]] M (vb (limitsP ts)) := by
 obtain ⟨a, c, vs, rfl, hl, hrd, hk⟩ := hs
 refine Con.enter Q52_ok (args := [.agg #[.slice a ts.length c]]) (by simp [Q52]) fun w0 => ?_
 simp only [Q52, argE]
 repeat' first
   | refine EV.seq ?_
   | refine EV.skip ?_
   | refine EV.block ?_
   | (refine EV.reg ?_; (conv => (arg 2; whnf)); (refine nx ?_; try with_reducible exact ⟨⟩))
   | (refine EV.condX rfl (fun h => ?_) (fun h => ?_) <;> try exact dead h)
   | (refine EV.ret Q52_ok ?_; simp only [wpS, wpA, wpQL, push_cast, Int.cast_ofNat_Int, reduceIte, Nat.reduceEqDiff, reduceCtorEq, Nat.reduceAdd, Nat.reduceSub, Nat.reduceMul, Int.reduceToNat, Nat.reduceLeDiff, Q52])
   | ((first | with_reducible intro b | refine xsA rfl ?_ | fail); try (refine nx ?_; try with_reducible exact ⟨⟩))
   | fail
 ·simp [limitsP]; omega
 rename_i b1
 have hlen3 : ts.length ≤ 3 := by omega
 have hb' := hb.2
 have hb := hb.flat hlen3
 refine EV.to (ρ' := [(3, vi (limOf (ts.take 0).flatten).acc), (4, vi (limOf (ts.take 0).flatten).fen), (5, pv b 0), (15, .slice a ts.length c), (16, vi ts.length), (17, vi (0 : Nat))])
  (G' := [(b, Cl 142 [vi (limOf (ts.take 0).flatten).w0, vi (limOf (ts.take 0).flatten).w1, vi (limOf (ts.take 0).flatten).w2])]) ?_ (by simp [get, limOf]) (by simp [limOf])
 refine EV.loop (fun i : Nat => ([(3, vi (limOf (ts.take i).flatten).acc), (4, vi (limOf (ts.take i).flatten).fen), (5, pv b 0), (15, .slice a ts.length c), (16, vi ts.length), (17, vi i)], M,
  [(b, Cl 142 [vi (limOf (ts.take i).flatten).w0, vi (limOf (ts.take i).flatten).w1, vi (limOf (ts.take i).flatten).w2])])) (fun i => i ≤ ts.length) (fun i => ts.length - i) 0 (Nat.zero_le _) ?_
 intro i hi ih
 dsimp only at ih ⊢
 repeat' first
   | refine EV.seq ?_
   | refine EV.skip ?_
   | refine EV.block ?_
   | (refine EV.reg ?_; (conv => (arg 2; whnf)); (refine nx ?_; try with_reducible exact ⟨⟩))
   | (refine ConQ.call (slices_Max_q _ _ 0 3 [_, _, _] (by simp) (by simp) (rd_own' 0 rfl rfl (by simp))) ?_; try (refine nx ?_; try with_reducible exact ⟨⟩))
   | with_reducible assumption
   | (refine condW.merge ?_ (fun hc K' hK => ?_) ?_; rotate_left)
   | (refine EV.condX rfl (fun h => ?_) (fun h => ?_) <;> try exact dead h)
   | (refine EV.exit rfl ?_)
   | (refine EV.ret Q52_ok ?_; simp only [wpS, wpA, wpQL, push_cast, Int.cast_ofNat_Int, reduceIte, Nat.reduceEqDiff, reduceCtorEq, Nat.reduceAdd, Nat.reduceSub, Nat.reduceMul, Int.reduceToNat, Nat.reduceLeDiff, Q52])
   | fail
 ·have hi' : i < ts.length := by omega
  obtain ⟨pb, po, rfl, hat⟩ := SlSl.at hrd hl hk (by omega)
  obtain ⟨a', c', hr1, hr2⟩ := hat i hi'
  simp only [Nat.mul_one] at hr1
  repeat' first
    | refine EV.seq ?_
    | refine EV.block ?_
    | (refine EV.reg ?_; (conv => (arg 2; whnf)); (refine nx ?_; try with_reducible exact ⟨⟩))
    | (refine And.intro (by omega) ?_)
    | (refine Exists.intro _ (Exists.intro _ (Exists.intro _ (And.intro (rd_M (by assumption)) ?_))); try (refine nx ?_; try with_reducible exact ⟨⟩))
    | fail
  have hlen : ((ts.take i).flatten ++ ts[i]).length ≤ ts.flatten.length := by rw [← flat_take hi']; exact flat_take_le ts (i + 1)
  simp only [List.length_append] at hlen
  let W : Nat → LimS := fun j => limOf ((ts.take i).flatten ++ ts[i].take j)
  refine EV.to (ρ' := [(3, vi (W 0).acc), (4, vi (W 0).fen), (5, pv b 0), (15, .slice (some ⟨pb, po, none⟩) ts.length c), (16, vi ts.length), (17, vi i), (21, .slice a' ts[i].length c'), (22, vi ts[i].length), (23, vi (0 : Nat))])
   (G' := [(b, Cl 142 [vi (W 0).w0, vi (W 0).w1, vi (W 0).w2])]) ?_ (by simp [get, W]) (by simp [W])
  refine EV.loop (fun j : Nat => ([(3, vi (W j).acc), (4, vi (W j).fen), (5, pv b 0), (15, .slice (some ⟨pb, po, none⟩) ts.length c), (16, vi ts.length), (17, vi i), (21, .slice a' ts[i].length c'), (22, vi ts[i].length), (23, vi j)], M,
   [(b, Cl 142 [vi (W j).w0, vi (W j).w1, vi (W j).w2])])) (fun j => j ≤ ts[i].length) (fun j => ts[i].length - j) 0 (Nat.zero_le _) ?_
  intro j hj ih2
  dsimp only at ih2 ⊢
  repeat' first
    | refine EV.seq ?_
    | refine EV.skip ?_
    | refine EV.block ?_
    | refine EV.inBlock ?_
    | (refine EV.reg ?_; (conv => (arg 2; whnf)); (refine nx ?_; try with_reducible exact ⟨⟩))
    | (refine EV.condX rfl (fun h => ?_) (fun h => ?_) <;> try exact dead h)
    | (refine EV.exit rfl ?_)
    | fail
  ·have hj' : j < ts[i].length := by omega
   obtain ⟨qb, qo, rfl, hat2⟩ := Sl.at (enc := encOp) (fun _ => rfl) (by omega) hr2 (by omega)
   have hr3 := hat2 j hj'
   have hW : W (j + 1) = limStep (W j) ts[i][j] := by
    simp only [W, limOf, List.take_succ_eq_append_getElem hj', ← List.append_assoc, List.foldl_append, List.foldl_cons, List.foldl_nil]
   have hWb := lim_bound ((ts.take i).flatten ++ ts[i].take j)
   have hWl : ((ts.take i).flatten ++ ts[i].take j).length < 1000000000000000 := by rw [List.length_append, List.length_take]; omega
   have fin : ∀ ρ G', (∀ p ∈ [(3, vi (W (j + 1)).acc), (4, vi (W (j + 1)).fen), (5, pv b 0), (15, .slice (some ⟨pb, po, none⟩) ts.length c), (16, vi ts.length), (17, vi i), (21, .slice (some ⟨qb, qo, none⟩) ts[i].length c'), (22, vi ts[i].length), (23, vi (j + 1 : Nat))], get ρ p.1 = some p.2) →
     [(b, Cl 142 [vi (W (j + 1)).w0, vi (W (j + 1)).w1, vi (W (j + 1)).w2])].Sublist G' → _ := fun ρ G' h1 h2 => EV.to (ρ := ρ) (G := G') (ih2 (j + 1) (by omega) (by omega)) h1 h2
   rw [hW] at fin
   have hWe : W j = limOf ((ts.take i).flatten ++ ts[i].take j) := rfl
   rw [← hWe] at hWb
   clear_value W
   have e1 : IntKind.i64.wrap ((W j).acc + 1) = (W j).acc + 1 := w64 (by omega) (by omega)
   have e2 : IntKind.i64.wrap ((W j).fen + 1) = (W j).fen + 1 := w64 (by omega) (by omega)
   have e3 : IntKind.i64.wrap ((W j).fen + 2) = (W j).fen + 2 := w64 (by omega) (by omega)
   have e4 : IntKind.i64.wrap ((W j).w0 + 1) = (W j).w0 + 1 := w64 (by omega) (by omega)
   have e5 : IntKind.i64.wrap ((W j).w1 + 1) = (W j).w1 + 1 := w64 (by omega) (by omega)
   have e6 : IntKind.i64.wrap ((W j).w2 + 1) = (W j).w2 + 1 := w64 (by omega) (by omega)
   have e7 : IntKind.i64.wrap ((j : Int) + 1) = ((j + 1 : Nat) : Int) := w64 (by omega) (by omega)
   clear ih ih2 hat hat2 hrd hk hr1 hr2 hWb hWl hWe hlen hW hb hb' hl
   generalize W j = s at *
   generalize ts[i][j] = o at *
   clear W
   repeat' first
     | refine EV.seq ?_
     | refine EV.skip ?_
     | refine EV.block ?_
     | refine EV.inBlock ?_
     | (refine EV.reg ?_; (conv => (arg 2; whnf)); (refine nx ?_; try with_reducible exact ⟨⟩))
     | (refine ConQ.call (litmus_access_q _) ?_; try (refine nx ?_; try with_reducible exact ⟨⟩))
     | with_reducible assumption
     | (refine condW.merge ?_ (fun hc K' hK => ?_) ?_; rotate_left)
     | (refine EV.condX rfl (fun h => ?_) (fun h => ?_) <;> try exact dead h)
     | (with_reducible intro b; try (refine nx ?_; try with_reducible exact ⟨⟩))
     | (refine And.intro (by omega) ?_)
     | ((first | refine Exists.intro _ (And.intro (rd_M (by assumption)) ?_) | refine xrA rfl ?_ | refine xiA rfl ?_ | fail); try (refine nx ?_; try with_reducible exact ⟨⟩))
     | (refine xw ?_; (refine nx ?_; try with_reducible exact ⟨⟩))
     | fail
   all_goals try refine fin _ _ ?_ ?_
   all_goals first
    | (simp [get, limStep, *]; done)
    | (simp [get, limStep, *]; grind)
    | skip
   all_goals
    have hloc : o.loc = 0 ∨ o.loc = 1 ∨ o.loc = 2 := by omega
    have hk0 : ¬ o.kind = 0 := by omega
    rcases hloc with hloc | hloc | hloc <;> rw [hloc] <;> simp only [Int.reduceToNat, Int.toNat_zero, Int.reduceLE, Int.reduceLT, true_and]
   all_goals repeat' first
     | refine EV.inBlock ?_
     | (refine EV.reg ?_; (conv => (arg 2; whnf)); (refine nx ?_; try with_reducible exact ⟨⟩))
     | (refine xiA rfl ?_; try (refine nx ?_; try with_reducible exact ⟨⟩))
     | (refine xw ?_; (refine nx ?_; try with_reducible exact ⟨⟩))
     | fail
   all_goals try refine fin _ _ ?_ ?_
   all_goals first
    | (simp [get, limStep, *]; done)
    | (simp [get, limStep, *]; grind)
    | skip
  ·have hj' : j = ts[i].length := by omega
   subst hj'
   have hf : (ts.take i).flatten ++ ts[i].take ts[i].length = (ts.take (i + 1)).flatten := by rw [flat_take hi', List.take_length]
   refine EV.to (ih (i + 1) (by omega) (by omega)) ?_ ?_
   ·clear ih ih2
    rw [← hf]
    simp [get, W]
    exact w64 (by omega) (by omega)
   ·rw [← hf]
    exact List.Sublist.refl _
 ·have hi3 : i = ts.length := by omega
  subst hi3
  rw [List.take_length]
  simp only [limitsP, mx, List.take_succ_cons, List.take_zero, List.foldl_cons, List.foldl_nil, List.headD_cons]
  congr 1
  have h3 : decide (ts.length ≤ 3) = true := by simpa using hlen3
  rw [h3]
  grind

end
end Go.EV

namespace Go.EV
open Go.Proofs
section
variable {M : PHeap}

def okOp (o : OpV) : Bool := mayR o.kind o.ord && mayP o.kind o.ord && fitsP o
def checkP (ts : List (List OpV)) : Int := if limitsP ts = false then 2 else if ts.length = 0 then 1 else if ts.flatten.all okOp = true then 0 else 1

theorem okOp_iff (o : OpV) : okOp o = true ↔ mayR o.kind o.ord = true ∧ mayP o.kind o.ord = true ∧ fitsP o = true := by
 simp [okOp, and_assoc]

set_option maxHeartbeats 4000000 in
theorem litmus_Check_q (ts : List (List OpV)) (s : Value) (hs : SlSl M 5 encOp s ts) (hb : Sized ts) : ConQ Tryz.prog 24 #[.agg #[s]] M (vi (checkP ts)) := by
 have hlim := fun G => litmus_limits_q (M := M.add G) ts s (hs.mono (PHeap.le_add _ _)) hb
 have hb' := hb.1
 have hbe := hb.2
 obtain ⟨a, c, vs, rfl, hl, hrd, hk⟩ := hs
 refine Con.enter Q46_ok (args := [.agg #[.slice a ts.length c]]) (by simp [Q46]) fun w0 => ?_
 simp only [Q46, argE]
 repeat' first
   | refine EV.seq ?_
   | refine EV.skip ?_
   | refine EV.block ?_
   | (refine EV.reg ?_; (conv => (arg 2; whnf)); (refine nx ?_; try with_reducible exact ⟨⟩))
   | (refine ConQ.call (hlim _) ?_; try (refine nx ?_; try with_reducible exact ⟨⟩))
   | (refine EV.condX rfl (fun h => ?_) (fun h => ?_) <;> try exact dead h)
   | (refine EV.ret Q46_ok ?_; simp only [wpS, wpA, wpQL, push_cast, Int.cast_ofNat_Int, reduceIte, Nat.reduceEqDiff, reduceCtorEq, Nat.reduceAdd, Nat.reduceSub, Nat.reduceMul, Int.reduceToNat, Nat.reduceLeDiff, Q46])
   | ((first | with_reducible intro b | refine xrA rfl ?_ | refine xsA rfl ?_ | fail); try (refine nx ?_; try with_reducible exact ⟨⟩))
   | fail
 ·simp [checkP, h]
 ·rename_i h1
  have : ts.length = 0 := by omega
  simp [checkP, this, h1]
 rename_i h1
 refine EV.to (ρ' := [(17, .slice a ts.length c), (18, vi ts.length), (19, vi (0 : Nat))]) (G' := []) ?_ (by simp (disch := omega) only [List.forall_mem_cons, List.not_mem_nil, false_implies, implies_true, and_true, true_and, get_cons, get_nil, reduceIte, Nat.reduceEqDiff, Option.some.injEq, Value.int.injEq, w64, Int.natCast_add, Int.natCast_one, Int.cast_ofNat_Int, Int.natCast_zero]) (by simp)
 refine EV.loop (fun i : Nat => ([(17, .slice a ts.length c), (18, vi ts.length), (19, vi i)], M, [])) (fun i => i ≤ ts.length ∧ (ts.take i).flatten.all okOp = true) (fun i => ts.length - i) 0 (by simp) ?_
 intro i ⟨hi, hok⟩ ih
 dsimp only at ih ⊢
 repeat' first
   | refine EV.seq ?_
   | refine EV.skip ?_
   | refine EV.block ?_
   | (refine EV.reg ?_; (conv => (arg 2; whnf)); (refine nx ?_; try with_reducible exact ⟨⟩))
   | (refine EV.condX rfl (fun h => ?_) (fun h => ?_) <;> try exact dead h)
   | (refine EV.exit rfl ?_)
   | (refine EV.ret Q46_ok ?_; simp only [wpS, wpA, wpQL, push_cast, Int.cast_ofNat_Int, reduceIte, Nat.reduceEqDiff, reduceCtorEq, Nat.reduceAdd, Nat.reduceSub, Nat.reduceMul, Int.reduceToNat, Nat.reduceLeDiff, Q46])
   | fail
 ·have hi' : i < ts.length := by omega
  obtain ⟨pb, po, rfl, hat⟩ := SlSl.at hrd hl hk (by omega)
  obtain ⟨a', c', hr1, hr2⟩ := hat i hi'
  simp only [Nat.mul_one] at hr1
  have hlen : ts[i].length ≤ ts.flatten.length := by have := flat_take hi'; have h2 := flat_take_le ts (i + 1); rw [this, List.length_append] at h2; omega
  have hbi := hbe ts[i] (List.getElem_mem hi')
  have hmem : ∀ o ∈ ts[i], o ∈ ts.flatten := fun o ho => List.mem_flatten.2 ⟨ts[i], List.getElem_mem hi', ho⟩
  repeat' first
    | refine EV.seq ?_
    | refine EV.block ?_
    | (refine EV.reg ?_; (conv => (arg 2; whnf)); (refine nx ?_; try with_reducible exact ⟨⟩))
    | (refine And.intro (by omega) ?_)
    | (refine Exists.intro _ (Exists.intro _ (Exists.intro _ (And.intro (rd_M (by assumption)) ?_))); try (refine nx ?_; try with_reducible exact ⟨⟩))
    | fail
  refine EV.to (ρ' := [(17, .slice (some ⟨pb, po, none⟩) ts.length c), (18, vi ts.length), (19, vi i), (23, .slice a' ts[i].length c'), (24, vi ts[i].length), (25, vi (0 : Nat))]) (G' := []) ?_ (by simp (disch := omega) only [List.forall_mem_cons, List.not_mem_nil, false_implies, implies_true, and_true, true_and, get_cons, get_nil, reduceIte, Nat.reduceEqDiff, Option.some.injEq, Value.int.injEq, w64, Int.natCast_add, Int.natCast_one, Int.cast_ofNat_Int, Int.natCast_zero]) (by simp)
  refine EV.loop (fun j : Nat => ([(17, .slice (some ⟨pb, po, none⟩) ts.length c), (18, vi ts.length), (19, vi i), (23, .slice a' ts[i].length c'), (24, vi ts[i].length), (25, vi j)], M, [])) (fun j => j ≤ ts[i].length ∧ (ts[i].take j).all okOp = true) (fun j => ts[i].length - j) 0 (by simp) ?_
  intro j ⟨hj, hok2⟩ ih2
  dsimp only at ih2 ⊢
  repeat' first
    | refine EV.seq ?_
    | refine EV.skip ?_
    | refine EV.block ?_
    | refine EV.inBlock ?_
    | (refine EV.reg ?_; (conv => (arg 2; whnf)); (refine nx ?_; try with_reducible exact ⟨⟩))
    | (refine EV.condX rfl (fun h => ?_) (fun h => ?_) <;> try exact dead h)
    | (refine EV.exit rfl ?_)
    | fail
  ·have hj' : j < ts[i].length := by omega
   obtain ⟨qb, qo, rfl, hat2⟩ := Sl.at (enc := encOp) (fun _ => rfl) (by omega) hr2 (by omega)
   have hr3 := hat2 j hj'
   repeat' first
     | refine EV.seq ?_
     | refine EV.skip ?_
     | refine EV.inBlock ?_
     | (refine EV.reg ?_; (conv => (arg 2; whnf)); (refine nx ?_; try with_reducible exact ⟨⟩))
     | ((first | refine ConQ.call (litmus_fits_q _) ?_ | refine ConQ.call (order_May_q _ _) ?_ | fail); try (refine nx ?_; try with_reducible exact ⟨⟩))
     | with_reducible assumption
     | (refine condW.merge ?_ (fun hc K' hK => ?_) ?_; rotate_left)
     | (refine EV.condX rfl (fun h => ?_) (fun h => ?_) <;> try exact dead h)
     | (refine EV.ret Q46_ok ?_; simp only [wpS, wpA, wpQL, push_cast, Int.cast_ofNat_Int, reduceIte, Nat.reduceEqDiff, reduceCtorEq, Nat.reduceAdd, Nat.reduceSub, Nat.reduceMul, Int.reduceToNat, Nat.reduceLeDiff, Q46])
     | (with_reducible intro b; try (refine nx ?_; try with_reducible exact ⟨⟩))
     | (refine And.intro (by omega) ?_)
     | ((first | refine Exists.intro _ (And.intro (rd_M (by assumption)) ?_) | refine xrA rfl ?_ | refine xiA rfl ?_ | fail); try (refine nx ?_; try with_reducible exact ⟨⟩))
     | (refine xw ?_; (refine nx ?_; try with_reducible exact ⟨⟩))
     | fail
   ·have hno : okOp ts[i][j] = false := by
     cases hq : okOp ts[i][j] with
     | false => rfl
     | true => obtain ⟨q1, q2, q3⟩ := (okOp_iff _).1 hq; simp [q1, q2, q3] at h
    have hne : ts.flatten.all okOp = false := by
     rw [List.all_eq_false]
     exact ⟨ts[i][j], hmem _ (List.getElem_mem hj'), by simp [hno]⟩
    have h0 : ¬ ts.length = 0 := by omega
    simp [checkP, h1, h0, hne]
   ·have hyes : okOp ts[i][j] = true := by
     rw [okOp_iff]
     grind
    refine EV.to (ih2 (j + 1) ⟨by omega, ?_⟩ (by omega)) ?_ (by simp)
    ·rw [List.take_succ_eq_append_getElem hj', List.all_append, hok2]
     simp [hyes]
    ·repeat' first
      | (refine List.forall_mem_cons.2 (And.intro ?_ ?_))
      | (intro _ hnil; cases hnil; done)
      | rfl
      | (refine env_w64 rfl (by first | rfl | (push_cast; first | rfl | omega)) (by omega) (by omega); done)
      | fail
  ·have hj' : j = ts[i].length := by omega
   subst hj'
   refine EV.to (ih (i + 1) ⟨by omega, ?_⟩ (by omega)) ?_ (by simp)
   ·rw [flat_take hi', List.all_append, hok, Bool.true_and]
    rwa [List.take_length] at hok2
   ·repeat' first
     | (refine List.forall_mem_cons.2 (And.intro ?_ ?_))
     | (intro _ hnil; cases hnil; done)
     | rfl
     | (refine env_w64 rfl (by first | rfl | (push_cast; first | rfl | omega)) (by omega) (by omega); done)
     | fail
 ·have hi3 : i = ts.length := by omega
  subst hi3
  rw [List.take_length] at hok
  have h0 : ¬ ts.length = 0 := by omega
  simp [checkP, hok, h1, h0]

end
end Go.EV

namespace Go.EV
open Go.Proofs

section
variable {M : PHeap}

abbrev sfence : OpV := ⟨5, 0, 0, 0, 4⟩

theorem litmus_strongFence_q : ConQ Tryz.prog 73 #[] M (vop sfence) := by
 refine Con.enter Q54_ok (args := []) (by simp [Q54]) fun w0 => ?_
 simp only [Q54, argE]
 repeat' first
   | refine EV.seq ?_
   | (refine EV.reg ?_; (conv => (arg 2; whnf)); (refine nx ?_; try with_reducible exact ⟨⟩))
   | (refine EV.ret Q54_ok ?_; simp only [wpS, wpA, wpQL, push_cast, Int.cast_ofNat_Int, reduceIte, Nat.reduceEqDiff, reduceCtorEq, Nat.reduceAdd, Nat.reduceSub, Nat.reduceMul, Int.reduceToNat, Nat.reduceLeDiff, Q54])
   | ((first | with_reducible intro b | refine xrA rfl ?_ | fail); try (refine nx ?_; try with_reducible exact ⟨⟩))
   | (refine xw ?_; (refine nx ?_; try with_reducible exact ⟨⟩))
   | fail
 all_goals rfl

def expOp (o : OpV) : List OpV := if accessP o = false ∨ o.ord ≠ 4 then [o] else [sfence, { o with ord := plainP o.kind o.ord }, sfence]

theorem litmus_Expand_S1_c (o : OpV) (f : Bool) (ho : okOp o = true) : Con Tryz.prog 70 #[vop o, vb f] M [] fun v _ G' => ∃ b, v = .slice (some ⟨b, 0, none⟩) (expOp o).length (expOp o).length ∧ G' = [(b, Cl 83 ((expOp o).flatMap encOp))] := by
 obtain ⟨q1, q2, q3⟩ := (okOp_iff o).1 ho
 refine Con.enter Q48_ok (args := [vop o, vb f]) (by simp [Q48]) fun w0 => ?_
 simp only [Q48, argE]
 repeat' first
   | refine EV.seq ?_
   | refine EV.skip ?_
   | (refine EV.reg ?_; (conv => (arg 2; whnf)); (refine nx ?_; try with_reducible exact ⟨⟩))
   | (refine ConQ.call (litmus_access_q _) ?_; try (refine nx ?_; try with_reducible exact ⟨⟩))
   | with_reducible assumption
   | (refine condW.merge ?_ (fun hc K' hK => ?_) ?_; rotate_left)
   | (refine EV.condX rfl (fun h => ?_) (fun h => ?_) <;> try exact dead h)
   | ((first | with_reducible intro b | refine xrA rfl ?_ | refine xiA rfl ?_ | fail); try (refine nx ?_; try with_reducible exact ⟨⟩))
   | fail
 ·refine EV.to (ρ' := [(4, .slice (some ⟨b, 0, none⟩) 1 1)]) (G' := [(b, Cl 83 (encOp o))]) ?_ (by simp (disch := omega) only [List.forall_mem_cons, List.not_mem_nil, false_implies, implies_true, and_true, true_and, get_cons, get_nil, reduceIte, Nat.reduceEqDiff, Option.some.injEq, Value.int.injEq, w64, Int.natCast_add, Int.natCast_one, Int.cast_ofNat_Int, Int.natCast_zero]) (by simp)
  refine EV.ret Q48_ok ?_
  simp only [wpS, wpA, wpQL, push_cast, Int.cast_ofNat_Int, reduceIte, Nat.reduceEqDiff, reduceCtorEq, Nat.reduceAdd, Nat.reduceSub, Nat.reduceMul, Int.reduceToNat, Nat.reduceLeDiff, Q48]
  have he : expOp o = [o] := by simp [expOp, h]
  exact ⟨b, by rw [he]; rfl, by rw [he]; rfl⟩
 ·have h5 : o.kind ≠ 5 := by
   intro h5
   have := h.1
   simp [accessP, h5] at this
  refine ConQ.call (order_Plain_q _ _ q1 q2 h5) ?_
  simp only [wpS, wpA, wpQL, push_cast, Int.cast_ofNat_Int, reduceIte, Nat.reduceEqDiff, reduceCtorEq, Nat.reduceAdd, Nat.reduceSub, Nat.reduceMul, Int.reduceToNat, Nat.reduceLeDiff]
  repeat' first
    | refine EV.seq ?_
    | (refine EV.any _ (List.Sublist.refl _) ?_; (conv => (arg 2; whnf)); (refine nx ?_; try with_reducible exact ⟨⟩))
    | ((first | refine ConQ.call (litmus_strongFence_q) ?_ | with_reducible intro b | refine xrA rfl ?_ | fail); try (refine nx ?_; try with_reducible exact ⟨⟩))
    | (refine xw ?_; (refine nx ?_; try with_reducible exact ⟨⟩))
    | (refine And.intro (PHeap.le_refl _) (And.intro (fun p hp => hp) ?_))
    | fail
  have he : expOp o = [sfence, { o with ord := plainP o.kind o.ord }, sfence] := by simp [expOp, h]
  rename_i b1
  refine EV.to (ρ' := [(4, .slice (some ⟨b, 0, none⟩) 3 3)]) (G' := [(b, Cl 83 (encOp sfence ++ encOp { o with ord := plainP o.kind o.ord } ++ encOp sfence))]) ?_ (by simp (disch := omega) only [List.forall_mem_cons, List.not_mem_nil, false_implies, implies_true, and_true, true_and, get_cons, get_nil, reduceIte, Nat.reduceEqDiff, Option.some.injEq, Value.int.injEq, w64, Int.natCast_add, Int.natCast_one, Int.cast_ofNat_Int, Int.natCast_zero]) (by simp)
  refine EV.ret Q48_ok ?_
  simp only [wpS, wpA, wpQL, push_cast, Int.cast_ofNat_Int, reduceIte, Nat.reduceEqDiff, reduceCtorEq, Nat.reduceAdd, Nat.reduceSub, Nat.reduceMul, Int.reduceToNat, Nat.reduceLeDiff, Q48]
  exact ⟨b, by rw [he]; rfl, by rw [he]; rfl⟩

end
end Go.EV

namespace Go.EV
open Go.Proofs

end Go.EV

namespace Go.EV
open Go.Proofs

def rebGo (f : OpV → Bool → List OpV) : Bool → List OpV → List OpV
 | _, [] => []
 | b, o :: l => f o b ++ rebGo f (b && !accessP o) l

def noAcc (l : List OpV) : Bool := l.all fun o => !accessP o

theorem rebGo_append (f : OpV → Bool → List OpV) : ∀ (l1 : List OpV) (b : Bool) (l2 : List OpV), rebGo f b (l1 ++ l2) = rebGo f b l1 ++ rebGo f (b && noAcc l1) l2
 | [], b, l2 => by simp [rebGo, noAcc]
 | o :: l1, b, l2 => by simp [rebGo, rebGo_append f l1, noAcc, Bool.and_assoc]

theorem rebGo_take (f : OpV → Bool → List OpV) {l : List OpV} {j : Nat} (hj : j < l.length) : rebGo f true (l.take (j + 1)) = rebGo f true (l.take j) ++ f l[j] (noAcc (l.take j)) := by
 rw [List.take_succ_eq_append_getElem hj, rebGo_append]; simp [rebGo]

theorem rebGo_len {f : OpV → Bool → List OpV} {l : List OpV} (hf : ∀ o ∈ l, ∀ b, (f o b).length ≤ 3) : ∀ b, (rebGo f b l).length ≤ 3 * l.length := by
 induction l with
 | nil => intro b; simp [rebGo]
 | cons o l ih =>
  intro b
  have h1 := hf o (by simp) b
  have h2 := ih (fun o' ho' => hf o' (by simp [ho'])) (b && !accessP o)
  simp [rebGo]; omega

theorem noAcc_take {l : List OpV} {j : Nat} (hj : j < l.length) : noAcc (l.take (j + 1)) = (noAcc (l.take j) && !accessP l[j]) := by
 unfold noAcc
 rw [List.take_succ_eq_append_getElem hj, List.all_append]; simp

section
variable {M : PHeap}

/-- What a function that takes the place of an operation promises. -/
def ByC (P : Program) (T g : Nat) (f : OpV → Bool → List OpV) (l : List OpV) : Prop :=
 ∀ (M : PHeap) (o : OpV) (b : Bool), o ∈ l → (f o b).length ≤ 3 ∧ Con P g #[vop o, vb b] M [] fun v _ G' => ∃ ov, v = osv ov (f o b).length ∧ osok 5 ov (f o b).length ((f o b).flatMap encOp) ∧ G' = osg T ov ((f o b).flatMap encOp)

theorem ok1_ops (l : List OpV) : ok1 (l.flatMap encOp) := by
 intro v hv
 simp only [List.mem_flatMap] at hv
 obtain ⟨o, _, hv⟩ := hv
 simp at hv
 rcases hv with rfl | rfl | rfl | rfl | rfl <;> rfl

set_option maxHeartbeats 4000000 in
theorem litmus_rebuilt_c (f : OpV → Bool → List OpV) (g : Nat) (ts : List (List OpV)) (s : Value) (hs : SlSl M 5 encOp s ts) (hb : ts.flatten.length < 1000000) (hb' : ts.length < 1000000)
  (hg : ByC Tryz.prog 83 g f ts.flatten) :
  Con Tryz.prog 69 #[.agg #[s], .func (.func g) #[] #[]] M [] fun v M' _ => ∃ s', v = .agg #[s'] ∧ SlSl M' 5 encOp s' (ts.map (rebGo f true)) := by
 obtain ⟨a, c, vs, rfl, hl, hrd, hk⟩ := hs
 refine Con.enter Q53_ok (args := [.agg #[.slice a ts.length c], .func (.func g) #[] #[]]) (by simp [Q53]) fun w0 => ?_
 simp only [Q53, argE]
 repeat' first
   | refine EV.seq ?_
   | refine EV.block ?_
   | (refine EV.reg ?_; (conv => (arg 2; whnf)); (refine nx ?_; try with_reducible exact ⟨⟩))
   | ((first | with_reducible intro b | refine xsA rfl ?_ | fail); try (refine nx ?_; try with_reducible exact ⟨⟩))
   | fail
 rename_i b2 b4
 refine EV.to (ρ' := [(1, .func (.func g) #[] #[]), (4, pv b4 0), (5, pv b 0), (13, .slice a ts.length c), (14, vi ts.length), (15, vi (0 : Nat))])
  (G' := [(b, Cl 24 [osv none 0]), (b4, Cl 24 [.slice none 0 0])] ++ osg 70 none []) ?_ ?env0 (by (repeat' first | exact List.Sublist.refl _ | exact List.nil_sublist _ | exact List.sublist_append_left _ _ | refine List.Sublist.cons_cons _ ?_ | refine List.Sublist.append_left ?_ _ | refine List.sublist_append_of_sublist_right ?_ | refine List.Sublist.cons _ ?_))
 case env0 =>
  repeat' first
   | (refine List.forall_mem_cons.2 (And.intro ?_ ?_))
   | (intro _ hnil; cases hnil; done)
   | rfl
   | fail
 refine EV.loop (fun x : Nat × PHeap × Vec × List Value => ([(1, .func (.func g) #[] #[]), (4, pv b4 0), (5, pv b 0), (13, .slice a ts.length c), (14, vi ts.length), (15, vi x.1)], x.2.1,
   [(b, Cl 24 [osv x.2.2.1 x.1]), (b4, Cl 24 [.slice none 0 0])] ++ osg 70 x.2.2.1 x.2.2.2))
  (fun x => x.1 ≤ ts.length ∧ M.le x.2.1 ∧ osok 1 x.2.2.1 x.1 x.2.2.2 ∧ x.2.2.2.length = x.1 ∧ ∀ k (h : k < x.2.2.2.length) (h' : k < ts.length), Sl x.2.1 5 encOp x.2.2.2[k] (rebGo f true ts[k]))
  (fun x => ts.length - x.1) (0, M, none, []) ⟨Nat.zero_le _, PHeap.le_refl _, ⟨rfl, rfl⟩, rfl, fun k h => absurd h (by simp)⟩ ?_
 rintro ⟨i, Mi, oq, vs'⟩ ⟨hi, hMi, hoq, hlen', hSl⟩ ih
 dsimp only at hi hMi hoq hlen' hSl ih ⊢
 repeat' first
   | refine EV.seq ?_
   | refine EV.skip ?_
   | refine EV.block ?_
   | (refine EV.reg ?_; (conv => (arg 2; whnf)); (refine nx ?_; try with_reducible exact ⟨⟩))
   | (refine EV.condX rfl (fun h => ?_) (fun h => ?_) <;> try exact dead h)
   | (refine EV.exit rfl ?_)
   | (refine xrA rfl ?_; try (refine nx ?_; try with_reducible exact ⟨⟩))
   | (refine xw ?_; (refine nx ?_; try with_reducible exact ⟨⟩))
   | fail
 ·have hi' : i < ts.length := by omega
  obtain ⟨pb, po, rfl, hat⟩ := SlSl.at (hrd.mono hMi) hl (fun k h h' => (hk k h h').mono hMi) (by omega)
  obtain ⟨a', c', hr1, hr2⟩ := hat i hi'
  simp only [Nat.mul_one] at hr1
  have hlen : ts[i].length ≤ ts.flatten.length := by have := flat_take hi'; have h2 := flat_take_le ts (i + 1); rw [this, List.length_append] at h2; omega
  have hmem : ∀ o ∈ ts[i], o ∈ ts.flatten := fun o ho => List.mem_flatten.2 ⟨ts[i], List.getElem_mem hi', ho⟩
  repeat' first
    | refine EV.seq ?_
    | refine EV.block ?_
    | (refine EV.reg ?_; (conv => (arg 2; whnf)); (refine nx ?_; try with_reducible exact ⟨⟩))
    | (refine And.intro (by omega) ?_)
    | (refine Exists.intro _ (Exists.intro _ (Exists.intro _ (And.intro (rd_M (by assumption)) ?_))); try (refine nx ?_; try with_reducible exact ⟨⟩))
    | fail
  refine EV.to (ρ' := [(1, .func (.func g) #[] #[]), (4, pv b4 0), (5, pv b 0), (8, osv none (rebGo f true (ts[i].take 0)).length), (9, vb (noAcc (ts[i].take 0))), (13, .slice (some ⟨pb, po, none⟩) ts.length c), (14, vi ts.length), (15, vi i), (19, .slice a' ts[i].length c'), (20, vi ts[i].length), (21, vi (0 : Nat))])
   (G' := [(b, Cl 24 [osv oq i]), (b4, Cl 24 [.slice none 0 0])] ++ (osg 70 oq vs' ++ osg 83 none ((rebGo f true (ts[i].take 0)).flatMap encOp))) ?_ ?env1 (by simp only [osg, List.append_nil]; exact List.Sublist.refl _)
  case env1 =>
   repeat' first
    | (refine List.forall_mem_cons.2 (And.intro ?_ ?_))
    | (intro _ hnil; cases hnil; done)
    | rfl
    | fail
  refine EV.loop (fun x : Nat × Vec => ([(1, .func (.func g) #[] #[]), (4, pv b4 0), (5, pv b 0), (8, osv x.2 (rebGo f true (ts[i].take x.1)).length), (9, vb (noAcc (ts[i].take x.1))), (13, .slice (some ⟨pb, po, none⟩) ts.length c), (14, vi ts.length), (15, vi i), (19, .slice a' ts[i].length c'), (20, vi ts[i].length), (21, vi x.1)], Mi,
    [(b, Cl 24 [osv oq i]), (b4, Cl 24 [.slice none 0 0])] ++ (osg 70 oq vs' ++ osg 83 x.2 ((rebGo f true (ts[i].take x.1)).flatMap encOp))))
   (fun x => x.1 ≤ ts[i].length ∧ osok 5 x.2 (rebGo f true (ts[i].take x.1)).length ((rebGo f true (ts[i].take x.1)).flatMap encOp))
   (fun x => ts[i].length - x.1) (0, none) ⟨Nat.zero_le _, rfl, rfl⟩ ?_
  rintro ⟨j, ov⟩ ⟨hj, hov⟩ ih2
  dsimp only at hj hov ih2 ⊢
  repeat' first
    | refine EV.seq ?_
    | refine EV.skip ?_
    | refine EV.block ?_
    | (refine EV.reg ?_; (conv => (arg 2; whnf)); (refine nx ?_; try with_reducible exact ⟨⟩))
    | (refine EV.condX rfl (fun h => ?_) (fun h => ?_) <;> try exact dead h)
    | (refine EV.exit rfl ?_)
    | ((first | with_reducible intro b | refine xsA rfl ?_ | fail); try (refine nx ?_; try with_reducible exact ⟨⟩))
    | fail
  ·have hj' : j < ts[i].length := by omega
   obtain ⟨qb, qo, rfl, hat2⟩ := Sl.at (enc := encOp) (fun _ => rfl) (by omega) hr2 (by omega)
   have hr3 := hat2 j hj'
   repeat' first
     | refine EV.seq ?_
     | (refine EV.reg ?_; (conv => (arg 2; whnf)); (refine nx ?_; try with_reducible exact ⟨⟩))
     | (with_reducible intro b; try (refine nx ?_; try with_reducible exact ⟨⟩))
     | (refine And.intro (by omega) ?_)
     | ((first | refine Exists.intro _ (And.intro (rd_M (by assumption)) ?_) | refine xrA rfl ?_ | fail); try (refine nx ?_; try with_reducible exact ⟨⟩))
     | (refine xw ?_; (refine nx ?_; try with_reducible exact ⟨⟩))
     | fail
   have hgj := fun M => hg M ts[i][j] (noAcc (ts[i].take j)) (hmem _ (List.getElem_mem hj'))
   have hlen3 := (hgj M).1
   refine Con.callB (G1 := []) (hgj _).2 (PHeap.le_refl _) (List.Perm.refl _) ?_
   rintro v M' G' ⟨ov', rfl, hov', rfl⟩
   simp only [wpS, wpA, wpQL, push_cast, Int.cast_ofNat_Int, reduceIte, Nat.reduceEqDiff, reduceCtorEq, Nat.reduceAdd, Nat.reduceSub, Nat.reduceMul, Int.reduceToNat, Nat.reduceLeDiff]
   have hrl : (rebGo f true (ts[i].take j)).length ≤ 3 * (ts[i].take j).length := rebGo_len (fun o ho b => (hg M o b (hmem _ (List.mem_of_mem_take ho))).1) true
   have htl : (ts[i].take j).length ≤ j := by simp; omega
   refine ⟨_, rd_osg (T := 83) hov' (fun p hp => by simp [hp]), ok1_ops _, Or.inl ⟨ov, _, rfl, _, hov, _, cat_pull [[_, _, _], osg 70 oq vs', osg 83 ov _, osg 83 ov' _] 2 (by simp), ?_, ?_, ?_⟩⟩
   ·simp only [maxLen]; omega
   ·omega
   intro o' ho' _
   simp only [List.eraseIdx_cons_succ, List.eraseIdx_cons_zero, List.getElem_cons_succ, List.getElem_cons_zero, List.insertIdx_zero, List.insertIdx_succ_cons, cat_two, cat_one, cat_nil, List.nil_append, List.cons_append, List.append_assoc, List.append_nil]
   repeat' first
     | refine EV.inBlock ?_
     | (refine EV.reg ?_; (conv => (arg 2; whnf)); (refine nx ?_; try with_reducible exact ⟨⟩))
     | (refine ConQ.call (litmus_access_q _) ?_; try (refine nx ?_; try with_reducible exact ⟨⟩))
     | with_reducible assumption
     | (refine condW.merge ?_ (fun hc K' hK => ?_) ?_; rotate_left)
     | (refine xrA rfl ?_; try (refine nx ?_; try with_reducible exact ⟨⟩))
     | fail
   have e := rebGo_take (f := f) hj'
   have ih3 := ih2 (j + 1, o') ⟨by dsimp only; omega, by rw [e, List.length_append, List.flatMap_append]; exact ho'⟩ (by dsimp only; omega)
   dsimp only at ih3
   rw [noAcc_take hj', e, List.length_append, List.flatMap_append] at ih3
   refine EV.to ih3 ?_ (by (repeat' first | exact List.Sublist.refl _ | exact List.nil_sublist _ | exact List.sublist_append_left _ _ | refine List.Sublist.cons_cons _ ?_ | refine List.Sublist.append_left ?_ _ | refine List.sublist_append_of_sublist_right ?_ | refine List.Sublist.cons _ ?_))
   repeat' first
    | (refine List.forall_mem_cons.2 (And.intro ?_ ?_))
    | (intro _ hnil; cases hnil; done)
    | rfl
    | (refine env_w64 rfl (by first | rfl | (push_cast; first | rfl | omega)) (by omega) (by omega); done)
    | fail
  ·have hj' : j = ts[i].length := by omega
   subst hj'
   rw [List.take_length] at hov ⊢
   refine ⟨[osv ov (rebGo f true ts[i]).length], Or.inr ⟨b, 0, rfl, rd_own' 0 rfl rfl (by simp)⟩, by simp [ok1_cons, ok1_nil, Value.oneCell'], Or.inl ⟨oq, i, rfl, vs', hoq, _, cat_pull [[_, _, _], osg 70 oq vs', osg 83 ov _] 1 (by simp), ?_, ?_, ?_⟩⟩
   ·simp only [maxLen]; omega
   ·omega
   intro o' ho' _
   simp only [List.eraseIdx_cons_succ, List.eraseIdx_cons_zero, List.getElem_cons_succ, List.getElem_cons_zero, List.insertIdx_zero, List.insertIdx_succ_cons, cat_two, cat_one, cat_nil, List.nil_append, List.cons_append, List.append_assoc, List.append_nil]
   repeat' first
     | refine EV.inBlock ?_
     | (refine EV.reg ?_; (conv => (arg 2; whnf)); (refine nx ?_; try with_reducible exact ⟨⟩))
     | (refine xw ?_; (refine nx ?_; try with_reducible exact ⟨⟩))
     | fail
   refine EV.permG ?_ (cat_pull [[_, _, _], osg 83 ov _, osg 70 o' _] 1 (by simp))
   simp only [List.eraseIdx_cons_succ, List.eraseIdx_cons_zero, List.getElem_cons_succ, List.getElem_cons_zero, List.insertIdx_zero, List.insertIdx_succ_cons, cat_two, cat_one, cat_nil, List.nil_append, List.cons_append, List.append_assoc, List.append_nil]
   refine EV.freeze ?_
   have ih3 := ih (i + 1, Mi.add (osg 83 ov ((rebGo f true ts[i]).flatMap encOp)), o', vs' ++ [osv ov (rebGo f true ts[i]).length]) ⟨by dsimp only; omega, PHeap.le_trans hMi (PHeap.le_add _ _), ho', by simp [hlen'], ?_⟩ (by dsimp only; omega)
   dsimp only at ih3
   refine EV.to ih3 ?_ (by (repeat' first | exact List.Sublist.refl _ | exact List.nil_sublist _ | exact List.sublist_append_left _ _ | refine List.Sublist.cons_cons _ ?_ | refine List.Sublist.append_left ?_ _ | refine List.sublist_append_of_sublist_right ?_ | refine List.Sublist.cons _ ?_))
   ·repeat' first
     | (refine List.forall_mem_cons.2 (And.intro ?_ ?_))
     | (intro _ hnil; cases hnil; done)
     | rfl
     | (refine env_w64 rfl (by first | rfl | (push_cast; first | rfl | omega)) (by omega) (by omega); done)
     | fail
   ·intro k hk1 hk2
    dsimp only at hk1 hk2 ⊢
    by_cases hkl : k < vs'.length
    ·rw [List.getElem_append_left hkl]
     exact (hSl k hkl hk2).mono (PHeap.le_add _ _)
    ·have : k = i := by simp at hk1; omega
     subst this
     rw [List.getElem_append_right (by omega)]
     simp only [hlen', Nat.sub_self, List.getElem_cons_zero]
     exact ⟨_, _, rfl, rd_osg hov (fun p hp => hp)⟩
 ·have hi2 : i = ts.length := by omega
  subst hi2
  refine EV.permG ?_ (cat_pull [[_, _], osg 70 oq vs'] 1 (by simp))
  simp only [List.eraseIdx_cons_succ, List.eraseIdx_cons_zero, List.getElem_cons_succ, List.getElem_cons_zero, List.insertIdx_zero, List.insertIdx_succ_cons, cat_two, cat_one, cat_nil, List.nil_append, List.cons_append, List.append_assoc, List.append_nil]
  refine EV.freeze ?_
  refine EV.ret Q53_ok ?_
  simp only [wpS, wpA, wpQL, push_cast, Int.cast_ofNat_Int, reduceIte, Nat.reduceEqDiff, reduceCtorEq, Nat.reduceAdd, Nat.reduceSub, Nat.reduceMul, Int.reduceToNat, Nat.reduceLeDiff, Q53]
  refine ⟨_, rd_own' 1 rfl rfl (by simp), _, rfl, oad oq, ocap oq, vs', by simp, by simpa using hlen', ?_, ?_⟩
  ·simpa using rd_osg hoq (fun p hp => hp)
  ·intro k h1 h2
   simp only [List.getElem_map]
   exact (hSl k h1 (by simpa using h2)).mono (PHeap.le_add _ _)

end
end Go.EV

namespace Go.EV
open Go.Proofs

def expT (l : List OpV) : List OpV := l.flatMap expOp

theorem rebGo_exp : ∀ (b : Bool) (l : List OpV), rebGo (fun o _ => expOp o) b l = expT l
 | _, [] => rfl
 | b, o :: l => by rw [rebGo, rebGo_exp]; simp [expT]

theorem checkP_zero {ts : List (List OpV)} (h : checkP ts = 0) : limitsP ts = true ∧ ts.length ≠ 0 ∧ ts.flatten.all okOp = true := by
 unfold checkP at h
 split at h
 ·omega
 ·split at h
  ·omega
  ·split at h
   ·rename_i h1 h2 h3; exact ⟨by simpa using h1, h2, h3⟩
   ·omega

/-- A program that is fit is small. -/
theorem checkP_small {ts : List (List OpV)} (h : checkP ts = 0) : ts.flatten.length ≤ 14 ∧ ts.length ≤ 3 := by
 obtain ⟨hl, _, hall⟩ := checkP_zero h
 have key : ∀ (l : List OpV) (s : LimS), (∀ o ∈ l, okOp o = true) → (l.length : Int) + s.acc + s.fen ≤ (l.foldl limStep s).acc + (l.foldl limStep s).fen := by
  intro l
  induction l with
  | nil => intro s _; simp
  | cons o l ih =>
   intro s h
   have ih2 := ih (limStep s o) (fun x hx => h x (List.mem_cons_of_mem _ hx))
   obtain ⟨q1, _, _⟩ := (okOp_iff o).1 (h o (List.mem_cons_self ..))
   have hk : 0 ≤ o.kind ∧ o.kind < 6 := by simp only [mayR, Bool.and_eq_true, decide_eq_true_eq] at q1; exact q1.1
   have h1 : s.acc + s.fen + 1 ≤ (limStep s o).acc + (limStep s o).fen := by
    unfold limStep
    split
    ·dsimp only; omega
    ·rw [if_pos (by simp [accessP]; omega)]
     dsimp only
     split <;> omega
   rw [List.foldl_cons, List.length_cons]
   omega
 have := key ts.flatten ⟨0, 0, 0, 0, 0⟩ (List.all_eq_true.1 hall)
 simp only [limitsP, Bool.and_eq_true, decide_eq_true_eq] at hl
 have e : (limOf ts.flatten) = ts.flatten.foldl limStep ⟨0, 0, 0, 0, 0⟩ := rfl
 rw [← e] at this
 dsimp only at this
 exact ⟨by omega, by omega⟩

theorem expOp_len (o : OpV) : (expOp o).length ≤ 3 := by
 unfold expOp; split <;> simp

section
variable {M : PHeap}

theorem exp_byC {l : List OpV} (hl : ∀ o ∈ l, okOp o = true) : ByC Tryz.prog 83 70 (fun o _ => expOp o) l := by
 intro M o b ho
 refine ⟨expOp_len o, (litmus_Expand_S1_c o b (hl o ho)).mono ?_⟩
 rintro v M' G' ⟨bb, rfl, rfl⟩
 refine ⟨some (bb, (expOp o).length, []), rfl, ⟨?_, ?_, Nat.le_refl _, ?_⟩, by simp [osg]⟩
 ·rw [flatMap_length (sz := 5) (fun _ => rfl)]
 ·rw [List.append_nil, flatMap_length (sz := 5) (fun _ => rfl)]
 ·have := expOp_len o; simp only [maxLen]; omega

theorem litmus_Expand_c (ts : List (List OpV)) (s : Value) (hs : SlSl M 5 encOp s ts) (hb : Sized ts) :
  Con Tryz.prog 30 #[.agg #[s]] M [] fun v M' _ => (checkP ts ≠ 0 ∧ v = .tuple #[.agg #[.slice none 0 0], vi (checkP ts)]) ∨ (checkP ts = 0 ∧ ∃ s', v = .tuple #[.agg #[s'], vi 0] ∧ SlSl M' 5 encOp s' (ts.map expT)) := by
 have hs0 := hs
 obtain ⟨a, c, vs, rfl, hl, hrd, hk⟩ := hs
 refine Con.enter Q47_ok (args := [.agg #[.slice a ts.length c]]) (by simp [Q47]) fun w0 => ?_
 simp only [Q47, argE]
 repeat' first
   | refine EV.seq ?_
   | refine EV.skip ?_
   | (refine EV.reg ?_; (conv => (arg 2; whnf)); (refine nx ?_; try with_reducible exact ⟨⟩))
   | (refine ConQ.call (litmus_Check_q _ _ (hs0.mono (PHeap.le_add _ _)) hb) ?_; try (refine nx ?_; try with_reducible exact ⟨⟩))
   | (refine EV.condX rfl (fun h => ?_) (fun h => ?_) <;> try exact dead h)
   | (refine EV.ret Q47_ok ?_; simp only [wpS, wpA, wpQL, push_cast, Int.cast_ofNat_Int, reduceIte, Nat.reduceEqDiff, reduceCtorEq, Nat.reduceAdd, Nat.reduceSub, Nat.reduceMul, Int.reduceToNat, Nat.reduceLeDiff, Q47])
   | ((first | with_reducible intro b | refine xrA rfl ?_ | fail); try (refine nx ?_; try with_reducible exact ⟨⟩))
   | (refine xw ?_; (refine nx ?_; try with_reducible exact ⟨⟩))
   | fail
 ·exact .inl h
 ·obtain ⟨_, _, hall⟩ := checkP_zero h
  have hsm := checkP_small h
  refine Con.callA (G1 := []) (litmus_rebuilt_c _ _ ts _ hs0 (by omega) (by omega) (exp_byC (List.all_eq_true.1 hall))) (List.Perm.refl _) ?_
  rintro v M' G' hM' ⟨s', rfl, hs'⟩
  obtain ⟨a', c', vs', rfl, hr'⟩ := hs'
  simp only [wpS, wpA, wpQL, push_cast, Int.cast_ofNat_Int, reduceIte, Nat.reduceEqDiff, reduceCtorEq, Nat.reduceAdd, Nat.reduceSub, Nat.reduceMul, Int.reduceToNat, Nat.reduceLeDiff]
  repeat' first
    | (refine EV.ret Q47_ok ?_; simp only [wpS, wpA, wpQL, push_cast, Int.cast_ofNat_Int, reduceIte, Nat.reduceEqDiff, reduceCtorEq, Nat.reduceAdd, Nat.reduceSub, Nat.reduceMul, Int.reduceToNat, Nat.reduceLeDiff, Q47])
    | (refine xrA rfl ?_; try (refine nx ?_; try with_reducible exact ⟨⟩))
    | (refine xw ?_; (refine nx ?_; try with_reducible exact ⟨⟩))
    | fail
  refine .inr ⟨h, _, rfl, ?_⟩
  have e : rebGo (fun o _ => expOp o) true = expT := funext fun l => rebGo_exp true l
  rw [← e]
  exact ⟨a', c', vs', rfl, hr'⟩
end
end Go.EV

namespace Go.EV
variable {P : Program}

/-- A contract of a call of yield: what a round of the loop l does. -/
def YCon (P : Program) (l : Nat) (args : Array Value) (M : PHeap) (G : Own) (Φ : Value → PHeap → Own → Prop) : Prop :=
 ∀ w, EV.St w (G.map (·.1)) M M G w → ∃ r : Loop, w.heap[l]? = some (.loop r) ∧ args.size = r.params.size ∧
  Rounds P l r.fn ((r.params.zip args).foldl (fun tmps (t, a) => tmps.setIfInBounds t a) r.tmps) r.assign r.body w fun v w' => ∃ M' G', EV.St w (G.map (·.1)) M M' G' w' ∧ Φ v M' G'

section
variable {C : Cx P} {l : Nat} {args : Array Value} {M : PHeap} {G G1 G2 : Own} {K : Value → PHeap → Own → Prop} {Φ : Value → PHeap → Own → Prop}

theorem YCon.callA (h : YCon P l args M G1 Φ) (hG : G.Perm (G1 ++ G2)) (hk : ∀ v M' G', M.le M' → Φ v M' G' → K v M' (G2 ++ G')) : YieldW C l args M G K := by
 intro w hs
 have hs' := hs.perm hG
 obtain ⟨r, h1, h2, h3⟩ := h w (hs'.part (PHeap.le_add _ _))
 refine ⟨r, h1, h2, h3.mono ?_⟩
 rintro v w' ⟨M', G', k1, k2⟩
 exact ⟨M', G2 ++ G', (hs'.callA k1).perm List.perm_append_comm, hk v M' G' k1.base k2⟩
end

/-- The round's activation. -/
def Cx.round (P : Program) (l : Nat) (f : FuncId) (nt : Nat) (w0 : World) (F : List Nat) (M0 : PHeap) (Φ : Value → PHeap → Own → Prop) : Cx P where
 b := { (default : Frame) with fn := f, kind := .normal, roundOf := some l }
 T := fun cs m => ∀ c cs', cs = c :: cs' → ∃ v w', (∃ M' G', EV.St w0 F M0 M' G' w' ∧ Φ v M' G') ∧ Steps P m (lone (c.finish v) cs' w')
 back := by
  intro cs m m' hs h c cs' e
  obtain ⟨v, w', h1, h2⟩ := h c cs' e
  exact ⟨v, w', h1, Steps.trans (.one hs) h2⟩
 nt := nt
 ds := []
 w0 := w0
 F := F
 M0 := M0

/-- The parameters of a round. -/
def parE : List Nat → List Value → Env → Env
 | t :: ps, v :: vs, ρ => parE ps vs ((t, v) :: ρ)
 | _, _, ρ => ρ

theorem fits_par {nt : Nat} : ∀ (ps : List Nat) (vs : List Value) (ρ : Env) (a : Act), (∀ t ∈ ps, t < nt) → Fits nt ρ a →
  Fits nt (parE ps vs ρ) { a with tmps := (ps.zip vs).foldl (fun tmps (t, v) => tmps.setIfInBounds t v) a.tmps }
 | [], _, ρ, a, _, h => h
 | _ :: _, [], ρ, a, _, h => h
 | t :: ps, v :: vs, ρ, a, hp, h => by
  have h1 := h.put t (hp t (List.mem_cons_self ..)) v
  have h2 := fits_par ps vs ((t, v) :: ρ) (a.put (some t) v) (fun q hq => hp q (List.mem_cons_of_mem _ hq)) h1
  simpa [parE, Act.put] using h2

/-- What is known of a loop's record: its code, resolved; its temporaries. -/
structure LoopIs (P : Program) (V : List Nat) (r : Loop) (f : FuncId) (nt : Nat) (ps : List Nat) (asn bd : RCode) (ρ : Env) : Prop where
 fn : r.fn = f
 par : r.params.toList = ps
 pb : ∀ t ∈ ps, t < nt
 fits : Fits nt ρ { tmps := r.tmps, defers := [] }
 asg : CmpC P nt V r.assign asn
 body : CmpC P nt V r.body bd

section
variable {l : Nat} {f : FuncId} {nt : Nat} {V : List Nat} {ps : List Nat} {asn bd : RCode} {ρ : Env} {r : Loop} {M : PHeap} {G : Own} {Φ : Value → PHeap → Own → Prop}

/-- A round is walked. -/
theorem YCon.enter {vs : List Value} (hl : (l, Obj.loop r) ∈ G) (hr : LoopIs P V r f nt ps asn bd ρ) (hv : vs.length = ps.length)
  (h : ∀ w0, EV (Cx.round P l f nt w0 (G.map (·.1)) M Φ) V [.code asn, .begins, .code bd] (parE ps vs ρ) M G) : YCon P l vs.toArray M G Φ := by
 intro w hs
 have hps := hr.par
 refine ⟨r, hs.own _ hl, ?_, ?_⟩
 ·rw [List.size_toArray, hv, ← hps, Array.length_toList]
 ·intro c cs
  have hf : Fits nt (parE ps vs ρ) { tmps := (ps.zip vs).foldl (fun tmps (t, v) => tmps.setIfInBounds t v) r.tmps, defers := [] } := fits_par ps vs ρ { tmps := r.tmps, defers := [] } hr.pb hr.fits
  have := h w [.code r.assign, .beginRound, .code r.body] (.cons (.code hr.asg) (.cons .begins (.cons (.code hr.body) .nil))) _ w hf rfl hs (c :: cs) c cs rfl
  obtain ⟨v, w', h1, h2⟩ := this
  refine ⟨v, w', h1, ?_⟩
  have e : (r.params.zip vs.toArray).foldl (fun tmps (t, a) => tmps.setIfInBounds t a) r.tmps = (ps.zip vs).foldl (fun tmps (t, v) => tmps.setIfInBounds t v) r.tmps := by
   rw [← hps, ← Array.foldl_toList, Array.toList_zip]
  rw [e, hr.fn]
  exact h2

theorem St.loopPut {w0 w : World} {F : List Nat} {M0 : PHeap} {G0 : Own} {r r' : Loop} (hs : EV.St w0 F M0 M ((l, Obj.loop r) :: G0) w) : EV.St w0 F M0 M ((l, Obj.loop r') :: G0) (w.putObj l (.loop r')) :=
 hs.put (i := 0) (o' := .loop r') rfl rfl ⟨rfl, Nat.le_refl _⟩ rfl (by simp) (fun k hk => World.putObj_heap_other hk) (World.putObj_heap_same (hs.lt (List.mem_cons_self ..)))

variable {w0 : World} {F : List Nat} {M0 : PHeap} {G0 : Own} {k : List RItem}

theorem EV.begins (hst : r.state = .ready) (h : EV (Cx.round P l f nt w0 F M0 Φ) V k ρ M ((l, Obj.loop { r with state := .busy }) :: G0)) : EV (Cx.round P l f nt w0 F M0 Φ) V (.begins :: k) ρ M ((l, Obj.loop r) :: G0) := by
 intro k' hk a w hf hd hs cs
 cases hk with
 | cons hx hk => cases hx with
  | begins =>
   have hl := hs.own (l, Obj.loop r) (List.mem_cons_self ..)
   exact (Cx.round P l f nt w0 F M0 Φ).back (stepR_beginRound rfl (run_beginRound hl hst)) (h _ hk a _ hf hd (St.loopPut hs) cs)

theorem EV.endRound (h : Φ (.bool true) M ((l, Obj.loop { r with state := .ready, pending := none }) :: G0)) : EV (Cx.round P l f nt w0 F M0 Φ) V [] ρ M ((l, Obj.loop r) :: G0) := by
 intro k' hk a w hf hd hs cs c cs' e
 subst e
 cases hk
 have hl := hs.own (l, Obj.loop r) (List.mem_cons_self ..)
 exact ⟨_, _, ⟨M, _, St.loopPut hs, h⟩, .one (stepR_round_end rfl rfl (run_endRound none hl))⟩

theorem EV.retRound (h : Φ (.bool false) M ((l, Obj.loop { r with state := .done, pending := some .ret }) :: G0)) : EV (Cx.round P l f nt w0 F M0 Φ) V (.code .ret :: k) ρ M ((l, Obj.loop r) :: G0) := by
 intro k' hk a w hf hd hs cs c cs' e
 subst e
 cases hk with
 | cons hx hk => cases hx with
  | code hc => cases hc with
   | ret =>
    have hl := hs.own (l, Obj.loop r) (List.mem_cons_self ..)
    exact ⟨_, _, ⟨M, _, St.loopPut hs, h⟩, .one (stepR_round_ret rfl rfl (run_endRound (some .ret) hl))⟩

end
end Go.EV

namespace Go.EV
variable {P : Program}

def marksOf (ms : List Nat) : List Deferred := ms.map fun d => { target := .collected d, args := #[] }
def msOwn (ms : List Nat) : Own := ms.map fun d => (d, Obj.deferred (some []))

/-- The same activation, with marks among its deferred calls. -/
def Cx.marks (C : Cx P) (ms : List Nat) : Cx P :=
 {b := C.b, T := C.T, back := C.back, nt := C.nt, ds := marksOf ms ++ C.ds, w0 := C.w0, F := C.F, M0 := C.M0 }

abbrev yv (l : Nat) : Value := .func (.yield l) #[] #[]

/-- Where a loop over a function has ended. -/
def RangeEnd (C : Cx P) (V : List Nat) (k : List RItem) (ρ : Env) (l : Nat) (M : PHeap) (G : Own) : Prop :=
 ∃ r G', G.Perm ((l, Obj.loop r) :: G') ∧ r.state ≠ .busy ∧
  (match r.pending with
   | none => EV C V k ρ M G'
   | some .ret => EV C V (.code .ret :: k) ρ M G'
   | some (.exit id) => EV C V (.code (.exit id) :: k) ρ M G'
   | _ => False)

theorem back_steps (C : Cx P) {cs : List Frame} {m m' : Machine} (h : Steps P m m') (ht : C.T cs m') : C.T cs m := by
 obtain ⟨n, hn⟩ := h
 have key : ∀ (n : Nat) (m m' : Machine), runN P n m = .next m' → C.T cs m' → C.T cs m := by
  intro n
  induction n with
  | zero => intro m m' h1 h2; simp [runN] at h1; subst h1; exact h2
  | succ n ih =>
   intro m m' h1 h2
   simp only [runN] at h1
   cases hst : step P m with
   | next m1 => rw [hst] at h1; exact C.back hst (ih m1 m' h1 h2)
   | ended o w => rw [hst] at h1; simp at h1
 exact key n m m' hn ht

theorem run_resolveF {a : Act} {x : Operand} {g : FuncId} {first caps : Array Value} (l : Nat) (w : World) (hx : a.eval x = .func (.func g) first caps) :
  (resolve a.eval (rangeCall x l) 0).run P w = .ok { target := .fn (.func g) caps, args := first ++ #[yv l] } w := by
 have e : (#[Operand.const (Value.func (Fn.yield l) #[] #[])] : Array Operand).map a.eval = #[yv l] := by simp [Act.eval]
 simp only [resolve, rangeCall, hx, e]
 rfl

section
variable {C : Cx P} {V : List Nat} {k : List RItem} {ρ : Env} {M : PHeap} {G : Own} {f : A} {ps : List Nat} {asn bd : RCode} {fv : Value} {g : FuncId} {first caps : Array Value}

theorem EV.rangeAux {k' : List Item} (hk : CmpK P C.nt V k' k) {a : Act} {l : Nat} {cs : List Frame} {fr : Frame} {w' : World} {v : Value} {M' : PHeap} {G' : Own}
  (hf : Fits C.nt ρ a) (hd : a.defers = C.ds) (hfl : fr.leaving P w' (.returned v)) (hst : C.St M' G' w') (hr : RangeEnd C V k ρ l M' G') :
  C.T cs (lone fr (C.b.atR a (.inRangeFunc l :: k') :: cs) w') := by
 obtain ⟨r, G1, hp, hb, hm⟩ := hr
 refine C.back (step_leave_returned hfl) ?_
 rw [finish_atR_inRangeFunc]
 have hst1 := hst.perm hp
 have hl := hst1.own (l, Obj.loop r) (List.mem_cons_self ..)
 refine C.back (stepR_endRangeFunc (run_endLoop hl hb)) ?_
 have hst2 : C.St M' G1 (w'.putObj l (.loop { r with state := .exhausted })) := (St.loopPut hst1).weaken (List.sublist_cons_self _ _)
 revert hst2
 cases hpe : r.pending with
 | none => rw [hpe] at hm; exact fun hst2 => hm _ hk a _ hf hd hst2 cs
 | some c =>
  rw [hpe] at hm
  cases c with
  | ret => exact fun hst2 => hm _ (.cons (.code .ret) hk) a _ hf hd hst2 cs
  | exit id => exact fun hst2 => hm _ (.cons (.code .exit) hk) a _ hf hd hst2 cs
  | _ => exact hm.elim

/-- A loop over a function, in a function's activation. -/
theorem EV.rangeF (hro : C.b.roundOf = none) (hfv : ev ρ f = some fv) (hfn : fn? fv = some (g, first, caps))
  (h : ∀ (l d : Nat) (r : Loop), LoopIs P V r C.b.fn C.nt ps asn bd ρ → r.state = .ready → r.pending = none →
   CallW (C.marks [d]) g (first ++ #[yv l] ++ caps) M ((l, Obj.loop r) :: (d, Obj.deferred (some [])) :: G) fun _ M' G' => RangeEnd (C.marks [d]) V k ρ l M' G') :
  EV C V (.code (.rangeF f ps asn bd) :: k) ρ M G := by
 intro k' hk a w hf hd hs cs
 have e0 := fn?_some hfn
 subst e0
 cases hk with
 | cons hx hk => cases hx with
  | code hc => cases hc with
   | @rangeF x _ ps' asn' bd' _ _ hA hps ha hb =>
    have hx := eval_cA hf hA hfv
    obtain ⟨hgo, hcall⟩ := h (w.heap.size + 1) w.heap.size { state := .ready, pending := none, fn := C.b.fn, tmps := a.tmps, params := ps', assign := asn', body := bd', defers := w.heap.size }
     ⟨rfl, rfl, hps, ⟨hf.1, hf.2⟩, ha, hb⟩ rfl rfl
    have he := run_enterLoop_outer (P := P) (w := w) C.b.fn a.tmps ps' asn' bd'
    rw [← hro] at he
    have hres := run_resolveF (P := P) (w.heap.size + 1) ((w.alloc (.deferred (some []))).alloc (.loop { state := .ready, pending := none, fn := C.b.fn, tmps := a.tmps, params := ps', assign := asn', body := bd', defers := w.heap.size })) hx
    have hinv := callFunc_go hgo (first ++ #[yv (w.heap.size + 1)] ++ caps) ((w.alloc (.deferred (some []))).alloc (.loop { state := .ready, pending := none, fn := C.b.fn, tmps := a.tmps, params := ps', assign := asn', body := bd', defers := w.heap.size }))
    refine C.back (stepR_rangeFunc he hres hinv) ?_
    have hst : (C.marks [w.heap.size]).St M ((w.heap.size + 1, Obj.loop { state := .ready, pending := none, fn := C.b.fn, tmps := a.tmps, params := ps', assign := asn', body := bd', defers := w.heap.size }) :: (w.heap.size, Obj.deferred (some [])) :: G)
      ((w.alloc (.deferred (some []))).alloc (.loop { state := .ready, pending := none, fn := C.b.fn, tmps := a.tmps, params := ps', assign := asn', body := bd', defers := w.heap.size })) := by
     have h1 := hs.alloc (.deferred (some []))
     have h2 := h1.alloc (.loop { state := .ready, pending := none, fn := C.b.fn, tmps := a.tmps, params := ps', assign := asn', body := bd', defers := w.heap.size })
     simpa [Cx.marks] using h2
    obtain ⟨e, w'', fr, ⟨v, he2, M', G', hst', hend⟩, hsteps, hfr, hlv⟩ := hcall _ hst (C.b.atR { a with defers := [{ target := .collected w.heap.size, args := #[] }] ++ a.defers } (.inRangeFunc (w.heap.size + 1) :: _) :: cs)
    subst he2
    refine back_steps C hsteps ?_
    refine EV.rangeAux (C := C.marks [w.heap.size]) (a := { a with defers := [{ target := .collected w.heap.size, args := #[] }] ++ a.defers }) hk ⟨hf.1, hf.2⟩ ?_ hlv hst' hend
    show [{ target := .collected w.heap.size, args := #[] }] ++ a.defers = marksOf [w.heap.size] ++ C.ds
    rw [hd]; rfl

/-- A loop over a function within a round. -/
theorem EV.rangeI {l0 : Nat} {r0 : Loop} (hro : C.b.roundOf = some l0) (hl0 : (l0, Obj.loop r0) ∈ G) (hfv : ev ρ f = some fv) (hfn : fn? fv = some (g, first, caps))
  (h : ∀ (l : Nat) (r : Loop), LoopIs P V r C.b.fn C.nt ps asn bd ρ → r.state = .ready → r.pending = none →
   CallW C g (first ++ #[yv l] ++ caps) M ((l, Obj.loop r) :: G) fun _ M' G' => RangeEnd C V k ρ l M' G') :
  EV C V (.code (.rangeF f ps asn bd) :: k) ρ M G := by
 intro k' hk a w hf hd hs cs
 have e0 := fn?_some hfn
 subst e0
 cases hk with
 | cons hx hk => cases hx with
  | code hc => cases hc with
   | @rangeF x _ ps' asn' bd' _ _ hA hps ha hb =>
    have hx := eval_cA hf hA hfv
    obtain ⟨hgo, hcall⟩ := h w.heap.size { state := .ready, pending := none, fn := C.b.fn, tmps := a.tmps, params := ps', assign := asn', body := bd', defers := r0.defers }
     ⟨rfl, rfl, hps, ⟨hf.1, hf.2⟩, ha, hb⟩ rfl rfl
    have he := run_enterLoop_inner (P := P) (w := w) (hs.own _ hl0) C.b.fn a.tmps ps' asn' bd'
    rw [← hro] at he
    have hres := run_resolveF (P := P) w.heap.size (w.alloc (.loop { state := .ready, pending := none, fn := C.b.fn, tmps := a.tmps, params := ps', assign := asn', body := bd', defers := r0.defers })) hx
    have hinv := callFunc_go hgo (first ++ #[yv w.heap.size] ++ caps) (w.alloc (.loop { state := .ready, pending := none, fn := C.b.fn, tmps := a.tmps, params := ps', assign := asn', body := bd', defers := r0.defers }))
    refine C.back (stepR_rangeFunc he hres hinv) ?_
    have hst := hs.alloc (.loop { state := .ready, pending := none, fn := C.b.fn, tmps := a.tmps, params := ps', assign := asn', body := bd', defers := r0.defers })
    obtain ⟨e, w'', fr, ⟨v, he2, M', G', hst', hend⟩, hsteps, hfr, hlv⟩ := hcall _ hst (C.b.atR { a with defers := [] ++ a.defers } (.inRangeFunc w.heap.size :: _) :: cs)
    subst he2
    refine back_steps C hsteps ?_
    exact EV.rangeAux (C := C) (a := { a with defers := [] ++ a.defers }) hk ⟨hf.1, hf.2⟩ hd hlv hst' hend
end

/-! ### Returns behind marks -/
section
variable {f : FuncId} {w0 : World} {F : List Nat} {M0 M : PHeap} {G : Own} {Φ : Value → PHeap → Own → Prop} {V Q : List Nat} {k : List RItem} {ρ : Env}

theorem unmark {cs : List Frame} : ∀ (ms : List Nat) {w : World} {fr : Frame}, St w0 F M0 M (msOwn ms ++ G) w → fr.mode = .returning → fr.defers = marksOf ms →
  ∃ w', St w0 F M0 M G w' ∧ Steps P (lone fr cs w) (lone { fr with defers := [] } cs w')
 | [], w, fr, hs, _, hd => by
  refine ⟨w, by simpa [msOwn] using hs, ?_⟩
  have : { fr with defers := [] } = fr := by
   cases fr; simp only [marksOf, List.map_nil] at hd; subst hd; rfl
  rw [this]; exact Steps.refl _ _
 | d :: ms, w, fr, hs, hm, hd => by
  have hs0 : St w0 F M0 M ((d, Obj.deferred (some [])) :: (msOwn ms ++ G)) w := by simpa [msOwn] using hs
  have hl := hs0.own (d, Obj.deferred (some [])) (List.mem_cons_self ..)
  have h1 := step_collected (P := P) (cs := cs) (fr := fr) (w := w) (d := { target := .collected d, args := #[] }) (r := d) (ds := marksOf ms) (calls := []) (by rw [hm]; simp) hd rfl (run_takeDeferred hl)
  have hs1 : St w0 F M0 M ((d, Obj.deferred none) :: (msOwn ms ++ G)) (w.putObj d (.deferred none)) :=
   hs0.put (i := 0) (o' := .deferred none) rfl rfl ⟨rfl, Nat.le_refl _⟩ rfl (by simp) (fun k hk => World.putObj_heap_other hk) (World.putObj_heap_same (hs0.lt (List.mem_cons_self ..)))
  obtain ⟨w', h2, h3⟩ := unmark ms (cs := cs) (fr := { fr with defers := [] ++ marksOf ms }) (hs1.weaken (List.sublist_cons_self _ _)) hm rfl
  exact ⟨w', h2, Steps.trans (.one h1) h3⟩

theorem EV.retM {R : RFun} (hR : compF P V Q f = some R) {ms : List Nat} {G1 : Own} (hG : G.Perm (msOwn ms ++ G1)) (h : retW R ρ M G1 Φ) : EV ((Cx.fn P f R.nt w0 F M0 Φ).marks ms) R.V (.code .ret :: k) ρ M G := by
 unfold compF at hR
 split at hR
 ·rename_i hgo
  simp only [Option.bind_eq_some_iff] at hR
  obtain ⟨fn, hfn, c, hc, r, hr, res, hres, e⟩ := hR
  cases e
  intro k' hk a w hf hd hs cs
  cases hk with
  | cons hx hk => cases hx with
   | code hc => cases hc with
    | ret =>
     have hd' : a.defers = marksOf ms := by rw [hd]; exact List.append_nil _
     obtain ⟨w', hs', hst⟩ := unmark (P := P) (cs := cs) ms (fr := { ((Cx.fn P f fn.ntmps w0 F M0 Φ).marks ms).b.atR a (.code .ret :: _) with mode := .returning }) (hs.perm hG) rfl hd'
     obtain ⟨v, hv, hΦ⟩ := run_results (P := P) (fn := fn) (Q := fun v => Φ v M G1) hf (fun b o hb => hs'.agreeAdd hb) (compRs_ok hres) h
     refine ⟨.returned v, w', _, ⟨v, rfl, M, G1, hs', hΦ⟩, Steps.trans (.one (stepR_ret rfl)) hst, rfl, ?_⟩
     exact ⟨rfl, rfl, rfl, fn, hfn, hv⟩
 ·cases hR

theorem EV.doneM {R : RFun} (hR : compF P V Q f = some R) {ms : List Nat} {G1 : Own} (hG : G.Perm (msOwn ms ++ G1)) (h : retW R ρ M G1 Φ) : EV ((Cx.fn P f R.nt w0 F M0 Φ).marks ms) R.V [] ρ M G := by
 unfold compF at hR
 split at hR
 ·rename_i hgo
  simp only [Option.bind_eq_some_iff] at hR
  obtain ⟨fn, hfn, c, hc, r, hr, res, hres, e⟩ := hR
  cases e
  intro k' hk a w hf hd hs cs
  cases hk with
  | nil =>
   have hd' : a.defers = marksOf ms := by rw [hd]; exact List.append_nil _
   obtain ⟨w', hs', hst⟩ := unmark (P := P) (cs := cs) ms (fr := { ((Cx.fn P f fn.ntmps w0 F M0 Φ).marks ms).b.atR a [] with mode := .returning }) (hs.perm hG) rfl hd'
   obtain ⟨v, hv, hΦ⟩ := run_results (P := P) (fn := fn) (Q := fun v => Φ v M G1) hf (fun b o hb => hs'.agreeAdd hb) (compRs_ok hres) h
   refine ⟨.returned v, w', _, ⟨v, rfl, M, G1, hs', hΦ⟩, Steps.trans (.one (stepR_end rfl)) hst, rfl, ?_⟩
   exact ⟨rfl, rfl, rfl, fn, hfn, hv⟩
 ·cases hR
end

/-! ### Exits out of a round -/
section
variable {l : Nat} {f : FuncId} {nt : Nat} {V : List Nat} {ρ : Env} {r : Loop} {M : PHeap} {G : Own} {Φ : Value → PHeap → Own → Prop} {w0 : World} {F : List Nat} {M0 : PHeap} {G0 : Own} {k : List RItem}

theorem loop_same {r : Loop} (h1 : r.state = .ready) (h2 : r.pending = none) : ({ { r with state := .busy } with state := .ready, pending := none } : Loop) = r := by
 cases r; simp only at h1 h2; subst h1 h2; rfl
end

/-! ### Iterators -/

/-- An iterator: it calls yield with the things of a list, one behind the other, until yield says no. -/
def Iter {α : Type} (P : Program) (g : FuncId) (first caps : Array Value) (M : PHeap) (L : List α) (El : α → Value → PHeap → Prop) : Prop :=
 ∀ (l : Nat) (I : List α → PHeap → Own → Prop) (S : PHeap → Own → Prop) (M1 : PHeap) (G : Own), M.le M1 →
  (∀ xs M2 M3 G2, M2.le M3 → I xs M2 G2 → I xs M3 G2) →
  (∀ xs x, x ∈ L → ∀ M2 G2 v, M1.le M2 → I xs M2 G2 → El x v M2 → YCon P l #[v] M2 G2 fun b M3 G3 => (b = .bool true ∧ I (xs ++ [x]) M3 G3) ∨ (b = .bool false ∧ S M3 G3)) →
  ∀ xs, I xs M1 G → Con P g (first ++ #[yv l] ++ caps) M1 G fun _ M' G' => I (xs ++ L) M' G' ∨ S M' G'

theorem Iter.mono {α : Type} {g : FuncId} {first caps : Array Value} {M M' : PHeap} {L : List α} {El : α → Value → PHeap → Prop} (h : Iter P g first caps M L El) (hM : M.le M') : Iter P g first caps M' L El :=
 fun l I S M1 G hle => h l I S M1 G (PHeap.le_trans hM hle)

/-- How a round ends: on to the next one, or by a jump out of the loop. -/
def RoundΦ (l : Nat) (r : Loop) (N : PHeap → Own → Prop) (S : Code → PHeap → Own → Prop) (b : Value) (M : PHeap) (G : Own) : Prop :=
 (b = .bool true ∧ ∃ G', G.Perm ((l, Obj.loop r) :: G') ∧ N M G') ∨
 (b = .bool false ∧ ∃ c G', G.Perm ((l, Obj.loop { r with state := .done, pending := some c }) :: G') ∧ S c M G')

/-- A round's activation whose end is told by N and S. -/
abbrev Cx.rnd (P : Program) (l : Nat) (r : Loop) (f : FuncId) (nt : Nat) (w0 : World) (F : List Nat) (M0 : PHeap) (N : PHeap → Own → Prop) (S : Code → PHeap → Own → Prop) : Cx P :=
 Cx.round P l f nt w0 F M0 (RoundΦ l r N S)

section
variable {l : Nat} {f : FuncId} {nt : Nat} {V : List Nat} {ρ : Env} {r : Loop} {M : PHeap} {G : Own} {N : PHeap → Own → Prop} {S : Code → PHeap → Own → Prop} {w0 : World} {F : List Nat} {M0 : PHeap} {G0 : Own} {k : List RItem}

theorem EV.rbegin (hst : r.state = .ready) (h : EV (Cx.rnd P l r f nt w0 F M0 N S) V k ρ M ((l, Obj.loop { r with state := .busy }) :: G0)) : EV (Cx.rnd P l r f nt w0 F M0 N S) V (.begins :: k) ρ M ((l, Obj.loop r) :: G0) := EV.begins hst h

theorem EV.rend (h1 : r.state = .ready) (h2 : r.pending = none) (hG : G.Perm ((l, Obj.loop { r with state := .busy }) :: G0)) (h : N M G0) : EV (Cx.rnd P l r f nt w0 F M0 N S) V [] ρ M G := by
 refine EV.permG (EV.endRound ?_) hG
 refine .inl ⟨rfl, G0, ?_, h⟩
 rw [loop_same h1 h2]

theorem EV.rret (hG : G.Perm ((l, Obj.loop { r with state := .busy }) :: G0)) (h : S .ret M G0) : EV (Cx.rnd P l r f nt w0 F M0 N S) V (.code .ret :: k) ρ M G := by
 refine EV.permG (EV.retRound ?_) hG
 exact .inr ⟨rfl, _, G0, List.Perm.refl _, h⟩

end

/-- What the code behind a loop is asked, by the jump. -/
def AfterW (C : Cx P) (V : List Nat) (k : List RItem) (ρ : Env) (c : Code) (M : PHeap) (G : Own) : Prop :=
 match c with
 | .ret => EV C V (.code .ret :: k) ρ M G
 | .exit id => EV C V (.code (.exit id) :: k) ρ M G
 | _ => False

section
variable {α : Type} {C : Cx P} {V : List Nat} {k : List RItem} {ρ : Env} {M : PHeap} {G : Own} {f : A} {ps : List Nat} {asn bd : RCode} {fv : Value} {g : FuncId} {first caps : Array Value}

/-- The rounds of a loop over an iterator: I: what holds between the rounds. -/
theorem iter_rounds {L : List α} {El : α → Value → PHeap → Prop} (hit : Iter P g first caps M L El) (I : List α → PHeap → Own → Prop) (S : Code → PHeap → Own → Prop)
  {l : Nat} {r : Loop} {fn : FuncId} {nt t : Nat} (hr : LoopIs P V r fn nt [t] asn bd ρ)
  (hmono : ∀ xs M2 M3 G2, M2.le M3 → I xs M2 G2 → I xs M3 G2)
  (hbody : ∀ xs x v M2 G2 w0 F, x ∈ L → M.le M2 → I xs M2 G2 → El x v M2 → EV (Cx.rnd P l r fn nt w0 F M2 (I (xs ++ [x])) S) V [.code asn, .begins, .code bd] ((t, v) :: ρ) M2 ((l, Obj.loop r) :: G2))
  {G0 : Own} (hI : I [] M G0) :
  Con P g (first ++ #[yv l] ++ caps) M ((l, Obj.loop r) :: G0) fun _ M' G' => (∃ G1, G'.Perm ((l, Obj.loop r) :: G1) ∧ I L M' G1) ∨ (∃ c G1, G'.Perm ((l, Obj.loop { r with state := .done, pending := some c }) :: G1) ∧ S c M' G1) := by
 have := hit l (fun xs M2 G2 => ∃ G1, G2.Perm ((l, Obj.loop r) :: G1) ∧ I xs M2 G1) (fun M2 G2 => ∃ c G1, G2.Perm ((l, Obj.loop { r with state := .done, pending := some c }) :: G1) ∧ S c M2 G1) M ((l, Obj.loop r) :: G0) (PHeap.le_refl _)
  (fun xs M2 M3 G2 hle ⟨G1, h1, h2⟩ => ⟨G1, h1, hmono _ _ _ _ hle h2⟩) ?_ [] ⟨G0, List.Perm.refl _, hI⟩
 ·exact this
 ·rintro xs x hx M2 G2 v hM2 ⟨G1, hp, h2⟩ hv
  have hy : YCon P l [v].toArray M2 ((l, Obj.loop r) :: G1) (RoundΦ l r (I (xs ++ [x])) S) :=
   YCon.enter (List.mem_cons_self ..) hr rfl fun w0 => hbody xs x v M2 G1 w0 _ hx hM2 h2 hv
  intro w hs
  obtain ⟨r', e1, e2, e3⟩ := hy w (by
   have hs' := hs.perm hp
   have : St w ((((l, Obj.loop r) :: G1)).map (·.1)) M2 M2 ((l, Obj.loop r) :: G1) w := St.enter hs'.agree hs'.own hs'.sep hs'.nodup
   exact this)
  refine ⟨r', e1, e2, e3.mono ?_⟩
  rintro b w' ⟨M', G', k1, k2⟩
  refine ⟨M', G', ?_, ?_⟩
  ·have hmem : ∀ b, b ∈ (((l, Obj.loop r) :: G1).map (·.1)) ↔ b ∈ G2.map (·.1) := fun b => ((hp.map (·.1)).mem_iff).symm
   exact ⟨k1.os, k1.tape, k1.output, k1.size, fun b hb hf => k1.frame b hb (fun h => hf ((hmem b).1 h)), k1.agree, k1.own, k1.sep, fun p hp' => (k1.new p hp').imp (hmem _).1 id, k1.nodup, k1.base,
    fun b o hm => (k1.fresh b o hm).imp id fun h => h.imp (hmem _).1 id⟩
  ·rcases k2 with ⟨rfl, G3, h3, h4⟩ | ⟨rfl, c, G3, h3, h4⟩
   ·exact .inl ⟨rfl, G3, h3, h4⟩
   ·exact .inr ⟨rfl, c, G3, h3, h4⟩

/-- A loop over an iterator, in a function's activation: I: what holds between the rounds; S: what holds where a round jumps out. -/
theorem EV.over {L : List α} {El : α → Value → PHeap → Prop} (hro : C.b.roundOf = none) (hfv : ev ρ f = some fv) (hfn : fn? fv = some (g, first, caps)) (hit : Iter P g first caps M L El)
  (I : Nat → List α → PHeap → Own → Prop) (S : Nat → Code → PHeap → Own → Prop) {t : Nat}
  (hmono : ∀ d xs M2 M3 G2, M2.le M3 → I d xs M2 G2 → I d xs M3 G2)
  (hI : ∀ d, I d [] M ((d, Obj.deferred (some [])) :: G))
  (hbody : ∀ l d (r : Loop), r.state = .ready → r.pending = none → ∀ xs x v M2 G2 w0 F, x ∈ L → M.le M2 → I d xs M2 G2 → El x v M2 →
   EV (Cx.rnd P l r C.b.fn C.nt w0 F M2 (I d (xs ++ [x])) (S d)) V [.code asn, .begins, .code bd] ((t, v) :: ρ) M2 ((l, Obj.loop r) :: G2))
  (hend : ∀ d M' G', M.le M' → I d L M' G' → EV (C.marks [d]) V k ρ M' G')
  (hjump : ∀ d c M' G', M.le M' → S d c M' G' → AfterW (C.marks [d]) V k ρ c M' G') :
  EV C V (.code (.rangeF f [t] asn bd) :: k) ρ M G := by
 refine EV.rangeF hro hfv hfn fun l d r hr h1 h2 => ?_
 refine Con.callA (G2 := []) (iter_rounds hit (I d) (S d) hr (hmono d) (fun xs x v M2 G2 w0 F => hbody l d r h1 h2 xs x v M2 G2 w0 F) (hI d)) (by simp) ?_
 rintro v M' G' hM' (⟨G1, hp, h3⟩ | ⟨c, G1, hp, h3⟩)
 ·refine ⟨r, G1, by simpa using hp, by rw [h1]; simp, ?_⟩
  rw [h2]; exact hend d M' G1 hM' h3
 ·refine ⟨_, G1, by simpa using hp, by simp, ?_⟩
  have := hjump d c M' G1 hM' h3
  cases c <;> first | exact this | exact this.elim

/-- The same within a round. -/
theorem EV.overI {L : List α} {El : α → Value → PHeap → Prop} {l0 : Nat} {r0 : Loop} (hro : C.b.roundOf = some l0) (hl0 : (l0, Obj.loop r0) ∈ G) (hfv : ev ρ f = some fv) (hfn : fn? fv = some (g, first, caps)) (hit : Iter P g first caps M L El)
  (I : List α → PHeap → Own → Prop) (S : Code → PHeap → Own → Prop) {t : Nat}
  (hmono : ∀ xs M2 M3 G2, M2.le M3 → I xs M2 G2 → I xs M3 G2)
  (hI : I [] M G)
  (hbody : ∀ l (r : Loop), r.state = .ready → r.pending = none → ∀ xs x v M2 G2 w0 F, x ∈ L → M.le M2 → I xs M2 G2 → El x v M2 →
   EV (Cx.rnd P l r C.b.fn C.nt w0 F M2 (I (xs ++ [x])) S) V [.code asn, .begins, .code bd] ((t, v) :: ρ) M2 ((l, Obj.loop r) :: G2))
  (hend : ∀ M' G', M.le M' → I L M' G' → EV C V k ρ M' G')
  (hjump : ∀ c M' G', M.le M' → S c M' G' → AfterW C V k ρ c M' G') :
  EV C V (.code (.rangeF f [t] asn bd) :: k) ρ M G := by
 refine EV.rangeI hro hl0 hfv hfn fun l r hr h1 h2 => ?_
 refine Con.callA (G2 := []) (iter_rounds hit I S hr hmono (fun xs x v M2 G2 w0 F => hbody l r h1 h2 xs x v M2 G2 w0 F) hI) (by simp) ?_
 rintro v M' G' hM' (⟨G1, hp, h3⟩ | ⟨c, G1, hp, h3⟩)
 ·refine ⟨r, G1, by simpa using hp, by rw [h1]; simp, ?_⟩
  rw [h2]; exact hend M' G1 hM' h3
 ·refine ⟨_, G1, by simpa using hp, by simp, ?_⟩
  have := hjump c M' G1 hM' h3
  cases c <;> first | exact this | exact this.elim
end

/-- A loop, from whatever state has what its head asks. -/
theorem EV.loopTo {C : Cx P} {V : List Nat} {k : List RItem} {ρ : Env} {M : PHeap} {G : Own} {c : RCode} {α : Type} (st : α → Env × PHeap × Own) (I : α → Prop) (μ : α → Nat) (x : α) (hM : (st x).2.1 = M) (hI : I x)
  (hρ : ∀ p ∈ (st x).1, get ρ p.1 = some p.2) (hG : (st x).2.2.Sublist G)
  (body : ∀ x, I x → (∀ x', I x' → μ x' < μ x → EV C V (.inLoop c :: k) (st x').1 (st x').2.1 (st x').2.2) → EV C V (.code c :: .inLoop c :: k) (st x).1 (st x).2.1 (st x).2.2) :
  EV C V (.code (.loop c) :: k) ρ M G := by
 subst hM
 exact EV.to (EV.loop st I μ x hI body) hρ hG

end Go.EV

namespace Go.EV
variable {P : Program}

theorem rd.pt {H : PHeap} {b off n : Nat} {cs out : List Value} (h : rd H b off n cs) (i k : Nat) (hm : i + k ≤ n) (e : (cs.drop i).take k = out) : rd H b (off + i) k out := e ▸ h.part hm

theorem row_part {α : Type} (f : α → Value) : ∀ (l : List α) {i : Nat} (h : i < l.length), ((l.map f).drop i).take 1 = [f l[i]]
 | x :: l, 0, _ => by simp
 | x :: l, i + 1, h => by
  have := row_part f l (i := i) (by simpa using h)
  simpa using this

section
variable {C : Cx P} {f : FuncId} {args : Array Value} {V : List Nat} {c : RItem} {k : List RItem} {ρ : Env} {M : PHeap} {G G2 G3 : Own} {K : Value → PHeap → Own → Prop}

theorem CallW.frz (hG : G.Perm (G2 ++ G3)) (h : CallW C f args (M.add G2) G3 K) : CallW C f args M G K :=
 ⟨h.1, fun w hs cs => h.2 w (hs.perm hG).freeze cs⟩

/-- What many roads lead to is walked on once. -/
theorem EV.thru (Φ : Env → PHeap → Own → Prop) (h1 : ∀ k', (∀ ρ' M' G', Φ ρ' M' G' → EV C V k' ρ' M' G') → EV C V (c :: k') ρ M G) (h2 : ∀ ρ' M' G', Φ ρ' M' G' → EV C V k ρ' M' G') : EV C V (c :: k) ρ M G := h1 k h2
end

/-- An owned row: one of its cells. -/
theorem rowAt {α : Type} {M : PHeap} {G : Own} {b : Nat} {T : TypeId} {f : α → Value} {xs : List α} {i : Nat} (hi : i < xs.length) [h : At G b T (xs.map f)] : rd (M.add G) b i 1 [f xs[i]] :=
 rd_at h.mem (row_part f xs hi) (by rw [List.length_map]; omega)

/-- An owned row with more behind it: one of its cells. -/
theorem rowAt2 {α : Type} {M : PHeap} {G : Own} {b : Nat} {T : TypeId} {f : α → Value} {xs : List α} {sp : List Value} {i : Nat} (hi : i < xs.length) [h : At G b T (xs.map f ++ sp)] : rd (M.add G) b i 1 [f xs[i]] := by
 refine rd_at h.mem ?_ (by rw [List.length_append, List.length_map]; omega)
 rw [List.drop_append_of_le_length (by rw [List.length_map]; omega), List.take_append_of_le_length (by rw [List.length_drop, List.length_map]; omega), row_part f xs hi]

/-- A row, one cell written. -/
theorem row_st {α : Type} (f : α → Value) (xs : List α) {i : Nat} (hi : i < xs.length) (x : α) : (xs.map f).take i ++ (f x :: (xs.map f).drop (i + 1)) = (xs.set i x).map f := by
 rw [List.map_set, List.set_eq_take_append_cons_drop, if_pos (by rw [List.length_map]; exact hi)]

abbrev vrow (b n c : Nat) : Value := .slice (some ⟨b, 0, none⟩) n c

/-! ### Owned blocks, found by search -/

/-- One block taken out. -/
class Pull (G : Own) (x : Nat × Obj) (R : outParam Own) : Prop where
 p : G.Perm (x :: R)
instance Pull.here {x : Nat × Obj} {G : Own} : Pull (x :: G) x G := ⟨List.Perm.refl _⟩
instance (priority := low) Pull.there {x y : Nat × Obj} {G R : Own} [h : Pull G x R] : Pull (y :: G) x (y :: R) := ⟨(List.Perm.cons y h.p).trans (List.Perm.swap x y R)⟩
instance (priority := low) Pull.app {x : Nat × Obj} {A G R : Own} [h : Pull G x R] : Pull (A ++ G) x (A ++ R) := ⟨(List.Perm.append_left A h.p).trans List.perm_middle⟩

/-- A piece taken out. -/
class PullL (G : Own) (A : Own) (R : outParam Own) : Prop where
 p : G.Perm (A ++ R)
instance PullL.here {A G : Own} : PullL (A ++ G) A G := ⟨List.Perm.refl _⟩
instance (priority := 900) PullL.all {A : Own} : PullL A A [] := ⟨by simp⟩
instance (priority := low) PullL.cons {A G R : Own} {y : Nat × Obj} [h : PullL G A R] : PullL (y :: G) A (y :: R) := ⟨(List.Perm.cons y h.p).trans List.perm_middle.symm⟩
instance (priority := low) PullL.app {A B G R : Own} [h : PullL G A R] : PullL (B ++ G) A (B ++ R) := ⟨(List.Perm.append_left B h.p).trans (by rw [← List.append_assoc, ← List.append_assoc]; exact List.Perm.append_right _ List.perm_append_comm)⟩

/-- Some blocks taken out, the rest told. -/
class SubS (G G' : Own) (R : outParam Own) : Prop where
 p : G.Perm (G' ++ R)
instance SubS.nil {G : Own} : SubS G [] G := ⟨List.Perm.refl _⟩
instance SubS.cons {G G1 t R : Own} {x : Nat × Obj} [h1 : Pull G x G1] [h2 : SubS G1 t R] : SubS G (x :: t) R := ⟨h1.p.trans (List.Perm.cons x h2.p)⟩
instance (priority := low) SubS.app {G G1 A t R : Own} [h1 : PullL G A G1] [h2 : SubS G1 t R] : SubS G (A ++ t) R := ⟨h1.p.trans ((List.Perm.append_left A h2.p).trans (by simp))⟩
instance (priority := low) SubS.last {G G1 A : Own} [h1 : PullL G A G1] : SubS G A G1 := ⟨h1.p⟩

section
variable {C : Cx P} {f : FuncId} {args : Array Value} {V : List Nat} {k : List RItem} {ρ ρ' : Env} {M : PHeap} {G G' R : Own} {K : Value → PHeap → Own → Prop} {Φ : Value → PHeap → Own → Prop}

/-- To a smaller state, the blocks in another order. -/
theorem EV.toS (h : EV C V k ρ' M G') (hρ : ∀ p ∈ ρ', get ρ p.1 = some p.2) [hG : SubS G G' R] : EV C V k ρ M G :=
 EV.permG (EV.to h hρ (List.sublist_append_left _ _)) hG.p

theorem EV.reS (h : EV C V k ρ M G') [hG : SubS G G' R] : EV C V k ρ M G :=
 EV.permG (EV.weaken h (fun _ _ h => h) (List.sublist_append_left _ _)) hG.p

/-- Blocks that are only read from now on. -/
theorem EV.frz (G' : Own) [hG : SubS G G' R] (h : EV C V k ρ (M.add G') R) : EV C V k ρ M G :=
 EV.permG (EV.freeze h) hG.p

theorem CallW.frzS (G' : Own) [hG : SubS G G' R] (h : CallW C f args (M.add G') R K) : CallW C f args M G K := CallW.frz hG.p h

/-- A call that takes some blocks. -/
theorem Con.callS {G1 : Own} (h : Con P f args M G1 Φ) [hG : SubS G G1 R] (hk : ∀ v M' G', M.le M' → Φ v M' G' → K v M' (G' ++ R)) : CallW C f args M G K :=
 ⟨h.1, fun w hs cs => by
  have hs' := hs.perm hG.p
  obtain ⟨e, w', fr, ⟨v, he, M', G', h1, h2⟩, r⟩ := h.2 w (hs'.part (PHeap.le_add _ _)) cs
  exact ⟨e, w', fr, ⟨v, he, M', G' ++ R, hs'.callA h1, hk v M' G' h1.base h2⟩, r⟩⟩

/-- A call that takes some blocks and reads the others; what it leaves to be read is forgotten. -/
theorem Con.callK {G1 : Own} {Mr : PHeap} (h : Con P f args Mr G1 Φ) [hG : SubS G G1 R] (hMr : Mr.le (M.add R)) (hk : ∀ v M' G', Φ v M' G' → K v M (G' ++ R)) : CallW C f args M G K :=
 ⟨h.1, fun w hs cs => by
  have hs' := hs.perm hG.p
  obtain ⟨e, w', fr, ⟨v, he, M', G', h1, h2⟩, r⟩ := h.2 w (hs'.part hMr) cs
  exact ⟨e, w', fr, ⟨v, he, M, G' ++ R, hs'.callB h1, hk v M' G' h2⟩, r⟩⟩

end

section
variable {C : Cx P} {f : FuncId} {l : Nat} {args : Array Value} {V : List Nat} {k : List RItem} {ρ : Env} {M : PHeap} {G G1 R : Own} {K : Value → PHeap → Own → Prop} {Φ : Value → PHeap → Own → Prop}

/-- All but some blocks are only read from now on. -/
theorem CallW.keep (G1 : Own) [h : PullL G G1 R] (k : CallW C f args (M.add R) G1 K) : CallW C f args M G K := CallW.frz (h.p.trans List.perm_append_comm) k
theorem EV.keep (G1 : Own) [h : PullL G G1 R] (h' : EV C V k ρ (M.add R) G1) : EV C V k ρ M G := EV.permG (EV.freeze h') (h.p.trans List.perm_append_comm)
theorem EV.keepS (G1 : Own) [h : SubS G G1 R] (h' : EV C V k ρ (M.add R) G1) : EV C V k ρ M G := EV.permG (EV.freeze h') (h.p.trans List.perm_append_comm)
theorem YieldW.keep (G1 : Own) [h : PullL G G1 R] (k : YieldW C l args (M.add R) G1 K) : YieldW C l args M G K :=
 fun w hs => k w (hs.perm (h.p.trans List.perm_append_comm)).freeze

/-- A round of the loop that yield belongs to, all owned blocks handed to it. -/
theorem YCon.run (h : YCon P l args M G Φ) (hk : ∀ v M' G', M.le M' → Φ v M' G' → K v M' G') : YieldW C l args M G K := by
 refine h.callA (G2 := []) (by simp) fun v M' G' hM hv => ?_
 rw [List.nil_append]; exact hk v M' G' hM hv
theorem YieldW.frzS (G1 : Own) [h : SubS G G1 R] (k : YieldW C l args (M.add G1) R K) : YieldW C l args M G K := fun w hs => k w (hs.perm h.p).freeze
theorem YCon.callS (h : YCon P l args M G1 Φ) [hG : SubS G G1 R] (hk : ∀ v M' G', M.le M' → Φ v M' G' → K v M' (R ++ G')) : YieldW C l args M G K := h.callA hG.p hk
theorem Con.run (h : Con P f args M G Φ) (hk : ∀ v M' G', M.le M' → Φ v M' G' → K v M' G') : CallW C f args M G K := by
 refine h.callA (G2 := []) (by simp) fun v M' G' hM hv => ?_
 rw [List.nil_append]; exact hk v M' G' hM hv
end

/-- A call that reads what is owned and makes something new. -/
theorem Con.callN {C : Cx P} {f : FuncId} {args : Array Value} {M : PHeap} {G : Own} {K : Value → PHeap → Own → Prop} {Φ : Value → PHeap → Own → Prop} (h : Con P f args (M.add G) [] Φ) (hk : ∀ v M' G', Φ v M' G' → K v M (G ++ G')) : CallW C f args M G K :=
 Con.callB (G1 := []) h (PHeap.le_refl _) (List.Perm.refl _) hk

/-! ### A region that draws its order, step by step -/
section
variable {C : Cx P} {ρ : Env} {Mk M : PHeap} {Gk G : Own} {K : Env → PHeap → Own → Prop} {KQ : Env → Prop}
theorem wA_fin {t : AT} (e : t = .fin) (h : K ρ M G) : wpA C t ρ Mk Gk M G K := by subst e; exact h
theorem wA_no {t : AT} (e : t = .no) : wpA C t ρ Mk Gk M G K := by subst e; trivial
theorem wA_q {t rest : AT} {l : QL} (e : t = .q l rest) (h : ∀ l' t', l' = l → t' = rest → wpQL C l' ρ Mk Gk fun ρ' => wpA C t' ρ' Mk Gk M G K) : wpA C t ρ Mk Gk M G K := by subst e; exact h _ _ rfl rfl
theorem wA_s {t0 : AT} {i : Nat} {d : Option Nat} {r : ROp} {t more : AT} (e : t0 = .s i d r false t more) (h : ∀ t', t' = t → opW C ρ M G (fun v M' G' => M.le M' ∧ (∀ p ∈ Gk, p ∈ G') ∧ wpA C t' (putE d v ρ) Mk Gk M' G' K) r) (h2 : ∀ t', t' = more → wpA C t' ρ Mk Gk M G K) : wpA C t0 ρ Mk Gk M G K := by
 subst e; simp only [wpA, Bool.false_eq_true, if_false]; exact ⟨h _ rfl, h2 _ rfl⟩
theorem wA_sT {t0 : AT} {i : Nat} {d : Option Nat} {r : ROp} {t more : AT} (e : t0 = .s i d r true t more) (h : ∀ t', t' = t → opW C ρ M G (fun v M' G' => wpA C t' (putE d v ρ) M' G' M' G' K) r) (h2 : ∀ t', t' = more → wpA C t' ρ Mk Gk M G K) : wpA C t0 ρ Mk Gk M G K := by
 subst e; simp only [wpA, if_true]; exact ⟨h _ rfl, h2 _ rfl⟩
theorem wA_br {t0 : AT} {s : Nat} {yes nay : AT} {c : Bool} (e : t0 = .br s yes nay) (hc : get ρ s = some (.bool c)) (h1 : ∀ t', t' = yes → c = true → wpA C t' ρ Mk Gk M G K) (h2 : ∀ t', t' = nay → c = false → wpA C t' ρ Mk Gk M G K) : wpA C t0 ρ Mk Gk M G K := by
 subst e; simp only [wpA, hc, onv_some, bool?]; exact ⟨h1 _ rfl, h2 _ rfl⟩
theorem wA_sk {t0 : AT} {i : Nat} {d : Option Nat} {rest : AT} (e : t0 = .sk i d rest) (h : ∀ t', t' = rest → wpA C t' ρ Mk Gk M G K) : wpA C t0 ρ Mk Gk M G K := by subst e; exact h rest rfl
theorem wQ_nil {l : QL} (e : l = .nil) (h : KQ ρ) : wpQL C l ρ M G KQ := by subst e; exact h
theorem wQ_op {l : QL} {i : Nat} {d : Option Nat} {r : ROp} {rest : QL} (e : l = .op i d r rest) (h : ∀ l', l' = rest → qW C ρ M G (fun v => wpQL C l' (putE d v ρ) M G KQ) r) : wpQL C l ρ M G KQ := by subst e; exact h _ rfl
theorem wQ_g {l : QL} {s : Nat} {want : Bool} {body : QL} {m d : Nat} {last : A} {rest : QL} {c : Bool} (e0 : l = .g s want body m d last rest) (hc : get ρ s = some (.bool c)) (e : Bool)
  (h1 : ∀ l', l' = body → c = want → wpQL C l' ρ M G fun ρ' => onv (ev ρ' last) fun u => onv (bool? u) fun e' => e' = e) (h2 : ∀ l', l' = rest → wpQL C l' ((d, .bool (if want then c && e else c || e)) :: ρ) M G KQ) : wpQL C l ρ M G KQ := by
 subst e0; simp only [wpQL, hc, onv_some, bool?]; exact ⟨e, h1 _ rfl, h2 _ rfl⟩
end

/-- What stands behind a place of a row. -/
theorem sl_from {wb wo n c i : Nat} (h2 : n ≤ c) : ∃ ro, (i < n → ro = wo + i) ∧ (if c = i then some (⟨wb, wo, none⟩ : Addr) else some ((⟨wb, wo, none⟩ : Addr).add i)) = some ⟨wb, ro, none⟩ := by
 by_cases h : c = i
 ·exact ⟨wo, fun h3 => by omega, by rw [if_pos h]⟩
 ·refine ⟨wo + i, fun _ => rfl, ?_⟩
  rw [if_neg h]
  simp only [Addr.add]
  split
  ·rename_i h0; rw [h0]; rfl
  ·rfl

theorem sl_to {a : Addr} {c : Nat} : (if c = 0 then some a else some (a.add 0)) = some a := by
 split
 ·rfl
 ·simp [Addr.add]

theorem rdS.pre {H : PHeap} {a : Option Addr} {n i : Nat} {cs : List Value} (h : rdS H 1 a n cs) (hi : i ≤ n) : rdS H 1 a i (cs.take i) := by
 rcases h with ⟨h0, rfl⟩ | ⟨b, off, e, h⟩
 ·exact .inl ⟨by omega, by simp⟩
 ·refine .inr ⟨b, off, e, ?_⟩
  have := h.part (i := 0) (m := i * 1) (by omega)
  rw [List.drop_zero, Nat.add_zero] at this
  rwa [Nat.mul_one] at this ⊢

theorem rd.suf {H : PHeap} {b off n i : Nat} {cs : List Value} (h : rd H b off n cs) (hi : i ≤ n) : rd H b (off + i) (n - i) (cs.drop i) := by
 have := h.part (i := i) (m := n - i) (by omega)
 have hl := h.length
 rwa [List.take_of_length_le (by rw [List.length_drop]; omega)] at this

/-- A row that has no less room than length. -/
def SlC {α : Type} (H : PHeap) (sz : Nat) (enc : α → List Value) (v : Value) (xs : List α) : Prop :=
 ∃ a c, v = .slice a xs.length c ∧ xs.length ≤ c ∧ rdS H sz a xs.length (xs.flatMap enc)
theorem SlC.sl {α : Type} {H : PHeap} {sz : Nat} {enc : α → List Value} {v : Value} {xs : List α} (h : SlC H sz enc v xs) : Sl H sz enc v xs :=
 let ⟨a, c, e, _, h⟩ := h; ⟨a, c, e, h⟩
theorem SlC.mono {α : Type} {H H' : PHeap} (hh : H.le H') {sz : Nat} {enc : α → List Value} {v : Value} {xs : List α} (h : SlC H sz enc v xs) : SlC H' sz enc v xs :=
 let ⟨a, c, e, hc, h⟩ := h; ⟨a, c, e, hc, h.mono hh⟩

/-- A row of such rows. -/
def SlSlC {α : Type} (H : PHeap) (sz : Nat) (enc : α → List Value) (v : Value) (xss : List (List α)) : Prop :=
 ∃ a c vs, v = .slice a xss.length c ∧ vs.length = xss.length ∧ rdS H 1 a xss.length vs ∧ ∀ i (h : i < vs.length) (h' : i < xss.length), SlC H sz enc vs[i] xss[i]
theorem SlSlC.mono {α : Type} {H H' : PHeap} (hh : H.le H') {sz : Nat} {enc : α → List Value} {v : Value} {xss : List (List α)} (h : SlSlC H sz enc v xss) : SlSlC H' sz enc v xss :=
 let ⟨a, c, vs, e, hl, h, k⟩ := h; ⟨a, c, vs, e, hl, h.mono hh, fun i h h' => (k i h h').mono hh⟩
theorem SlSlC.sl {α : Type} {H : PHeap} {sz : Nat} {enc : α → List Value} {v : Value} {xss : List (List α)} (h : SlSlC H sz enc v xss) : SlSl H sz enc v xss :=
 let ⟨a, c, vs, e, hl, h, k⟩ := h; ⟨a, c, vs, e, hl, h, fun i h h' => (k i h h').sl⟩

theorem SlSlC.at {α : Type} {H : PHeap} {sz : Nat} {enc : α → List Value} {a : Option Addr} {vs : List Value} {xss : List (List α)} (h : rdS H 1 a xss.length vs) (hl : vs.length = xss.length) (hk : ∀ i (h : i < vs.length) (h' : i < xss.length), SlC H sz enc vs[i] xss[i]) (hn : 0 < xss.length) :
  ∃ b off, a = some ⟨b, off, none⟩ ∧ ∀ i (hi : i < xss.length), ∃ a' c', rd H b (off + i * 1) 1 [.slice a' xss[i].length c'] ∧ xss[i].length ≤ c' ∧ rdS H sz a' xss[i].length (xss[i].flatMap enc) := by
 have h1 : rdS H 1 a vs.length (vs.flatMap fun v => [v]) := by rw [flatMap_single, hl]; exact h
 obtain ⟨b, off, e, hr⟩ := Sl.at (sz := 1) (enc := fun v => [v]) (fun _ => rfl) (by omega) h1 (by omega)
 refine ⟨b, off, e, fun i hi => ?_⟩
 have hr' := hr i (by omega)
 obtain ⟨a', c', e', hc', h'⟩ := hk i (by omega) hi
 rw [e'] at hr'
 exact ⟨a', c', hr', hc', h'⟩

end Go.EV

namespace Go.EV
open Go.Proofs

/-- An event. -/
structure Ev where
 op : OpV
 th : Int
 deriving DecidableEq

abbrev encEv (e : Ev) : List Value := [vi e.op.kind, vi e.op.loc, vi e.op.v, vi e.op.w, vi e.op.ord, vi e.th]
abbrev vev (e : Ev) : Value := .agg #[vi e.op.kind, vi e.op.loc, vi e.op.v, vi e.op.w, vi e.op.ord, vi e.th]

def Ev.reads (e : Ev) : Bool := decide (e.op.kind ≠ 1) && decide (e.op.kind ≠ 5)
def Ev.strong (e : Ev) : Bool := decide (e.op.kind = 5) && decide (e.op.ord = 4)
def Ev.acq (e : Ev) : Bool := acqP e.op.ord
def Ev.rel (e : Ev) : Bool := relP e.op.ord
instance : Inhabited Ev := ⟨⟨⟨0, 0, 0, 0, 0⟩, 0⟩⟩

/-- The events of threads, numbered from one on. -/
def evsGo : Nat → List (List OpV) → List Ev
 | _, [] => []
 | n, t :: ts => t.map (fun o => ⟨o, n⟩) ++ evsGo (n + 1) ts
def evsOf (ts : List (List OpV)) : List Ev := evsGo 0 (ts.map expT)

theorem evsGo_append : ∀ (l1 : List (List OpV)) (n : Nat) (l2 : List (List OpV)), evsGo n (l1 ++ l2) = evsGo n l1 ++ evsGo (n + l1.length) l2
 | [], n, l2 => by simp [evsGo]
 | t :: l1, n, l2 => by simp [evsGo, evsGo_append l1, Nat.add_assoc, Nat.add_comm 1]

theorem evsGo_take {l : List (List OpV)} {i : Nat} (hi : i < l.length) : evsGo 0 (l.take (i + 1)) = evsGo 0 (l.take i) ++ l[i].map (fun o => ⟨o, (i : Int)⟩) := by
 rw [List.take_succ_eq_append_getElem hi, evsGo_append]
 have : (l.take i).length = i := by simp; omega
 simp [evsGo, this]

theorem evsGo_len : ∀ (l : List (List OpV)) (n : Nat), (evsGo n l).length = l.flatten.length
 | [], n => rfl
 | t :: l, n => by simp [evsGo, evsGo_len l]

/-- The events of the first i threads, and of the next one's first j operations. -/
def evPart (q : List (List OpV)) (i j : Nat) : List Ev := evsGo 0 (q.take i) ++ ((q[i]?.getD []).take j).map (fun o => ⟨o, (i : Int)⟩)
theorem evPart_zero (q : List (List OpV)) (i : Nat) : evPart q i 0 = evsGo 0 (q.take i) := by simp [evPart]
theorem evPart_succ {q : List (List OpV)} {i j : Nat} (hi : i < q.length) (hj : j < q[i].length) : evPart q i (j + 1) = evPart q i j ++ [⟨q[i][j], i⟩] := by
 simp only [evPart, List.getElem?_eq_getElem hi, Option.getD_some]
 rw [List.take_succ_eq_append_getElem hj, List.map_append, List.append_assoc]; rfl
theorem evPart_all {q : List (List OpV)} {i : Nat} (hi : i < q.length) : evPart q i q[i].length = evsGo 0 (q.take (i + 1)) := by
 simp only [evPart, List.getElem?_eq_getElem hi, Option.getD_some]
 rw [List.take_length, evsGo_take hi]
theorem evPart_len {q : List (List OpV)} {i : Nat} (hi : i < q.length) (j : Nat) : (evPart q i j).length ≤ q.flatten.length := by
 have h : (evsGo 0 (q.take (i + 1))).length ≤ q.flatten.length := by rw [evsGo_len]; exact flat_take_le q (i + 1)
 rw [← evPart_all hi] at h
 simp only [evPart, List.getElem?_eq_getElem hi, Option.getD_some, List.length_append, List.length_map, List.length_take] at h ⊢
 omega
theorem evPart_len0 {q : List (List OpV)} {i : Nat} (hi : i < q.length) : q[i].length ≤ q.flatten.length := by
 have h := evPart_len hi q[i].length
 simp only [evPart, List.getElem?_eq_getElem hi, Option.getD_some, List.length_append, List.length_map, List.length_take] at h
 omega

section
variable {M : PHeap}

theorem ax_reads_q (e : Ev) : ConQ Tryz.prog 86 #[vev e] M (vb e.reads) := by
 refine Con.enter Q4_ok (args := [vev e]) (by simp [Q4]) fun w0 => ?_
 simp only [Q4, argE]
 repeat' first
   | refine EV.seq ?_
   | (refine EV.reg ?_; (conv => (arg 2; whnf)); (refine nx ?_; try with_reducible exact ⟨⟩))
   | with_reducible assumption
   | (refine condW.merge ?_ (fun hc K' hK => ?_) ?_; rotate_left)
   | (refine EV.ret Q4_ok ?_; simp only [wpS, wpA, wpQL, push_cast, Int.cast_ofNat_Int, reduceIte, Nat.reduceEqDiff, reduceCtorEq, Nat.reduceAdd, Nat.reduceSub, Nat.reduceMul, Int.reduceToNat, Nat.reduceLeDiff, Q4])
   | ((first | with_reducible intro b | refine xiA rfl ?_ | fail); try (refine nx ?_; try with_reducible exact ⟨⟩))
   | fail
 all_goals simp_all [Ev.reads]

theorem ax_strong_q (e : Ev) : ConQ Tryz.prog 76 #[vev e] M (vb e.strong) := by
 refine Con.enter Q6_ok (args := [vev e]) (by simp [Q6]) fun w0 => ?_
 simp only [Q6, argE]
 repeat' first
   | refine EV.seq ?_
   | (refine EV.reg ?_; (conv => (arg 2; whnf)); (refine nx ?_; try with_reducible exact ⟨⟩))
   | with_reducible assumption
   | (refine condW.merge ?_ (fun hc K' hK => ?_) ?_; rotate_left)
   | (refine EV.ret Q6_ok ?_; simp only [wpS, wpA, wpQL, push_cast, Int.cast_ofNat_Int, reduceIte, Nat.reduceEqDiff, reduceCtorEq, Nat.reduceAdd, Nat.reduceSub, Nat.reduceMul, Int.reduceToNat, Nat.reduceLeDiff, Q6])
   | ((first | with_reducible intro b | refine xiA rfl ?_ | fail); try (refine nx ?_; try with_reducible exact ⟨⟩))
   | fail
 all_goals simp_all [Ev.strong]

theorem ax_acq_q (e : Ev) (h : isOrderP e.op.ord = true) : ConQ Tryz.prog 138 #[vev e] M (vb e.acq) := by
 refine Con.enter Q3_ok (args := [vev e]) (by simp [Q3]) fun w0 => ?_
 simp only [Q3, argE]
 repeat' first
   | refine EV.seq ?_
   | (refine EV.reg ?_; (conv => (arg 2; whnf)); (refine nx ?_; try with_reducible exact ⟨⟩))
   | (refine ConQ.call (order_Acquires_q _ h) ?_; try (refine nx ?_; try with_reducible exact ⟨⟩))
   | (refine EV.ret Q3_ok ?_; simp only [wpS, wpA, wpQL, push_cast, Int.cast_ofNat_Int, reduceIte, Nat.reduceEqDiff, reduceCtorEq, Nat.reduceAdd, Nat.reduceSub, Nat.reduceMul, Int.reduceToNat, Nat.reduceLeDiff, Q3])
   | ((first | with_reducible intro b | refine xiA rfl ?_ | fail); try (refine nx ?_; try with_reducible exact ⟨⟩))
   | fail
 all_goals rfl

theorem ax_rel_q (e : Ev) (h : isOrderP e.op.ord = true) : ConQ Tryz.prog 137 #[vev e] M (vb e.rel) := by
 refine Con.enter Q5_ok (args := [vev e]) (by simp [Q5]) fun w0 => ?_
 simp only [Q5, argE]
 repeat' first
   | refine EV.seq ?_
   | (refine EV.reg ?_; (conv => (arg 2; whnf)); (refine nx ?_; try with_reducible exact ⟨⟩))
   | (refine ConQ.call (order_Releases_q _ h) ?_; try (refine nx ?_; try with_reducible exact ⟨⟩))
   | (refine EV.ret Q5_ok ?_; simp only [wpS, wpA, wpQL, push_cast, Int.cast_ofNat_Int, reduceIte, Nat.reduceEqDiff, reduceCtorEq, Nat.reduceAdd, Nat.reduceSub, Nat.reduceMul, Int.reduceToNat, Nat.reduceLeDiff, Q5])
   | ((first | with_reducible intro b | refine xiA rfl ?_ | fail); try (refine nx ?_; try with_reducible exact ⟨⟩))
   | fail
 all_goals rfl

theorem ax_of_c (ts : List (List OpV)) (s : Value) (hs : SlSl M 5 encOp s ts) (hb : Sized ts) :
  Con Tryz.prog 33 #[.agg #[s]] M [] fun v M' G' => G' = [] ∧ ((checkP ts ≠ 0 ∧ v = .tuple #[.slice none 0 0, vi (checkP ts)]) ∨ (checkP ts = 0 ∧ ∃ s', v = .tuple #[s', vi 0] ∧ Sl M' 6 encEv s' (evsOf ts))) := by
 have hs0 := hs
 obtain ⟨a, c, vs, rfl, hl, hrd, hk⟩ := hs
 refine Con.enter Q7_ok (args := [.agg #[.slice a ts.length c]]) (by simp [Q7]) fun w0 => ?_
 simp only [Q7, argE]
 repeat' first
   | refine EV.seq ?_
   | (refine EV.reg ?_; (conv => (arg 2; whnf)); (refine nx ?_; try with_reducible exact ⟨⟩))
   | ((first | with_reducible intro b | refine xrA rfl ?_ | fail); try (refine nx ?_; try with_reducible exact ⟨⟩))
   | fail
 refine Con.callA (G1 := []) (litmus_Expand_c ts _ hs0 hb) (List.Perm.refl _) ?_
 rintro v M1 G1 hM1 (⟨hne, rfl⟩ | ⟨hck, s', rfl, hs1⟩)
 ·simp only [wpS, wpA, wpQL, push_cast, Int.cast_ofNat_Int, reduceIte, Nat.reduceEqDiff, reduceCtorEq, Nat.reduceAdd, Nat.reduceSub, Nat.reduceMul, Int.reduceToNat, Nat.reduceLeDiff]
  repeat' first
    | refine EV.seq ?_
    | (refine EV.reg ?_; (conv => (arg 2; whnf)); (refine nx ?_; try with_reducible exact ⟨⟩))
    | (refine EV.condX rfl (fun h => ?_) (fun h => ?_) <;> try exact dead h)
    | (with_reducible intro b; try (refine nx ?_; try with_reducible exact ⟨⟩))
    | (refine xw ?_; (refine nx ?_; try with_reducible exact ⟨⟩))
    | fail
  refine EV.to (ρ' := [(2, .slice none 0 0), (3, vi (checkP ts))]) (G' := []) ?_ ?env0 (List.nil_sublist _)
  case env0 =>
   repeat' first
    | (refine List.forall_mem_cons.2 (And.intro ?_ ?_))
    | (intro _ hnil; cases hnil; done)
    | rfl
    | fail
  refine EV.ret Q7_ok ?_
  simp only [wpS, wpA, wpQL, push_cast, Int.cast_ofNat_Int, reduceIte, Nat.reduceEqDiff, reduceCtorEq, Nat.reduceAdd, Nat.reduceSub, Nat.reduceMul, Int.reduceToNat, Nat.reduceLeDiff, Q7]
  exact .inl hne
 ·have hsm := checkP_small hck
  have hs2 := hs1
  obtain ⟨a1, c1, vs1, rfl, hl1, hrd1, hk1⟩ := hs2
  generalize hq : ts.map expT = q at *
  have hqf : q.flatten.length ≤ 3 * ts.flatten.length := by
   subst hq
   clear hs0 hb hsm hl hrd hk hs1 hl1 hrd1 hk1 hck
   induction ts with
   | nil => simp
   | cons t ts ih =>
    have h1 : (expT t).length ≤ 3 * t.length := by
     clear ih
     induction t with
     | nil => simp [expT]
     | cons o t ih =>
      have := expOp_len o
      simp only [expT, List.flatMap_cons, List.length_append, List.length_cons] at ih ⊢
      omega
    simp only [List.map_cons, List.flatten_cons, List.length_append] at ih ⊢
    omega
  have hql : q.length = ts.length := by subst hq; simp
  simp only [wpS, wpA, wpQL, push_cast, Int.cast_ofNat_Int, reduceIte, Nat.reduceEqDiff, reduceCtorEq, Nat.reduceAdd, Nat.reduceSub, Nat.reduceMul, Int.reduceToNat, Nat.reduceLeDiff]
  repeat' first
    | refine EV.seq ?_
    | refine EV.skip ?_
    | refine EV.block ?_
    | (refine EV.reg ?_; (conv => (arg 2; whnf)); (refine nx ?_; try with_reducible exact ⟨⟩))
    | (refine EV.condX rfl (fun h => ?_) (fun h => ?_) <;> try exact dead h)
    | ((first | with_reducible intro b | refine xsA rfl ?_ | fail); try (refine nx ?_; try with_reducible exact ⟨⟩))
    | (refine xw ?_; (refine nx ?_; try with_reducible exact ⟨⟩))
    | fail
  refine EV.loopTo (fun x : Nat × Vec => ([(6, osv x.2 (evsGo 0 (q.take x.1)).length), (20, .slice a1 q.length c1), (21, vi q.length), (22, vi x.1)], M1, osg 121 x.2 ((evsGo 0 (q.take x.1)).flatMap encEv)))
   (fun x => x.1 ≤ q.length ∧ osok 6 x.2 (evsGo 0 (q.take x.1)).length ((evsGo 0 (q.take x.1)).flatMap encEv)) (fun x => q.length - x.1) (0, none) rfl ⟨Nat.zero_le _, rfl, rfl⟩ ?env1 (List.nil_sublist _) ?_
  case env1 =>
   repeat' first
    | (refine List.forall_mem_cons.2 (And.intro ?_ ?_))
    | (intro _ hnil; cases hnil; done)
    | rfl
    | fail
  rintro ⟨i, ov⟩ ⟨hi, hov⟩ ih
  dsimp only at hi hov ih ⊢
  repeat' first
    | refine EV.seq ?_
    | refine EV.skip ?_
    | refine EV.block ?_
    | (refine EV.reg ?_; (conv => (arg 2; whnf)); (refine nx ?_; try with_reducible exact ⟨⟩))
    | (refine EV.condX rfl (fun h => ?_) (fun h => ?_) <;> try exact dead h)
    | (refine EV.exit rfl ?_)
    | fail
  ·have hi' : i < q.length := by omega
   obtain ⟨pb, po, rfl, hat⟩ := SlSl.at hrd1 hl1 hk1 (by omega)
   obtain ⟨a', c', hr1, hr2⟩ := hat i hi'
   simp only [Nat.mul_one] at hr1
   have hlen : ∀ j, (evPart q i j).length ≤ q.flatten.length := fun j => evPart_len hi' j
   have hlen0 : q[i].length ≤ q.flatten.length := evPart_len0 hi'
   repeat' first
     | refine EV.seq ?_
     | refine EV.block ?_
     | (refine EV.reg ?_; (conv => (arg 2; whnf)); (refine nx ?_; try with_reducible exact ⟨⟩))
     | (refine And.intro (by omega) ?_)
     | (refine Exists.intro _ (Exists.intro _ (Exists.intro _ (And.intro (rd_M (by assumption)) ?_))); try (refine nx ?_; try with_reducible exact ⟨⟩))
     | fail
   refine EV.loopTo (fun x : Nat × Vec => ([(6, osv x.2 (evPart q i x.1).length), (7, vi i), (20, .slice (some ⟨pb, po, none⟩) q.length c1), (21, vi q.length), (22, vi i), (27, .slice a' q[i].length c'), (28, vi q[i].length), (29, vi x.1)], M1,
     osg 121 x.2 ((evPart q i x.1).flatMap encEv)))
    (fun x => x.1 ≤ q[i].length ∧ osok 6 x.2 (evPart q i x.1).length ((evPart q i x.1).flatMap encEv))
    (fun x => q[i].length - x.1) (0, ov) rfl ⟨Nat.zero_le _, by rw [evPart_zero]; exact hov⟩ ?env2 (by rw [evPart_zero]; exact List.Sublist.refl _) ?_
   case env2 =>
    repeat' first
     | (refine List.forall_mem_cons.2 (And.intro ?_ ?_))
     | (intro _ hnil; cases hnil; done)
     | rfl
     | (simp (disch := omega) only [get_cons, get_nil, reduceIte, Nat.reduceEqDiff, Option.some.injEq, Value.int.injEq, w64, Int.natCast_add, Int.natCast_one, Int.cast_ofNat_Int, Int.natCast_zero, evPart_zero]; done)
     | fail
   rintro ⟨j, o1⟩ ⟨hj, ho1⟩ ih2
   dsimp only at hj ho1 ih2 ⊢
   repeat' first
     | refine EV.seq ?_
     | refine EV.skip ?_
     | refine EV.block ?_
     | refine EV.inBlock ?_
     | (refine EV.reg ?_; (conv => (arg 2; whnf)); (refine nx ?_; try with_reducible exact ⟨⟩))
     | (refine EV.condX rfl (fun h => ?_) (fun h => ?_) <;> try exact dead h)
     | (refine EV.exit rfl ?_)
     | fail
   ·have hj' : j < q[i].length := by omega
    have hlj := hlen j
    obtain ⟨qb, qo, rfl, hat2⟩ := Sl.at (enc := encOp) (fun _ => rfl) (by omega) hr2 (by omega)
    have hr3 := hat2 j hj'
    repeat' first
      | (refine EV.reg ?_; (conv => (arg 2; whnf)); (refine nx ?_; try with_reducible exact ⟨⟩))
      | (with_reducible intro b; try (refine nx ?_; try with_reducible exact ⟨⟩))
      | (refine And.intro (by omega) ?_)
      | ((first | refine Exists.intro _ (And.intro (rd_M (by assumption)) ?_) | refine xrA rfl ?_ | fail); try (refine nx ?_; try with_reducible exact ⟨⟩))
      | (refine xw ?_; (refine nx ?_; try with_reducible exact ⟨⟩))
      | fail
    refine ⟨encEv ⟨q[i][j], i⟩, Or.inr ⟨b, 0, rfl, rd_own' 0 rfl rfl (by simp)⟩, by simp [ok1_cons, ok1_nil, Value.oneCell'], Or.inl ⟨o1, _, rfl, _, ho1, _, cat_pull [[_, _], osg 121 o1 _] 1 (by simp), ?_, ?_, ?_⟩⟩
    ·simp only [maxLen]; omega
    ·omega
    intro o2 ho2 _
    simp only [List.eraseIdx_cons_succ, List.eraseIdx_cons_zero, List.getElem_cons_succ, List.getElem_cons_zero, List.insertIdx_zero, List.insertIdx_succ_cons, cat_two, cat_one, cat_nil, List.nil_append, List.cons_append, List.append_assoc, List.append_nil]
    repeat' first
      | refine EV.inBlock ?_
      | (refine EV.reg ?_; (conv => (arg 2; whnf)); (refine nx ?_; try with_reducible exact ⟨⟩))
      | fail
    have e := evPart_succ hi' hj'
    have ih3 := ih2 (j + 1, o2) ⟨by dsimp only; omega, by rw [e, List.length_append, List.flatMap_append]; exact ho2⟩ (by dsimp only; omega)
    dsimp only at ih3
    rw [e, List.length_append, List.flatMap_append] at ih3
    refine EV.to ih3 ?_ (by (repeat' first | exact List.Sublist.refl _ | exact List.nil_sublist _ | exact List.sublist_append_left _ _ | refine List.Sublist.cons_cons _ ?_ | refine List.Sublist.append_left ?_ _ | refine List.sublist_append_of_sublist_right ?_ | refine List.Sublist.cons _ ?_))
    repeat' first
     | (refine List.forall_mem_cons.2 (And.intro ?_ ?_))
     | (intro _ hnil; cases hnil; done)
     | rfl
     | (refine env_w64 rfl (by first | rfl | (push_cast; first | rfl | omega)) (by omega) (by omega); done)
     | fail
   ·have hj' : j = q[i].length := by omega
    subst hj'
    rw [evPart_all hi'] at ho1 ⊢
    refine EV.to (ih (i + 1, o1) ⟨by dsimp only; omega, ho1⟩ (by dsimp only; omega)) ?_ (by (repeat' first | exact List.Sublist.refl _ | exact List.nil_sublist _ | exact List.sublist_append_left _ _ | refine List.Sublist.cons_cons _ ?_ | refine List.Sublist.append_left ?_ _ | refine List.sublist_append_of_sublist_right ?_ | refine List.Sublist.cons _ ?_))
    repeat' first
     | (refine List.forall_mem_cons.2 (And.intro ?_ ?_))
     | (intro _ hnil; cases hnil; done)
     | rfl
     | (refine env_w64 rfl (by first | rfl | (push_cast; first | rfl | omega)) (by omega) (by omega); done)
     | fail
  ·have hi2 : i = q.length := by omega
   subst hi2
   rw [List.take_length] at hov ⊢
   rw [← List.append_nil (osg _ _ _)]
   refine EV.freeze ?_
   refine EV.to (ρ' := [(2, osv ov (evsGo 0 q).length), (3, vi 0)]) (G' := []) ?_ ?env3 (List.nil_sublist _)
   case env3 =>
    repeat' first
     | (refine List.forall_mem_cons.2 (And.intro ?_ ?_))
     | (intro _ hnil; cases hnil; done)
     | rfl
     | fail
   refine EV.ret Q7_ok ?_
   simp only [wpS, wpA, wpQL, push_cast, Int.cast_ofNat_Int, reduceIte, Nat.reduceEqDiff, reduceCtorEq, Nat.reduceAdd, Nat.reduceSub, Nat.reduceMul, Int.reduceToNat, Nat.reduceLeDiff, Q7]
   subst hq
   exact .inr ⟨hck, _, rfl, _, _, rfl, rd_osg hov (fun p hp => hp)⟩

end
end Go.EV

namespace Go.EV
open Go.Proofs

abbrev ei (x : Int) : List Value := [vi x]
abbrev eb (b : Bool) : List Value := [vb b]

theorem flatMap_ei (xs : List Int) : xs.flatMap ei = xs.map vi := by induction xs <;> simp_all
theorem flatMap_eb (xs : List Bool) : xs.flatMap eb = xs.map vb := by induction xs <;> simp_all
theorem ok1_vi (xs : List Int) : ok1 (xs.map vi) := by
 intro v hv; obtain ⟨x, _, rfl⟩ := List.mem_map.1 hv; rfl
theorem ok1_vb (xs : List Bool) : ok1 (xs.map vb) := by
 intro v hv; obtain ⟨x, _, rfl⟩ := List.mem_map.1 hv; rfl

def evAt (p : List Ev) (i : Nat) : Ev := p[i]?.getD default
theorem evAt_eq {p : List Ev} {i : Nat} (h : i < p.length) : evAt p i = p[i] := by simp [evAt, h]

/-- The numbers below n that have a property. -/
def pickI (n : Nat) (f : Nat → Bool) : List Int := ((List.range n).filter f).map (fun (i : Nat) => (i : Int))

theorem pickI_succ (n : Nat) (f : Nat → Bool) : pickI (n + 1) f = pickI n f ++ if f n then [(n : Int)] else [] := by
 simp only [pickI, List.range_succ, List.filter_append, List.map_append]
 congr 1
 by_cases h : f n <;> simp [h]

theorem pickI_len (n : Nat) (f : Nat → Bool) : (pickI n f).length ≤ n := by
 simp only [pickI, List.length_map]
 exact Nat.le_trans (List.length_filter_le _ _) (by simp)

theorem mem_pickI {n : Nat} {f : Nat → Bool} {x : Int} : x ∈ pickI n f ↔ ∃ i : Nat, i < n ∧ f i = true ∧ x = i := by
 simp only [pickI, List.mem_map, List.mem_filter, List.mem_range]
 constructor
 ·rintro ⟨i, ⟨h1, h2⟩, rfl⟩; exact ⟨i, h1, h2, rfl⟩
 ·rintro ⟨i, h1, h2, rfl⟩; exact ⟨i, ⟨h1, h2⟩, rfl⟩

def writersI (p : List Ev) (dn : List Bool) (loc : Int) : List Int :=
 pickI p.length fun i => decide ((evAt p i).op.kind ≠ 5) && (dn[i]?.getD false) && decide ((evAt p i).op.loc = loc)

section
variable {M : PHeap}

/-- What hands back a new row of numbers. -/
def Ints (xs : List Int) (v : Value) (_ : PHeap) (G' : Own) : Prop := ∃ ov : Vec, v = osv ov xs.length ∧ osok 1 ov xs.length (xs.map vi) ∧ G' = osg 3 ov (xs.map vi)

theorem ax_pick_c (p : List Ev) (s : Value) (hs : Sl M 6 encEv s p) (hb : p.length < 1000000) (g : Nat) (caps : Array Value) (f : Nat → Bool)
  (hf : ∀ M', M.le M' → ∀ i : Nat, i < p.length → ConQ Tryz.prog g (#[vi i] ++ caps) M' (vb (f i))) :
  Con Tryz.prog 74 #[s, .func (.func g) #[] caps] M [] (Ints (pickI p.length f)) := by
 obtain ⟨a, c, rfl, hrd⟩ := hs
 refine Con.enter Q29_ok (args := [.slice a p.length c, .func (.func g) #[] caps]) (by simp [Q29]) fun w0 => ?_
 simp only [Q29, argE]
 repeat' first
   | refine EV.seq ?_
   | refine EV.block ?_
   | (refine EV.reg ?_; (conv => (arg 2; whnf)); (refine nx ?_; try with_reducible exact ⟨⟩))
   | fail
 refine EV.loopTo (fun x : Nat × Vec => ([(1, .func (.func g) #[] caps), (5, osv x.2 (pickI x.1 f).length), (8, vi p.length), (9, vi x.1)], M, osg 3 x.2 ((pickI x.1 f).map vi)))
  (fun x => x.1 ≤ p.length ∧ osok 1 x.2 (pickI x.1 f).length ((pickI x.1 f).map vi)) (fun x => p.length - x.1) (0, none) rfl ⟨Nat.zero_le _, rfl, rfl⟩ ?env1 (List.nil_sublist _) ?_
 case env1 =>
  repeat' first
   | (refine List.forall_mem_cons.2 (And.intro ?_ ?_))
   | (intro _ hnil; cases hnil; done)
   | rfl
   | fail
 rintro ⟨i, ov⟩ ⟨hi, hov⟩ ih
 dsimp only at hi hov ih ⊢
 repeat' first
   | refine EV.seq ?_
   | refine EV.skip ?_
   | refine EV.block ?_
   | (refine EV.reg ?_; (conv => (arg 2; whnf)); (refine nx ?_; try with_reducible exact ⟨⟩))
   | (refine EV.condX rfl (fun h => ?_) (fun h => ?_) <;> try exact dead h)
   | (refine EV.exit rfl ?_)
   | fail
 ·have hi' : i < p.length := by omega
  have hln := pickI_len i f
  repeat' first
    | refine EV.skip ?_
    | refine EV.inBlock ?_
    | (refine EV.reg ?_; (conv => (arg 2; whnf)); (refine nx ?_; try with_reducible exact ⟨⟩))
    | (refine ConQ.call (hf _ (PHeap.le_add _ _) i hi') ?_; try (refine nx ?_; try with_reducible exact ⟨⟩))
    | (refine EV.condX rfl (fun h => ?_) (fun h => ?_) <;> try exact dead h)
    | (with_reducible intro b; try (refine nx ?_; try with_reducible exact ⟨⟩))
    | fail
  ·refine ⟨[vi i], Or.inr ⟨b, 0, rfl, rd_own' 0 rfl rfl (by simp)⟩, by simp [ok1_cons, ok1_nil, Value.oneCell'], Or.inl ⟨ov, _, rfl, _, hov, _, cat_pull [[_], osg 3 ov _] 1 (by simp), ?_, ?_, ?_⟩⟩
   ·simp only [maxLen]; omega
   ·omega
   intro o2 ho2 _
   simp only [List.eraseIdx_cons_succ, List.eraseIdx_cons_zero, List.getElem_cons_succ, List.getElem_cons_zero, List.insertIdx_zero, List.insertIdx_succ_cons, cat_two, cat_one, cat_nil, List.nil_append, List.cons_append, List.append_assoc, List.append_nil]
   repeat' first
     | refine EV.inBlock ?_
     | (refine EV.reg ?_; (conv => (arg 2; whnf)); (refine nx ?_; try with_reducible exact ⟨⟩))
     | fail
   have e : pickI (i + 1) f = pickI i f ++ [(i : Int)] := by rw [pickI_succ, if_pos (by assumption)]
   have ih3 := ih (i + 1, o2) ⟨by dsimp only; omega, by rw [e, List.length_append, List.map_append]; exact ho2⟩ (by dsimp only; omega)
   dsimp only at ih3
   rw [e, List.length_append, List.map_append] at ih3
   refine EV.to ih3 ?_ (by (repeat' first | exact List.Sublist.refl _ | exact List.nil_sublist _ | exact List.sublist_append_left _ _ | refine List.Sublist.cons_cons _ ?_ | refine List.Sublist.append_left ?_ _ | refine List.sublist_append_of_sublist_right ?_ | refine List.Sublist.cons _ ?_))
   repeat' first
    | (refine List.forall_mem_cons.2 (And.intro ?_ ?_))
    | (intro _ hnil; cases hnil; done)
    | rfl
    | (refine env_w64 rfl (by first | rfl | (push_cast; first | rfl | omega)) (by omega) (by omega); done)
    | fail
  ·have e : pickI (i + 1) f = pickI i f := by rw [pickI_succ, if_neg (by simp_all), List.append_nil]
   have ih3 := ih (i + 1, ov) ⟨by dsimp only; omega, by rw [e]; exact hov⟩ (by dsimp only; omega)
   dsimp only at ih3
   rw [e] at ih3
   refine EV.to ih3 ?_ (by (repeat' first | exact List.Sublist.refl _ | exact List.nil_sublist _ | exact List.sublist_append_left _ _ | refine List.Sublist.cons_cons _ ?_ | refine List.Sublist.append_left ?_ _ | refine List.sublist_append_of_sublist_right ?_ | refine List.Sublist.cons _ ?_))
   repeat' first
    | (refine List.forall_mem_cons.2 (And.intro ?_ ?_))
    | (intro _ hnil; cases hnil; done)
    | rfl
    | (refine env_w64 rfl (by first | rfl | (push_cast; first | rfl | omega)) (by omega) (by omega); done)
    | fail
 ·have hi2 : i = p.length := by omega
  subst hi2
  refine EV.ret Q29_ok ?_
  simp only [wpS, wpA, wpQL, push_cast, Int.cast_ofNat_Int, reduceIte, Nat.reduceEqDiff, reduceCtorEq, Nat.reduceAdd, Nat.reduceSub, Nat.reduceMul, Int.reduceToNat, Nat.reduceLeDiff, Q29]
  exact ⟨ov, rfl, hov, rfl⟩

end
end Go.EV

namespace Go.EV
open Go.Proofs

section
variable {M : PHeap}

theorem ax_writers_S1_q (p : List Ev) (dn : List Bool) (loc : Int) {pb po pc db do' dc b1 b2 b3 : Nat} (h1 : rd M b1 0 1 [.slice (some ⟨pb, po, none⟩) p.length pc]) (h2 : rd M b2 0 1 [.slice (some ⟨db, do', none⟩) dn.length dc]) (h3 : rd M b3 0 1 [vi loc])
  (i : Nat) (hi : i < p.length) (hl : dn.length = p.length) (hp : rd M pb (po + i * 6) 6 (encEv (evAt p i))) (hd : rd M db (do' + i) 1 [vb (dn[i]?.getD false)]) :
  ConQ Tryz.prog 139 #[vi i, pv b1 0, pv b2 0, pv b3 0] M (vb (decide ((evAt p i).op.kind ≠ 5) && (dn[i]?.getD false) && decide ((evAt p i).op.loc = loc))) := by
 have hp0 := hp.pt 0 1 (by omega) rfl
 have hp1 := hp.pt 1 1 (by omega) rfl
 have hi' : (i : Int) < p.length := by omega
 have hid : (i : Int) < dn.length := by omega
 refine Con.enter Q36_ok (args := [vi i, pv b1 0, pv b2 0, pv b3 0]) (by simp [Q36]) fun w0 => ?_
 simp only [Q36, argE]
 repeat' first
   | refine EV.seq ?_
   | ((first | refine EV.reg ?_ | refine EV.any _ (List.Sublist.refl _) ?_ | fail); (conv => (arg 2; whnf)); (refine nx ?_; try with_reducible exact ⟨⟩))
   | (refine condQ.mk ?_ (fun hc => ?_) ?_; rotate_left; (try simp only [decide_eq_true_eq, decide_eq_false_iff_not, Bool.not_eq_true', Bool.not_eq_false', Bool.and_eq_true, Bool.or_eq_true, Bool.and_eq_false_iff, Bool.or_eq_false_iff] at hc))
   | (with_reducible rfl)
   | (refine EV.ret Q36_ok ?_; simp only [wpS, wpA, wpQL, push_cast, Int.cast_ofNat_Int, reduceIte, Nat.reduceEqDiff, reduceCtorEq, Nat.reduceAdd, Nat.reduceSub, Nat.reduceMul, Int.reduceToNat, Nat.reduceLeDiff, Q36])
   | (refine And.intro (by omega) ?_)
   | ((first | refine Exists.intro _ (And.intro (rd_M (by assumption)) ?_) | refine Exists.intro _ (Exists.intro _ (Exists.intro _ (And.intro (rd_M (by assumption)) ?_))) | fail); try (refine nx ?_; try with_reducible exact ⟨⟩))
   | fail
 all_goals simp_all

theorem Sl.evAt {p : List Ev} {pb po : Nat} (hat : ∀ i (hi : i < p.length), rd M pb (po + i * 6) 6 (encEv p[i])) (i : Nat) (hi : i < p.length) : rd M pb (po + i * 6) 6 (encEv (evAt p i)) := by
 rw [evAt_eq hi]; exact hat i hi

theorem ax_writers_c (p : List Ev) (s : Value) (hs : Sl M 6 encEv s p) (hb : p.length < 1000000) (dn : List Bool) (d : Value) (hd : Sl M 1 eb d dn) (hl : dn.length = p.length) (loc : Int) :
  Con Tryz.prog 110 #[s, d, vi loc] M [] fun v M' G' => ∃ G0, Ints (writersI p dn loc) v M' G0 ∧ G' = G0 := by
 obtain ⟨a, c, rfl, hrd⟩ := hs
 obtain ⟨da, dc, rfl, hrd2⟩ := hd
 refine Con.enter Q35_ok (args := [.slice a p.length c, .slice da dn.length dc, vi loc]) (by simp [Q35]) fun w0 => ?_
 simp only [Q35, argE]
 repeat' first
   | refine EV.seq ?_
   | (refine EV.reg ?_; (conv => (arg 2; whnf)); (refine nx ?_; try with_reducible exact ⟨⟩))
   | ((first | with_reducible intro b | refine xsA rfl ?_ | fail); try (refine nx ?_; try with_reducible exact ⟨⟩))
   | fail
 rename_i b1 b2
 refine CallW.frz (G3 := []) (by rw [List.append_nil]) ?_
 generalize hN : M.add _ = N
 have hMN : M.le N := hN ▸ PHeap.le_add _ _
 have hr1 : rd N b1 0 1 [.slice a p.length c] := hN ▸ rd_own' 2 rfl rfl (by simp)
 have hr2 : rd N b2 0 1 [.slice da dn.length dc] := hN ▸ rd_own' 1 rfl rfl (by simp)
 have hr3 : rd N b 0 1 [vi loc] := hN ▸ rd_own' 0 rfl rfl (by simp)
 clear hN
 refine Con.callA (G1 := []) (ax_pick_c p _ ⟨_, _, rfl, hrd.mono hMN⟩ hb _ _ (fun i => decide ((evAt p i).op.kind ≠ 5) && (dn[i]?.getD false) && decide ((evAt p i).op.loc = loc)) ?_) (List.Perm.refl _) ?_
 ·intro M' hM' i hi
  have h0 : 0 < p.length := by omega
  obtain ⟨pb, po, rfl, hat⟩ := Sl.at (enc := encEv) (fun _ => rfl) (by omega) hrd h0
  obtain ⟨db, do', rfl, hat2⟩ := Sl.at (sz := 1) (enc := eb) (fun _ => rfl) (by decide) hrd2 (by rw [hl]; exact h0)
  have hle := PHeap.le_trans hMN hM'
  have q2 := hat2 i (by omega)
  rw [Nat.mul_one] at q2
  refine ax_writers_S1_q p dn loc (hr1.mono hM') (hr2.mono hM') (hr3.mono hM') i hi hl ((Sl.evAt hat i hi).mono hle) ?_
  have : dn[i]?.getD false = dn[i] := by rw [List.getElem?_eq_getElem (by omega)]; rfl
  rw [this]; exact q2.mono hle
 ·rintro v M' G' hM' hv
  obtain ⟨ov, rfl, hov, rfl⟩ := hv
  simp only [wpS, wpA, wpQL, push_cast, Int.cast_ofNat_Int, reduceIte, Nat.reduceEqDiff, reduceCtorEq, Nat.reduceAdd, Nat.reduceSub, Nat.reduceMul, Int.reduceToNat, Nat.reduceLeDiff]
  repeat' first
    | fail
  refine EV.ret Q35_ok ?_
  simp only [wpS, wpA, wpQL, push_cast, Int.cast_ofNat_Int, reduceIte, Nat.reduceEqDiff, reduceCtorEq, Nat.reduceAdd, Nat.reduceSub, Nat.reduceMul, Int.reduceToNat, Nat.reduceLeDiff, Q35]
  exact ⟨_, ⟨ov, rfl, hov, rfl⟩, rfl⟩

end
end Go.EV

namespace Go.EV
open Go.Proofs

structure Wd where
 r : List Int
 w : List Int
 k : List Bool
 t : List Bool

def wdRead (p : List Ev) (f : List Int) (s : Wd) (i : Nat) : Wd :=
 if (evAt p i).reads && decide (f[i]?.getD 0 = -1) then { s with k := s.k.set i true }
 else if (evAt p i).reads && (s.t[(f[i]?.getD 0).toNat]?.getD false) then { s with r := s.r.set i (s.w[(f[i]?.getD 0).toNat]?.getD 0), k := s.k.set i true } else s
def wdWrite (p : List Ev) (s : Wd) (i : Nat) : Wd :=
 if (evAt p i).op.kind = 1 then { s with w := s.w.set i (evAt p i).op.v, t := s.t.set i true }
 else if (evAt p i).op.kind = 2 then { s with w := s.w.set i (IntKind.i64.wrap (s.r[i]?.getD 0 + (evAt p i).op.v)), t := s.t.set i (s.k[i]?.getD false) }
 else if (evAt p i).op.kind = 3 ∨ (evAt p i).op.kind = 4 then { s with w := s.w.set i (evAt p i).op.w, t := s.t.set i true } else s
def wdStep (p : List Ev) (f : List Int) (s : Wd) (i : Nat) : Wd := wdWrite p (wdRead p f s i) i
def wdRow (p : List Ev) (f : List Int) (s : Wd) : Nat → Wd
 | 0 => s
 | n + 1 => wdStep p f (wdRow p f s n) n
def wd0 (n : Nat) : Wd := ⟨List.replicate n 0, List.replicate n 0, List.replicate n false, List.replicate n false⟩
def wdIter (p : List Ev) (f : List Int) : Nat → Wd
 | 0 => wd0 p.length
 | k + 1 => wdRow p f (wdIter p f k) p.length
def wordsP (p : List Ev) (f : List Int) : Wd := wdIter p f (p.length + 1)

structure Wd.Len (s : Wd) (n : Nat) : Prop where
 r : s.r.length = n
 w : s.w.length = n
 k : s.k.length = n
 t : s.t.length = n

theorem wdRead_len {p : List Ev} {f : List Int} {s : Wd} {i n : Nat} (h : s.Len n) : (wdRead p f s i).Len n := by
 unfold wdRead
 split
 ·exact ⟨h.r, h.w, by simp [h.k], h.t⟩
 ·split
  ·exact ⟨by simp [h.r], h.w, by simp [h.k], h.t⟩
  ·exact h
theorem wdWrite_len {p : List Ev} {s : Wd} {i n : Nat} (h : s.Len n) : (wdWrite p s i).Len n := by
 unfold wdWrite
 split
 ·exact ⟨h.r, by simp [h.w], h.k, by simp [h.t]⟩
 ·split
  ·exact ⟨h.r, by simp [h.w], h.k, by simp [h.t]⟩
  ·split
   ·exact ⟨h.r, by simp [h.w], h.k, by simp [h.t]⟩
   ·exact h
theorem wdStep_len {p : List Ev} {f : List Int} {s : Wd} {i n : Nat} (h : s.Len n) : (wdStep p f s i).Len n := wdWrite_len (wdRead_len h)
theorem wd0_len (n : Nat) : (wd0 n).Len n := by constructor <;> simp [wd0]

theorem wdRow_len {p : List Ev} {f : List Int} {s : Wd} {n : Nat} (h : s.Len n) : ∀ i, (wdRow p f s i).Len n
 | 0 => h
 | i + 1 => wdStep_len (wdRow_len h i)
theorem wdIter_len (p : List Ev) (f : List Int) : ∀ k, (wdIter p f k).Len p.length
 | 0 => wd0_len _
 | k + 1 => wdRow_len (wdIter_len p f k) _

/-- Where events read from, so far as the words ask. -/
def FromOk (p : List Ev) (f : List Int) : Prop := f.length = p.length ∧ ∀ i, i < p.length → (evAt p i).reads = true → f[i]?.getD 0 = -1 ∨ (0 ≤ f[i]?.getD 0 ∧ f[i]?.getD 0 < p.length)

/-- The rows while the words are reckoned. -/
abbrev wdG (s : Wd) (xb rb wb kb tb : Nat) (f d o n : Value) : Own :=
 [(tb, Cl 4 (s.t.map vb)), (rb, Cl 3 (s.r.map vi)), (wb, Cl 3 (s.w.map vi)), (kb, Cl 4 (s.k.map vb)), (xb, Cl 45 [f, d, o, n])]

section
variable {M : PHeap}

theorem flatten_rep {α : Type} (n : Nat) (v : α) : (List.replicate n [v]).flatten = List.replicate n v := by simp

set_option maxHeartbeats 4000000 in
theorem ax_words_c (p : List Ev) (s : Value) (hs : Sl M 6 encEv s p) (hb : p.length < 1000000) (fr : List Int) (f d o n : Value) (hf : Sl M 1 ei f fr) (hfo : FromOk p fr) :
  Con Tryz.prog 85 #[s, .agg #[f, d, o, n]] M [] fun v M' _ => ∃ rv wv kv, v = .tuple #[rv, wv, kv] ∧ Sl M' 1 ei rv (wordsP p fr).r ∧ Sl M' 1 ei wv (wordsP p fr).w ∧ Sl M' 1 eb kv (wordsP p fr).k := by
 obtain ⟨a, c, rfl, hrd⟩ := hs
 obtain ⟨fa, fc, rfl, hrf⟩ := hf
 obtain ⟨hfl, hfo⟩ := hfo
 refine Con.enter Q34_ok (args := [.slice a p.length c, .agg #[.slice fa fr.length fc, d, o, n]]) (by simp [Q34]) fun w0 => ?_
 simp only [Q34, argE]
 refine EV.seq (EV.reg ?_)
 simp only [wpS, wpA, wpQL, push_cast, Int.cast_ofNat_Int, reduceIte, Nat.reduceEqDiff, reduceCtorEq, Nat.reduceAdd, Nat.reduceSub, Nat.reduceMul, Int.reduceToNat, Nat.reduceLeDiff, Q34_0]
 intro xb
 refine EV.seq (EV.thru (fun ρ' M' G' => ∃ rb wb kb, M' = M ∧ get ρ' 0 = some (.slice a p.length c) ∧ get ρ' 3 = some (pv xb 0) ∧ get ρ' 4 = some (vrow rb p.length p.length) ∧ get ρ' 5 = some (vrow wb p.length p.length) ∧ get ρ' 6 = some (vrow kb p.length p.length) ∧
  G' = [(rb, Cl 3 (List.replicate p.length (vi 0))), (wb, Cl 3 (List.replicate p.length (vi 0))), (kb, Cl 4 (List.replicate p.length (vb false))), (xb, Cl 45 [.slice fa fr.length fc, d, o, n])]) ?_ ?_)
 ·intro k' key
  repeat' first
    | (refine EV.any _ (List.Sublist.refl _) ?_; (conv => (arg 2; whnf)); simp only [wpS, wpA, wpQL, push_cast, Int.cast_ofNat_Int, reduceIte, Nat.reduceEqDiff, reduceCtorEq, Nat.reduceAdd, Nat.reduceSub, Nat.reduceMul, Int.reduceToNat, Nat.reduceLeDiff, flatten_rep])
    | (with_reducible intro b; try simp only [wpS, wpA, wpQL, push_cast, Int.cast_ofNat_Int, reduceIte, Nat.reduceEqDiff, reduceCtorEq, Nat.reduceAdd, Nat.reduceSub, Nat.reduceMul, Int.reduceToNat, Nat.reduceLeDiff, flatten_rep])
    | (refine And.intro (by omega) ?_)
    | (refine And.intro (PHeap.le_refl _) (And.intro (fun p hp => List.mem_cons_of_mem _ hp) ?_))
    | (refine And.intro (PHeap.le_refl _) (And.intro (fun p hp => List.mem_cons_of_mem _ (List.mem_cons_of_mem _ hp)) ?_))
    | (refine And.intro (PHeap.le_refl _) (And.intro (mem_of_sub ?_) ?_); focus ((repeat' first | exact List.Sublist.refl _ | exact List.nil_sublist _ | exact List.sublist_append_left _ _ | refine List.Sublist.cons_cons _ ?_ | refine List.Sublist.append_left ?_ _ | refine List.sublist_append_of_sublist_right ?_ | refine List.Sublist.cons _ ?_); done); try simp only [wpS, wpA, wpQL, push_cast, Int.cast_ofNat_Int, reduceIte, Nat.reduceEqDiff, reduceCtorEq, Nat.reduceAdd, Nat.reduceSub, Nat.reduceMul, Int.reduceToNat, Nat.reduceLeDiff, flatten_rep])
    | refine And.intro ?_ ?_
    | fail
  all_goals exact EV.reS (key _ _ _ ⟨_, _, _, rfl, rfl, rfl, rfl, rfl, rfl, rfl⟩)
 rintro ρ1 M1 G1 ⟨rb, wb, kb, rfl, e0, e3, e4, e5, e6, rfl⟩
 refine EV.toS (ρ' := [(0, .slice a p.length c), (3, pv xb 0), (4, vrow rb p.length p.length), (5, vrow wb p.length p.length), (6, vrow kb p.length p.length)])
  (G' := [(rb, Cl 3 (List.replicate p.length (vi 0))), (wb, Cl 3 (List.replicate p.length (vi 0))), (kb, Cl 4 (List.replicate p.length (vb false))), (xb, Cl 45 [.slice fa fr.length fc, d, o, n])]) ?_
  (by simp only [List.forall_mem_cons]; exact ⟨e0, e3, e4, e5, e6, fun _ h => nomatch h⟩)
 clear e0 e3 e4 e5 e6
 repeat' first
   | refine EV.seq ?_
   | refine EV.block ?_
   | (refine EV.reg ?_; (conv => (arg 2; whnf)); simp only [wpS, wpA, wpQL, push_cast, Int.cast_ofNat_Int, reduceIte, Nat.reduceEqDiff, reduceCtorEq, Nat.reduceAdd, Nat.reduceSub, Nat.reduceMul, Int.reduceToNat, Nat.reduceLeDiff, flatten_rep])
   | (with_reducible intro b; try simp only [wpS, wpA, wpQL, push_cast, Int.cast_ofNat_Int, reduceIte, Nat.reduceEqDiff, reduceCtorEq, Nat.reduceAdd, Nat.reduceSub, Nat.reduceMul, Int.reduceToNat, Nat.reduceLeDiff, flatten_rep])
   | (refine And.intro (by omega) ?_)
   | fail
 rename Nat => tb
 have hw1 : IntKind.i64.wrap ((p.length : Int) + 1) = (p.length : Int) + 1 := w64 (by omega) (by omega)
 rw [hw1]
 refine EV.loopTo (fun x : Nat => ([(0, .slice a p.length c), (3, pv xb 0), (4, vrow rb p.length p.length), (5, vrow wb p.length p.length), (6, vrow kb p.length p.length), (7, vrow tb p.length p.length), (25, vi ((p.length : Int) + 1)), (26, vi x)], M1,
   wdG (wdIter p fr x) xb rb wb kb tb (.slice fa fr.length fc) d o n))
  (fun x => x ≤ p.length + 1) (fun x => p.length + 1 - x) 0 rfl (Nat.zero_le _) ?env1 ?sub1 ?_
 case env1 =>
  repeat' first
   | (refine List.forall_mem_cons.2 (And.intro ?_ ?_))
   | (intro _ hnil; cases hnil; done)
   | rfl
   | fail
 case sub1 =>
  simp only [wdG, wdIter, wd0, List.map_replicate]
  exact List.Sublist.refl _
 intro x hx ih
 dsimp only at hx ih ⊢
 repeat' first
   | refine EV.seq ?_
   | refine EV.skip ?_
   | refine EV.block ?_
   | (refine EV.reg ?_; (conv => (arg 2; whnf)); (refine nx ?_; try with_reducible exact ⟨⟩))
   | (refine EV.condX rfl (fun h => ?_) (fun h => ?_) <;> try exact dead h)
   | (refine EV.exit rfl ?_)
   | fail
 ·generalize hsx : wdIter p fr x = sx at *
  have hlx : sx.Len p.length := hsx ▸ wdIter_len p fr x
  refine EV.loopTo (fun i : Nat => ([(0, .slice a p.length c), (3, pv xb 0), (4, vrow rb p.length p.length), (5, vrow wb p.length p.length), (6, vrow kb p.length p.length), (7, vrow tb p.length p.length), (25, vi ((p.length : Int) + 1)), (26, vi x), (28, .slice a p.length c), (29, vi p.length), (30, vi i)], M1,
    wdG (wdRow p fr sx i) xb rb wb kb tb (.slice fa fr.length fc) d o n))
   (fun i => i ≤ p.length) (fun i => p.length - i) 0 rfl (Nat.zero_le _) ?env2 (List.Sublist.refl _) ?_
  case env2 =>
   repeat' first
    | (refine List.forall_mem_cons.2 (And.intro ?_ ?_))
    | (intro _ hnil; cases hnil; done)
    | rfl
    | fail
  intro i hi ih2
  dsimp only at hi ih2 ⊢
  repeat' first
    | refine EV.seq ?_
    | refine EV.skip ?_
    | refine EV.block ?_
    | refine EV.inBlock ?_
    | (refine EV.reg ?_; (conv => (arg 2; whnf)); (refine nx ?_; try with_reducible exact ⟨⟩))
    | (refine EV.condX rfl (fun h => ?_) (fun h => ?_) <;> try exact dead h)
    | (refine EV.exit rfl ?_)
    | fail
  ·have hi' : i < p.length := by omega
   obtain ⟨pb, po, rfl, hat⟩ := Sl.at (enc := encEv) (fun _ => rfl) (by omega) hrd (by omega)
   obtain ⟨fb, fo, rfl, hat2⟩ := Sl.at (sz := 1) (enc := ei) (fun _ => rfl) (by decide) hrf (by omega)
   have hpi := Sl.evAt hat i hi'
   have hfi : rd M1 fb (fo + i) 1 [vi (fr[i]?.getD 0)] := by
    have := hat2 i (by omega)
    rw [Nat.mul_one] at this
    rwa [List.getElem?_eq_getElem (by omega : i < fr.length)]
   have hwr := hfo i hi'
   have hiI : (i : Int) < fr.length := by omega
   generalize hsi : wdRow p fr sx i = s at *
   have hls : s.Len p.length := hsi ▸ wdRow_len hlx i
   have hstep : wdRow p fr sx (i + 1) = wdWrite p (wdRead p fr s i) i := by simp only [wdRow, hsi, wdStep]
   have hlr := hls.r
   have hlw := hls.w
   have hlk := hls.k
   have hlt := hls.t
   have hri : i < s.r.length := by omega
   have hki : i < s.k.length := by omega
   have ih3 := ih2 (i + 1) (by omega) (by omega)
   rw [hstep] at ih3
   clear ih ih2 hat hat2 hrd hrf
   repeat' first
     | (with_reducible intro b; try (refine nx ?_; try with_reducible exact ⟨⟩))
     | (refine And.intro (by omega) ?_)
     | (refine Exists.intro _ (And.intro (rd_M (by assumption)) ?_); try (refine nx ?_; try with_reducible exact ⟨⟩))
     | (refine xw ?_; (refine nx ?_; try with_reducible exact ⟨⟩))
     | fail
   rename Nat => eb0
   refine EV.seq (EV.thru (fun ρ' M' G' => M' = M1 ∧ (∀ q ∈ [(0, .slice (some ⟨pb, po, none⟩) p.length c), (3, pv xb 0), (4, vrow rb p.length p.length), (5, vrow wb p.length p.length), (6, vrow kb p.length p.length), (7, vrow tb p.length p.length), (8, vi i), (9, pv eb0 0), (25, vi ((p.length : Int) + 1)), (26, vi x), (28, .slice (some ⟨pb, po, none⟩) p.length c), (29, vi p.length), (30, vi i)], get ρ' q.1 = some q.2) ∧
    G' = (eb0, Cl 121 (encEv (evAt p i))) :: wdG (wdRead p fr s i) xb rb wb kb tb (.slice (some ⟨fb, fo, none⟩) fr.length fc) d o n) ?_ ?_)
   ·intro k' key
    clear ih3
    cases hre : (evAt p i).reads with
    | false =>
     have e1 : wdRead p fr s i = s := by simp [wdRead, hre]
     rw [e1] at key
     repeat' first
       | refine EV.seq ?_
       | refine EV.skip ?_
       | refine EV.block ?_
       | refine EV.inBlock ?_
       | (refine EV.reg ?_; (conv => (arg 2; whnf)); simp only [wpS, wpA, wpQL, push_cast, Int.cast_ofNat_Int, reduceIte, Nat.reduceEqDiff, reduceCtorEq, Nat.reduceAdd, Nat.reduceSub, Nat.reduceMul, Int.reduceToNat, Nat.reduceLeDiff, hre, Bool.false_and, Bool.true_and])
       | (refine ConQ.call (ax_reads_q (evAt p i)) ?_; try simp only [wpS, wpA, wpQL, push_cast, Int.cast_ofNat_Int, reduceIte, Nat.reduceEqDiff, reduceCtorEq, Nat.reduceAdd, Nat.reduceSub, Nat.reduceMul, Int.reduceToNat, Nat.reduceLeDiff, hre, Bool.false_and, Bool.true_and])
       | with_reducible assumption
       | (refine condW.merge ?_ (fun hc K' hK => ?_) ?_; rotate_left)
       | (refine EV.condX rfl (fun h => ?_) (fun h => ?_) <;> try exact dead h)
       | (refine And.intro (by omega) ?_)
       | ((first | refine Exists.intro _ (And.intro (rd_M (by assumption)) ?_) | refine xrA rfl ?_ | refine xsA rfl ?_ | fail); try simp only [wpS, wpA, wpQL, push_cast, Int.cast_ofNat_Int, reduceIte, Nat.reduceEqDiff, reduceCtorEq, Nat.reduceAdd, Nat.reduceSub, Nat.reduceMul, Int.reduceToNat, Nat.reduceLeDiff, hre, Bool.false_and, Bool.true_and])
       | (exfalso; simp at hc; done)
       | exact false
       | fail
     refine key _ _ _ ⟨rfl, ?_, rfl⟩
     repeat' first
      | (refine List.forall_mem_cons.2 (And.intro ?_ ?_))
      | (intro _ hnil; cases hnil; done)
      | rfl
      | fail
    | true =>
     have hwr := hwr hre
     by_cases hm1 : fr[i]?.getD 0 = -1
     ·have e1 : wdRead p fr s i = { s with k := s.k.set i true } := by simp [wdRead, hre, hm1]
      rw [e1] at key
      repeat' first
        | refine EV.seq ?_
        | refine EV.block ?_
        | refine EV.inBlock ?_
        | (refine EV.reg ?_; (conv => (arg 2; whnf)); simp only [wpS, wpA, wpQL, push_cast, Int.cast_ofNat_Int, reduceIte, Nat.reduceEqDiff, reduceCtorEq, Nat.reduceAdd, Nat.reduceSub, Nat.reduceMul, Int.reduceToNat, Nat.reduceLeDiff, hre, Bool.false_and, Bool.true_and, row_st, List.length_map, hlr, hlw, hlk, hlt, hi'])
        | (refine ConQ.call (ax_reads_q (evAt p i)) ?_; try simp only [wpS, wpA, wpQL, push_cast, Int.cast_ofNat_Int, reduceIte, Nat.reduceEqDiff, reduceCtorEq, Nat.reduceAdd, Nat.reduceSub, Nat.reduceMul, Int.reduceToNat, Nat.reduceLeDiff, hre, Bool.false_and, Bool.true_and, row_st, List.length_map, hlr, hlw, hlk, hlt, hi'])
        | with_reducible assumption
        | (refine condW.merge ?_ (fun hc K' hK => ?_) ?_; rotate_left)
        | (refine EV.condX rfl (fun h => ?_) (fun h => ?_) <;> try exact dead h)
        | (refine And.intro (by omega) ?_)
        | ((first | refine Exists.intro _ (And.intro (rd_M (by assumption)) ?_) | refine xrA rfl ?_ | refine xsA rfl ?_ | fail); try simp only [wpS, wpA, wpQL, push_cast, Int.cast_ofNat_Int, reduceIte, Nat.reduceEqDiff, reduceCtorEq, Nat.reduceAdd, Nat.reduceSub, Nat.reduceMul, Int.reduceToNat, Nat.reduceLeDiff, hre, Bool.false_and, Bool.true_and, row_st, List.length_map, hlr, hlw, hlk, hlt, hi'])
        | (refine xw ?_; simp only [wpS, wpA, wpQL, push_cast, Int.cast_ofNat_Int, reduceIte, Nat.reduceEqDiff, reduceCtorEq, Nat.reduceAdd, Nat.reduceSub, Nat.reduceMul, Int.reduceToNat, Nat.reduceLeDiff, hre, Bool.false_and, Bool.true_and, row_st, List.length_map, hlr, hlw, hlk, hlt, hi'])
        | fail
      refine key _ _ _ ⟨rfl, ?_, rfl⟩
      repeat' first
       | (refine List.forall_mem_cons.2 (And.intro ?_ ?_))
       | (intro _ hnil; cases hnil; done)
       | rfl
       | fail
     ·have hge := hwr.resolve_left hm1
      have hft : (fr[i]?.getD 0).toNat < s.t.length := by omega
      have hfw : (fr[i]?.getD 0).toNat < s.w.length := by omega
      have et : s.t[(fr[i]?.getD 0).toNat]?.getD false = s.t[(fr[i]?.getD 0).toNat] := by rw [List.getElem?_eq_getElem hft]; rfl
      have ew : s.w[(fr[i]?.getD 0).toNat]?.getD 0 = s.w[(fr[i]?.getD 0).toNat] := by rw [List.getElem?_eq_getElem hfw]; rfl
      have e1 : wdRead p fr s i = if s.t[(fr[i]?.getD 0).toNat] = true then { s with r := s.r.set i (s.w[(fr[i]?.getD 0).toNat]), k := s.k.set i true } else s := by
       simp only [wdRead, hre, hm1, et, ew]; simp
      rw [e1] at key
      clear et ew e1
      repeat' first
        | refine EV.seq ?_
        | refine EV.skip ?_
        | refine EV.block ?_
        | refine EV.inBlock ?_
        | (refine EV.reg ?_; (conv => (arg 2; whnf)); simp only [wpS, wpA, wpQL, push_cast, Int.cast_ofNat_Int, reduceIte, Nat.reduceEqDiff, reduceCtorEq, Nat.reduceAdd, Nat.reduceSub, Nat.reduceMul, Int.reduceToNat, Nat.reduceLeDiff, hre, Bool.false_and, Bool.true_and, row_st, List.length_map, hlr, hlw, hlk, hlt, hi'])
        | ((first | refine Exists.intro _ (And.intro (rowAt (f := vi) hfw) ?_) | refine Exists.intro _ (And.intro (rowAt (f := vb) hft) ?_) | refine ConQ.call (ax_reads_q (evAt p i)) ?_ | fail); try simp only [wpS, wpA, wpQL, push_cast, Int.cast_ofNat_Int, reduceIte, Nat.reduceEqDiff, reduceCtorEq, Nat.reduceAdd, Nat.reduceSub, Nat.reduceMul, Int.reduceToNat, Nat.reduceLeDiff, hre, Bool.false_and, Bool.true_and, row_st, List.length_map, hlr, hlw, hlk, hlt, hi'])
        | with_reducible assumption
        | (refine condW.merge ?_ (fun hc K' hK => ?_) ?_; rotate_left)
        | (refine EV.condX rfl (fun h => ?_) (fun h => ?_) <;> try exact dead h)
        | (refine And.intro (by omega) ?_)
        | ((first | refine Exists.intro _ (And.intro (rd_M (by assumption)) ?_) | refine xrA rfl ?_ | refine xsA rfl ?_ | fail); try simp only [wpS, wpA, wpQL, push_cast, Int.cast_ofNat_Int, reduceIte, Nat.reduceEqDiff, reduceCtorEq, Nat.reduceAdd, Nat.reduceSub, Nat.reduceMul, Int.reduceToNat, Nat.reduceLeDiff, hre, Bool.false_and, Bool.true_and, row_st, List.length_map, hlr, hlw, hlk, hlt, hi'])
        | (refine xw ?_; simp only [wpS, wpA, wpQL, push_cast, Int.cast_ofNat_Int, reduceIte, Nat.reduceEqDiff, reduceCtorEq, Nat.reduceAdd, Nat.reduceSub, Nat.reduceMul, Int.reduceToNat, Nat.reduceLeDiff, hre, Bool.false_and, Bool.true_and, row_st, List.length_map, hlr, hlw, hlk, hlt, hi'])
        | fail
      ·rw [if_pos (by assumption)] at key
       refine key _ _ _ ⟨rfl, ?_, rfl⟩
       repeat' first
        | (refine List.forall_mem_cons.2 (And.intro ?_ ?_))
        | (intro _ hnil; cases hnil; done)
        | rfl
        | fail
      ·rw [if_neg (by simp_all)] at key
       refine key _ _ _ ⟨rfl, ?_, rfl⟩
       repeat' first
        | (refine List.forall_mem_cons.2 (And.intro ?_ ?_))
        | (intro _ hnil; cases hnil; done)
        | rfl
        | fail
   rintro ρ2 M2 G2 ⟨rfl, hq, rfl⟩
   refine EV.toS (G' := (eb0, Cl 121 (encEv (evAt p i))) :: wdG (wdRead p fr s i) xb rb wb kb tb (.slice (some ⟨fb, fo, none⟩) fr.length fc) d o n) ?_ hq
   clear hq
   have hls2 : (wdRead p fr s i).Len p.length := wdRead_len hls
   generalize wdRead p fr s i = s2 at *
   have hlr2 := hls2.r
   have hlw2 := hls2.w
   have hlk2 := hls2.k
   have hlt2 := hls2.t
   have hri2 : i < s2.r.length := by omega
   have hki2 : i < s2.k.length := by omega
   have er : s2.r[i]?.getD 0 = s2.r[i] := by rw [List.getElem?_eq_getElem hri2]; rfl
   have ek : s2.k[i]?.getD false = s2.k[i] := by rw [List.getElem?_eq_getElem hki2]; rfl
   have e1 : wdWrite p s2 i = if (evAt p i).op.kind = 1 then { s2 with w := s2.w.set i (evAt p i).op.v, t := s2.t.set i true }
    else if (evAt p i).op.kind = 2 then { s2 with w := s2.w.set i (IntKind.i64.wrap (s2.r[i] + (evAt p i).op.v)), t := s2.t.set i s2.k[i] }
    else if (evAt p i).op.kind = 3 ∨ (evAt p i).op.kind = 4 then { s2 with w := s2.w.set i (evAt p i).op.w, t := s2.t.set i true } else s2 := by simp only [wdWrite, er, ek]
   rw [e1] at ih3
   clear er ek e1 hwr hfi hfo
   repeat' first
     | refine EV.seq ?_
     | refine EV.skip ?_
     | refine EV.block ?_
     | refine EV.inBlock ?_
     | (refine EV.reg ?_; (conv => (arg 2; whnf)); simp only [wpS, wpA, wpQL, push_cast, Int.cast_ofNat_Int, reduceIte, Nat.reduceEqDiff, reduceCtorEq, Nat.reduceAdd, Nat.reduceSub, Nat.reduceMul, Int.reduceToNat, Nat.reduceLeDiff, row_st, List.length_map, hlr2, hlw2, hlk2, hlt2, hi'])
     | (refine EV.condX rfl (fun h => ?_) (fun h => ?_) <;> try exact dead h)
     | (refine And.intro (by omega) ?_)
     | (refine xiA rfl ?_; try simp only [wpS, wpA, wpQL, push_cast, Int.cast_ofNat_Int, reduceIte, Nat.reduceEqDiff, reduceCtorEq, Nat.reduceAdd, Nat.reduceSub, Nat.reduceMul, Int.reduceToNat, Nat.reduceLeDiff, row_st, List.length_map, hlr2, hlw2, hlk2, hlt2, hi'])
     | (refine xw ?_; simp only [wpS, wpA, wpQL, push_cast, Int.cast_ofNat_Int, reduceIte, Nat.reduceEqDiff, reduceCtorEq, Nat.reduceAdd, Nat.reduceSub, Nat.reduceMul, Int.reduceToNat, Nat.reduceLeDiff, row_st, List.length_map, hlr2, hlw2, hlk2, hlt2, hi'])
     | fail
   rotate_left
   ·refine EV.any (t := Q34_17) [(eb0, Cl 121 (encEv (evAt p i))), (rb, Cl 3 (s2.r.map vi)), (kb, Cl 4 (s2.k.map vb))] (by (repeat' first | exact List.Sublist.refl _ | exact List.nil_sublist _ | exact List.sublist_append_left _ _ | refine List.Sublist.cons_cons _ ?_ | refine List.Sublist.append_left ?_ _ | refine List.sublist_append_of_sublist_right ?_ | refine List.Sublist.cons _ ?_)) ?_
    simp only [wpS, wpA, wpQL, push_cast, Int.cast_ofNat_Int, reduceIte, Nat.reduceEqDiff, reduceCtorEq, Nat.reduceAdd, Nat.reduceSub, Nat.reduceMul, Int.reduceToNat, Nat.reduceLeDiff, Q34_17]
    repeat' first
      | refine EV.inBlock ?_
      | (refine EV.reg ?_; (conv => (arg 2; whnf)); simp only [wpS, wpA, wpQL, push_cast, Int.cast_ofNat_Int, reduceIte, Nat.reduceEqDiff, reduceCtorEq, Nat.reduceAdd, Nat.reduceSub, Nat.reduceMul, Int.reduceToNat, Nat.reduceLeDiff, row_st, List.length_map, hlr2, hlw2, hlk2, hlt2, hi'])
      | ((first | refine Exists.intro _ (And.intro (rowAt (f := vb) (i := i) hki2) ?_) | refine Exists.intro _ (And.intro (rowAt (f := vi) (i := i) hri2) ?_) | fail); try simp only [wpS, wpA, wpQL, push_cast, Int.cast_ofNat_Int, reduceIte, Nat.reduceEqDiff, reduceCtorEq, Nat.reduceAdd, Nat.reduceSub, Nat.reduceMul, Int.reduceToNat, Nat.reduceLeDiff, row_st, List.length_map, hlr2, hlw2, hlk2, hlt2, hi'])
      | (refine And.intro (by omega) ?_)
      | (refine xiA rfl ?_; try simp only [wpS, wpA, wpQL, push_cast, Int.cast_ofNat_Int, reduceIte, Nat.reduceEqDiff, reduceCtorEq, Nat.reduceAdd, Nat.reduceSub, Nat.reduceMul, Int.reduceToNat, Nat.reduceLeDiff, row_st, List.length_map, hlr2, hlw2, hlk2, hlt2, hi'])
      | (refine xw ?_; simp only [wpS, wpA, wpQL, push_cast, Int.cast_ofNat_Int, reduceIte, Nat.reduceEqDiff, reduceCtorEq, Nat.reduceAdd, Nat.reduceSub, Nat.reduceMul, Int.reduceToNat, Nat.reduceLeDiff, row_st, List.length_map, hlr2, hlw2, hlk2, hlt2, hi'])
      | (refine And.intro (PHeap.le_refl _) (And.intro (mem_of_sub ?_) ?_); focus ((repeat' first | exact List.Sublist.refl _ | exact List.nil_sublist _ | exact List.sublist_append_left _ _ | refine List.Sublist.cons_cons _ ?_ | refine List.Sublist.append_left ?_ _ | refine List.sublist_append_of_sublist_right ?_ | refine List.Sublist.cons _ ?_); done); try simp only [wpS, wpA, wpQL, push_cast, Int.cast_ofNat_Int, reduceIte, Nat.reduceEqDiff, reduceCtorEq, Nat.reduceAdd, Nat.reduceSub, Nat.reduceMul, Int.reduceToNat, Nat.reduceLeDiff, row_st, List.length_map, hlr2, hlw2, hlk2, hlt2, hi'])
      | fail
    rw [if_neg (show ¬ (evAt p i).op.kind = 1 by assumption), if_pos (show (evAt p i).op.kind = 2 by assumption)] at ih3
    refine EV.toS ih3 ?_
    repeat' first
     | (refine List.forall_mem_cons.2 (And.intro ?_ ?_))
     | (intro _ hnil; cases hnil; done)
     | rfl
     | (refine env_w64 rfl (by first | rfl | (push_cast; first | rfl | omega)) (by omega) (by omega); done)
     | fail
   all_goals
    first
     | rw [if_pos (show (evAt p i).op.kind = 1 by assumption)] at ih3
     | rw [if_neg (show ¬ (evAt p i).op.kind = 1 by assumption), if_pos (show (evAt p i).op.kind = 2 by assumption)] at ih3
     | rw [if_neg (show ¬ (evAt p i).op.kind = 1 by assumption), if_neg (show ¬ (evAt p i).op.kind = 2 by assumption), if_pos (show (evAt p i).op.kind = 3 ∨ (evAt p i).op.kind = 4 by omega)] at ih3
     | rw [if_neg (show ¬ (evAt p i).op.kind = 1 by assumption), if_neg (show ¬ (evAt p i).op.kind = 2 by assumption), if_neg (show ¬ ((evAt p i).op.kind = 3 ∨ (evAt p i).op.kind = 4) by omega)] at ih3
    refine EV.toS ih3 ?_
    repeat' first
     | (refine List.forall_mem_cons.2 (And.intro ?_ ?_))
     | (intro _ hnil; cases hnil; done)
     | rfl
     | (refine env_w64 rfl (by first | rfl | (push_cast; first | rfl | omega)) (by omega) (by omega); done)
     | fail
  ·have hi2 : i = p.length := by omega
   subst hi2
   have ih3 := ih (x + 1) (by omega) (by omega)
   simp only [wdIter, hsx] at ih3
   refine EV.toS ih3 ?_
   repeat' first
    | (refine List.forall_mem_cons.2 (And.intro ?_ ?_))
    | (intro _ hnil; cases hnil; done)
    | rfl
    | (refine env_w64 rfl (by first | rfl | (push_cast; first | rfl | omega)) (by omega) (by omega); done)
    | fail
 ·have hx2 : x = p.length + 1 := by omega
  subst hx2
  have hlx := wdIter_len p fr (p.length + 1)
  refine EV.frz (wdG (wdIter p fr (p.length + 1)) xb rb wb kb tb (.slice fa fr.length fc) d o n) ?_
  refine EV.ret Q34_ok ?_
  simp only [wpS, wpA, wpQL, push_cast, Int.cast_ofNat_Int, reduceIte, Nat.reduceEqDiff, reduceCtorEq, Nat.reduceAdd, Nat.reduceSub, Nat.reduceMul, Int.reduceToNat, Nat.reduceLeDiff, Q34]
  have er := hlx.r
  have ew := hlx.w
  have ek := hlx.k
  refine ⟨vrow rb p.length p.length, vrow wb p.length p.length, vrow kb p.length p.length, rfl, ⟨some ⟨rb, 0, none⟩, p.length, by rw [wordsP, er], Or.inr ⟨rb, 0, rfl, ?_⟩⟩, ⟨some ⟨wb, 0, none⟩, p.length, by rw [wordsP, ew], Or.inr ⟨wb, 0, rfl, ?_⟩⟩, ⟨some ⟨kb, 0, none⟩, p.length, by rw [wordsP, ek], Or.inr ⟨kb, 0, rfl, ?_⟩⟩⟩
  ·exact rd_own' 1 rfl (by rw [flatMap_ei, wordsP, Nat.mul_one, List.drop_zero, List.take_of_length_le (by rw [List.length_map]; exact Nat.le_refl _)]) (by rw [List.length_map, wordsP]; omega)
  ·exact rd_own' 2 rfl (by rw [flatMap_ei, wordsP, Nat.mul_one, List.drop_zero, List.take_of_length_le (by rw [List.length_map]; exact Nat.le_refl _)]) (by rw [List.length_map, wordsP]; omega)
  ·exact rd_own' 3 rfl (by rw [flatMap_eb, wordsP, Nat.mul_one, List.drop_zero, List.take_of_length_le (by rw [List.length_map]; exact Nat.le_refl _)]) (by rw [List.length_map, wordsP]; omega)

end
end Go.EV

namespace Go.EV
open Go.Proofs

abbrev vu (n : Nat) : Value := .int .u32 n
abbrev Rel := List Nat
def hasR (r : Rel) (a b : Nat) : Bool := (r[a]?.getD 0).testBit b
def orR (r : Rel) (a m : Nat) : Rel := r.set a (r[a]?.getD 0 ||| m)
def putR (r : Rel) (a b : Nat) : Rel := orR r a (2 ^ b)
def closeRow (r : Rel) (k : Nat) : Nat → Rel
 | 0 => r
 | a + 1 => if hasR (closeRow r k a) a k then orR (closeRow r k a) a ((closeRow r k a)[k]?.getD 0) else closeRow r k a
def closeGo (r : Rel) : Nat → Rel
 | 0 => r
 | k + 1 => closeRow (closeGo r k) k r.length
def closeR (r : Rel) : Rel := closeGo r r.length
def circleR (r : Rel) : Bool := (List.range r.length).any fun a => hasR r a a

structure RelOk (n : Nat) (r : Rel) : Prop where
 len : r.length = n
 lt : ∀ a : Nat, r[a]?.getD 0 < 2 ^ n

theorem RelOk.or {n : Nat} {r : Rel} (h : RelOk n r) (a : Nat) {m : Nat} (hm : m < 2 ^ n) : RelOk n (orR r a m) := by
 refine ⟨by simp [orR, h.len], fun b => ?_⟩
 simp only [orR, List.getElem?_set]
 split
 ·split
  ·simp only [Option.getD_some]; exact Nat.or_lt_two_pow (h.lt a) hm
  ·simp only [Option.getD_none]; exact Nat.two_pow_pos n
 ·exact h.lt b

theorem RelOk.put {n : Nat} {r : Rel} (h : RelOk n r) (a : Nat) {b : Nat} (hb : b < n) : RelOk n (putR r a b) := h.or a (Nat.pow_lt_pow_right (by decide) hb)

theorem RelOk.zero (n : Nat) : RelOk n (List.replicate n 0) := by
 refine ⟨by simp, fun a => ?_⟩
 rw [List.getElem?_replicate]
 split <;> simp [Nat.two_pow_pos]

theorem RelOk.closeRow {n : Nat} {r : Rel} (h : RelOk n r) (k : Nat) : ∀ a, RelOk n (closeRow r k a)
 | 0 => h
 | a + 1 => by
  simp only [EV.closeRow]
  split
  ·exact (RelOk.closeRow h k a).or a ((RelOk.closeRow h k a).lt k)
  ·exact RelOk.closeRow h k a
theorem RelOk.closeGo {n : Nat} {r : Rel} (h : RelOk n r) : ∀ k, RelOk n (closeGo r k)
 | 0 => h
 | k + 1 => RelOk.closeRow (RelOk.closeGo h k) k _
theorem RelOk.close {n : Nat} {r : Rel} (h : RelOk n r) : RelOk n (closeR r) := RelOk.closeGo h _

/-! ### Words of 32 bits -/
theorem u32_of {x : Nat} (h : x < 2 ^ 32) : BitVec.ofInt IntKind.u32.bits (x : Int) = (BitVec.ofNat 32 x : BitVec IntKind.u32.bits) := BitVec.ofInt_natCast 32 x

theorem u32_wrap {x : Nat} (h : x < 2 ^ 32) : IntKind.u32.wrap (x : Int) = x := by
 have e : (2 : Int) ^ IntKind.u32.bits = 4294967296 := rfl
 have e3 : IntKind.u32.signed = false := rfl
 have h' : x < 4294967296 := h
 simp only [IntKind.wrap, e, e3, Bool.false_and]
 simp only [Bool.false_eq_true, if_false]
 omega

theorem u32_or {x y : Nat} (hx : x < 2 ^ 32) (hy : y < 2 ^ 32) : IntKind.u32.wrap ((BitVec.ofInt IntKind.u32.bits (x : Int) ||| BitVec.ofInt IntKind.u32.bits (y : Int)).toNat : Int) = ((x ||| y : Nat) : Int) := by
 rw [u32_of hx, u32_of hy]
 have e : (BitVec.ofNat 32 x ||| BitVec.ofNat 32 y).toNat = x ||| y := by
  rw [BitVec.toNat_or, BitVec.toNat_ofNat, BitVec.toNat_ofNat, Nat.mod_eq_of_lt hx, Nat.mod_eq_of_lt hy]
 show IntKind.u32.wrap ((BitVec.ofNat 32 x ||| BitVec.ofNat 32 y).toNat : Int) = _
 rw [e]
 exact u32_wrap (Nat.or_lt_two_pow hx hy)

theorem u32_shl {b : Nat} (hb : b < 32) : IntKind.u32.wrap (1 * 2 ^ min b IntKind.u32.bits) = ((2 ^ b : Nat) : Int) := by
 rw [show IntKind.u32.bits = 32 from rfl, Nat.min_eq_left (by omega), Int.one_mul]
 rw [show ((2 : Int) ^ b) = ((2 ^ b : Nat) : Int) from by simp]
 exact u32_wrap (Nat.pow_lt_pow_right (by decide) hb)

theorem u32_or2 {x b : Nat} (hx : x < 2 ^ 32) (hb : b < 32) : IntKind.u32.wrap ((BitVec.ofInt IntKind.u32.bits (x : Int) ||| BitVec.ofInt IntKind.u32.bits (2 ^ b)).toNat : Int) = ((x ||| 2 ^ b : Nat) : Int) := by
 have := u32_or (y := 2 ^ b) hx (Nat.pow_lt_pow_right (by decide) hb)
 rwa [show ((2 ^ b : Nat) : Int) = 2 ^ b from by simp] at this

theorem u32_bit {x b : Nat} (hx : x < 2 ^ 32) (hb : b < 32) : decide (IntKind.u32.wrap ((BitVec.ofInt IntKind.u32.bits ((x : Int).fdiv (2 ^ min b IntKind.u32.bits)) &&& BitVec.ofInt IntKind.u32.bits 1).toNat : Int) = 1) = x.testBit b := by
 have e0 : min b IntKind.u32.bits = b := Nat.min_eq_left (show b ≤ 32 by omega)
 rw [e0]
 have e1 : (x : Int).fdiv (2 ^ b) = ((x / 2 ^ b : Nat) : Int) := by
  rw [Int.fdiv_eq_ediv_of_nonneg _ (by exact_mod_cast Nat.zero_le _)]; simp
 have hd : x / 2 ^ b < 2 ^ 32 := Nat.lt_of_le_of_lt (Nat.div_le_self _ _) hx
 rw [e1, u32_of hd]
 have e : (BitVec.ofNat 32 (x / 2 ^ b) &&& BitVec.ofInt 32 1).toNat = (x / 2 ^ b) % 2 := by
  rw [BitVec.toNat_and, BitVec.toNat_ofNat, Nat.mod_eq_of_lt hd]
  show (x / 2 ^ b) &&& 1 = _
  exact Nat.and_one_is_mod _
 show decide (IntKind.u32.wrap ((BitVec.ofNat 32 (x / 2 ^ b) &&& BitVec.ofInt 32 1).toNat : Int) = 1) = _
 rw [e, u32_wrap (by omega)]
 rw [Nat.testBit_eq_decide_div_mod_eq]
 simp only [decide_eq_decide]
 omega

section
variable {M : PHeap}

theorem ax_relation_c (s : Value) (p : List Ev) (hs : Sl M 6 encEv s p) (hb : p.length ≤ 32) : Con Tryz.prog 136 #[s] M [] fun v _ G' => ∃ b, v = vrow b p.length p.length ∧ G' = [(b, Cl 144 ((List.replicate p.length 0).map vu))] := by
 obtain ⟨a, c, rfl, hrd⟩ := hs
 refine Con.enter Q31_ok (args := [.slice a p.length c]) (by simp [Q31]) fun w0 => ?_
 simp only [Q31, argE]
 repeat' first
   | refine EV.seq ?_
   | (refine EV.reg ?_; (conv => (arg 2; whnf)); simp only [wpS, wpA, wpQL, push_cast, Int.cast_ofNat_Int, reduceIte, Nat.reduceEqDiff, reduceCtorEq, Nat.reduceAdd, Nat.reduceSub, Nat.reduceMul, Int.reduceToNat, Nat.reduceLeDiff, flatten_rep])
   | (with_reducible intro b; try simp only [wpS, wpA, wpQL, push_cast, Int.cast_ofNat_Int, reduceIte, Nat.reduceEqDiff, reduceCtorEq, Nat.reduceAdd, Nat.reduceSub, Nat.reduceMul, Int.reduceToNat, Nat.reduceLeDiff, flatten_rep])
   | (refine And.intro (by omega) ?_)
   | fail
 refine EV.ret Q31_ok ?_
 simp only [wpS, wpA, wpQL, push_cast, Int.cast_ofNat_Int, reduceIte, Nat.reduceEqDiff, reduceCtorEq, Nat.reduceAdd, Nat.reduceSub, Nat.reduceMul, Int.reduceToNat, Nat.reduceLeDiff, Q31]
 exact ⟨b, rfl, by simp⟩

theorem ax_has_q {b n a j c x : Nat} (h : rd M b a 1 [vu x]) (ha : a < n) (hn : n < 1000000) (hj : j < 32) (hx : x < 2 ^ 32) : ConQ Tryz.prog 68 #[vrow b n c, vi a, vi j] M (vb (x.testBit j)) := by
 refine Con.enter Q39_ok (args := [vrow b n c, vi a, vi j]) (by simp [Q39]) fun w0 => ?_
 simp only [Q39, argE]
 have ha' : (a : Int) < n := by omega
 have hjn : ¬ ((j : Int) < 0) := by omega
 repeat' first
   | refine EV.seq ?_
   | (refine EV.reg ?_; (conv => (arg 2; whnf)); simp only [wpS, wpA, wpQL, push_cast, Int.cast_ofNat_Int, reduceIte, Nat.reduceEqDiff, reduceCtorEq, Nat.reduceAdd, Nat.reduceSub, Nat.reduceMul, Int.reduceToNat, Nat.reduceLeDiff, hjn])
   | (refine EV.ret Q39_ok ?_; simp only [wpS, wpA, wpQL, push_cast, Int.cast_ofNat_Int, reduceIte, Nat.reduceEqDiff, reduceCtorEq, Nat.reduceAdd, Nat.reduceSub, Nat.reduceMul, Int.reduceToNat, Nat.reduceLeDiff, hjn, Q39])
   | (refine And.intro (by omega) ?_)
   | (refine Exists.intro _ (And.intro (rd_M (by assumption)) ?_); try simp only [wpS, wpA, wpQL, push_cast, Int.cast_ofNat_Int, reduceIte, Nat.reduceEqDiff, reduceCtorEq, Nat.reduceAdd, Nat.reduceSub, Nat.reduceMul, Int.reduceToNat, Nat.reduceLeDiff, hjn])
   | fail
 rw [u32_bit hx hj]

theorem ax_put_c {b n a j c : Nat} {r : Rel} (hr : RelOk n r) (hn : n ≤ 32) (ha : a < n) (hj : j < n) : Con Tryz.prog 121 #[vrow b n c, vi a, vi j] M [(b, Cl 144 (r.map vu))] fun _ _ G' => G' = [(b, Cl 144 ((putR r a j).map vu))] := by
 refine Con.enter Q40_ok (args := [vrow b n c, vi a, vi j]) (by simp [Q40]) fun w0 => ?_
 simp only [Q40, argE]
 have ha' : (a : Int) < n := by omega
 have hjn : ¬ ((j : Int) < 0) := by omega
 have hal : a < r.length := by rw [hr.len]; exact ha
 have hx : r[a] < 2 ^ 32 := by
  have := hr.lt a
  rw [List.getElem?_eq_getElem hal] at this
  exact Nat.lt_of_lt_of_le this (Nat.pow_le_pow_right (by decide) hn)
 have h2 : 2 ^ j < 2 ^ 32 := Nat.pow_lt_pow_right (by decide) (by omega)
 repeat' first
   | (refine EV.any _ (List.Sublist.refl _) ?_; (conv => (arg 2; whnf)); simp only [wpS, wpA, wpQL, push_cast, Int.cast_ofNat_Int, reduceIte, Nat.reduceEqDiff, reduceCtorEq, Nat.reduceAdd, Nat.reduceSub, Nat.reduceMul, Int.reduceToNat, Nat.reduceLeDiff, hjn, row_st, hal, ha, List.length_map, hr.len, u32_shl (show j < 32 by omega), u32_or2 hx (show j < 32 by omega)])
   | (refine Exists.intro _ (And.intro (rowAt (f := vu) hal) ?_); try simp only [wpS, wpA, wpQL, push_cast, Int.cast_ofNat_Int, reduceIte, Nat.reduceEqDiff, reduceCtorEq, Nat.reduceAdd, Nat.reduceSub, Nat.reduceMul, Int.reduceToNat, Nat.reduceLeDiff, hjn, row_st, hal, ha, List.length_map, hr.len, u32_shl (show j < 32 by omega), u32_or2 hx (show j < 32 by omega)])
   | (refine And.intro (by omega) ?_)
   | (refine xw ?_; simp only [wpS, wpA, wpQL, push_cast, Int.cast_ofNat_Int, reduceIte, Nat.reduceEqDiff, reduceCtorEq, Nat.reduceAdd, Nat.reduceSub, Nat.reduceMul, Int.reduceToNat, Nat.reduceLeDiff, hjn, row_st, hal, ha, List.length_map, hr.len, u32_shl (show j < 32 by omega), u32_or2 hx (show j < 32 by omega)])
   | fail
 refine EV.done Q40_ok ?_
 simp only [wpS, wpA, wpQL, push_cast, Int.cast_ofNat_Int, reduceIte, Nat.reduceEqDiff, reduceCtorEq, Nat.reduceAdd, Nat.reduceSub, Nat.reduceMul, Int.reduceToNat, Nat.reduceLeDiff, Q40]
 simp only [putR, orR, List.getElem?_eq_getElem hal, Option.getD_some]

theorem ax_putI_c {b n c : Nat} {a j : Int} {r : Rel} (hr : RelOk n r) (hn : n ≤ 32) (ha0 : 0 ≤ a) (ha : a < n) (hj0 : 0 ≤ j) (hj : j < n) : Con Tryz.prog 121 #[vrow b n c, vi a, vi j] M [(b, Cl 144 (r.map vu))] fun _ _ G' => G' = [(b, Cl 144 ((putR r a.toNat j.toNat).map vu))] := by
 obtain ⟨a', rfl⟩ := Int.eq_ofNat_of_zero_le ha0
 obtain ⟨j', rfl⟩ := Int.eq_ofNat_of_zero_le hj0
 simp only [Int.toNat_natCast]
 exact ax_put_c hr hn (by omega) (by omega)

theorem RelOk.at {n : Nat} {r : Rel} (h : RelOk n r) (hn : n ≤ 32) (a : Nat) : r[a]?.getD 0 < 2 ^ 32 := Nat.lt_of_lt_of_le (h.lt a) (Nat.pow_le_pow_right (by decide) hn)
theorem RelOk.get {n : Nat} {r : Rel} (h : RelOk n r) {a : Nat} (ha : a < n) : ∃ h' : a < r.length, r[a]?.getD 0 = r[a] := by
 have h' : a < r.length := by rw [h.len]; exact ha
 exact ⟨h', by rw [List.getElem?_eq_getElem h']; rfl⟩

theorem ax_close_c {b n c : Nat} {r : Rel} (hr : RelOk n r) (hn : n ≤ 32) : Con Tryz.prog 106 #[vrow b n c] M [(b, Cl 144 (r.map vu))] fun v _ G' => v = vrow b n c ∧ G' = [(b, Cl 144 ((closeR r).map vu))] := by
 refine Con.enter Q38_ok (args := [vrow b n c]) (by simp [Q38]) fun w0 => ?_
 simp only [Q38, argE]
 repeat' first
   | refine EV.seq ?_
   | refine EV.block ?_
   | (refine EV.reg ?_; (conv => (arg 2; whnf)); (refine nx ?_; try with_reducible exact ⟨⟩))
   | fail
 refine EV.loopTo (fun k : Nat => ([(0, vrow b n c), (6, vi n), (7, vi k)], M, [(b, Cl 144 ((closeGo r k).map vu))])) (fun k => k ≤ n) (fun k => n - k) 0 rfl (Nat.zero_le _) ?env1 (List.Sublist.refl _) ?_
 case env1 =>
  repeat' first
   | (refine List.forall_mem_cons.2 (And.intro ?_ ?_))
   | (intro _ hnil; cases hnil; done)
   | rfl
   | fail
 intro k hk ih
 dsimp only at hk ih ⊢
 have hrk := RelOk.closeGo hr k
 repeat' first
   | refine EV.seq ?_
   | refine EV.skip ?_
   | refine EV.block ?_
   | (refine EV.reg ?_; (conv => (arg 2; whnf)); (refine nx ?_; try with_reducible exact ⟨⟩))
   | (refine EV.condX rfl (fun h => ?_) (fun h => ?_) <;> try exact dead h)
   | (refine EV.exit rfl ?_)
   | fail
 ·refine EV.loopTo (fun a : Nat => ([(0, vrow b n c), (3, vi k), (6, vi n), (7, vi k), (11, vi n), (12, vi a)], M, [(b, Cl 144 ((closeRow (closeGo r k) k a).map vu))])) (fun a => a ≤ n) (fun a => n - a) 0 rfl (Nat.zero_le _) ?env2 (List.Sublist.refl _) ?_
  case env2 =>
   repeat' first
    | (refine List.forall_mem_cons.2 (And.intro ?_ ?_))
    | (intro _ hnil; cases hnil; done)
    | rfl
    | fail
  intro a ha ih2
  dsimp only at ha ih2 ⊢
  have hra := RelOk.closeRow hrk k a
  repeat' first
    | refine EV.seq ?_
    | refine EV.skip ?_
    | refine EV.block ?_
    | refine EV.inBlock ?_
    | (refine EV.reg ?_; (conv => (arg 2; whnf)); (refine nx ?_; try with_reducible exact ⟨⟩))
    | (refine EV.condX rfl (fun h => ?_) (fun h => ?_) <;> try exact dead h)
    | (refine EV.exit rfl ?_)
    | fail
  ·have ha' : a < n := by omega
   have hk' : k < n := by omega
   have ih3 := ih2 (a + 1) (by omega) (by omega)
   have hs : closeRow (closeGo r k) k (a + 1) = if hasR (closeRow (closeGo r k) k a) a k then orR (closeRow (closeGo r k) k a) a ((closeRow (closeGo r k) k a)[k]?.getD 0) else closeRow (closeGo r k) k a := rfl
   rw [hs] at ih3
   clear hs ih ih2
   generalize closeRow (closeGo r k) k a = q at *
   obtain ⟨hal, ea⟩ := hra.get ha'
   obtain ⟨hkl, ek⟩ := hra.get hk'
   have hxa := hra.at (by omega) a
   have hxk := hra.at (by omega) k
   simp only [hasR, orR, ea, ek] at ih3 hxa hxk
   have hqn := hra.len
   repeat' first
     | refine EV.skip ?_
     | refine EV.inBlock ?_
     | ((first | refine EV.reg ?_ | refine EV.any _ (List.Sublist.refl _) ?_ | fail); (conv => (arg 2; whnf)); simp only [wpS, wpA, wpQL, push_cast, Int.cast_ofNat_Int, reduceIte, Nat.reduceEqDiff, reduceCtorEq, Nat.reduceAdd, Nat.reduceSub, Nat.reduceMul, Int.reduceToNat, Nat.reduceLeDiff, row_st, ha', List.length_map, u32_or hxa hxk, hqn])
     | ((first | refine Exists.intro _ (And.intro (rowAt (f := vu) hkl) ?_) | refine Exists.intro _ (And.intro (rowAt (f := vu) hal) ?_) | refine ConQ.call (ax_has_q (j := k) (rowAt (f := vu) hal) ha' (by omega) (by omega) hxa) ?_ | fail); try simp only [wpS, wpA, wpQL, push_cast, Int.cast_ofNat_Int, reduceIte, Nat.reduceEqDiff, reduceCtorEq, Nat.reduceAdd, Nat.reduceSub, Nat.reduceMul, Int.reduceToNat, Nat.reduceLeDiff, row_st, ha', List.length_map, u32_or hxa hxk, hqn])
     | (refine EV.condX rfl (fun h => ?_) (fun h => ?_) <;> try exact dead h)
     | (refine And.intro (by omega) ?_)
     | (refine xw ?_; simp only [wpS, wpA, wpQL, push_cast, Int.cast_ofNat_Int, reduceIte, Nat.reduceEqDiff, reduceCtorEq, Nat.reduceAdd, Nat.reduceSub, Nat.reduceMul, Int.reduceToNat, Nat.reduceLeDiff, row_st, ha', List.length_map, u32_or hxa hxk, hqn])
     | fail
   ·rw [if_pos (by assumption)] at ih3
    refine EV.toS ih3 ?_
    repeat' first
     | (refine List.forall_mem_cons.2 (And.intro ?_ ?_))
     | (intro _ hnil; cases hnil; done)
     | rfl
     | (refine env_w64 rfl (by first | rfl | (push_cast; first | rfl | omega)) (by omega) (by omega); done)
     | fail
   ·rw [if_neg (by simp_all)] at ih3
    refine EV.toS ih3 ?_
    repeat' first
     | (refine List.forall_mem_cons.2 (And.intro ?_ ?_))
     | (intro _ hnil; cases hnil; done)
     | rfl
     | (refine env_w64 rfl (by first | rfl | (push_cast; first | rfl | omega)) (by omega) (by omega); done)
     | fail
  ·have hi2 : a = n := by omega
   subst hi2
   have ih3 := ih (k + 1) (by omega) (by omega)
   have e : closeGo r (k + 1) = closeRow (closeGo r k) k a := by rw [closeGo, hr.len]
   rw [e] at ih3
   refine EV.toS ih3 ?_
   repeat' first
    | (refine List.forall_mem_cons.2 (And.intro ?_ ?_))
    | (intro _ hnil; cases hnil; done)
    | rfl
    | (refine env_w64 rfl (by first | rfl | (push_cast; first | rfl | omega)) (by omega) (by omega); done)
    | fail
 ·have hi2 : k = n := by omega
  subst hi2
  refine EV.ret Q38_ok ?_
  simp only [wpS, wpA, wpQL, push_cast, Int.cast_ofNat_Int, reduceIte, Nat.reduceEqDiff, reduceCtorEq, Nat.reduceAdd, Nat.reduceSub, Nat.reduceMul, Int.reduceToNat, Nat.reduceLeDiff, Q38]
  simp only [closeR, hr.len]

theorem circle_no {r : Rel} {i : Nat} (h : ∀ a, a < i → hasR r a a = false) (hi : r.length ≤ i) : circleR r = false := by
 simp only [circleR, List.any_eq_false, List.mem_range]
 intro a ha
 rw [h a (by omega)]; simp

theorem ax_circle_q {b n c : Nat} {r : Rel} (hr : RelOk n r) (hn : n ≤ 32) (hrw : rd M b 0 n (r.map vu)) : ConQ Tryz.prog 122 #[vrow b n c] M (vb (circleR r)) := by
 refine Con.enter Q37_ok (args := [vrow b n c]) (by simp [Q37]) fun w0 => ?_
 simp only [Q37, argE]
 repeat' first
   | refine EV.seq ?_
   | refine EV.block ?_
   | (refine EV.reg ?_; (conv => (arg 2; whnf)); (refine nx ?_; try with_reducible exact ⟨⟩))
   | fail
 refine EV.loopTo (fun k : Nat => ([(0, vrow b n c), (5, vi n), (6, vi k)], M, [])) (fun k => k ≤ n ∧ ∀ a, a < k → hasR r a a = false) (fun k => n - k) 0 rfl ⟨Nat.zero_le _, fun a ha => absurd ha (Nat.not_lt_zero _)⟩ ?env1 (List.Sublist.refl _) ?_
 case env1 =>
  repeat' first
   | (refine List.forall_mem_cons.2 (And.intro ?_ ?_))
   | (intro _ hnil; cases hnil; done)
   | rfl
   | fail
 rintro k ⟨hk, hno⟩ ih
 dsimp only at hk hno ih ⊢
 repeat' first
   | refine EV.seq ?_
   | refine EV.skip ?_
   | refine EV.block ?_
   | (refine EV.reg ?_; (conv => (arg 2; whnf)); (refine nx ?_; try with_reducible exact ⟨⟩))
   | (refine EV.condX rfl (fun h => ?_) (fun h => ?_) <;> try exact dead h)
   | (refine EV.exit rfl ?_)
   | fail
 ·have hk' : k < n := by omega
  obtain ⟨hkl, ek⟩ := hr.get hk'
  have hxk := hr.at (by omega) k
  have hq : rd M b k 1 [vu r[k]] := by
   have := hrw.pt k 1 (by omega) (row_part vu r hkl)
   rwa [Nat.zero_add] at this
  rw [ek] at hxk
  repeat' first
    | refine EV.seq ?_
    | refine EV.skip ?_
    | refine EV.inBlock ?_
    | (refine EV.reg ?_; (conv => (arg 2; whnf)); (refine nx ?_; try with_reducible exact ⟨⟩))
    | (refine ConQ.call (ax_has_q (j := k) (rd_M hq) hk' (by omega) (by omega) hxk) ?_; try (refine nx ?_; try with_reducible exact ⟨⟩))
    | (refine EV.condX rfl (fun h => ?_) (fun h => ?_) <;> try exact dead h)
    | fail
  ·refine EV.ret Q37_ok ?_
   simp only [wpS, wpA, wpQL, push_cast, Int.cast_ofNat_Int, reduceIte, Nat.reduceEqDiff, reduceCtorEq, Nat.reduceAdd, Nat.reduceSub, Nat.reduceMul, Int.reduceToNat, Nat.reduceLeDiff, Q37]
   have : circleR r = true := by
    simp only [circleR, List.any_eq_true, List.mem_range]
    exact ⟨k, hkl, by simp only [hasR, ek]; assumption⟩
   rw [this]
  ·refine EV.toS (ih (k + 1) ⟨by omega, fun a ha => ?_⟩ (by omega)) ?_
   ·by_cases e : a = k
    ·subst e; simp only [hasR, ek]; assumption
    ·exact hno a (by omega)
   ·repeat' first
     | (refine List.forall_mem_cons.2 (And.intro ?_ ?_))
     | (intro _ hnil; cases hnil; done)
     | rfl
     | (refine env_w64 rfl (by first | rfl | (push_cast; first | rfl | omega)) (by omega) (by omega); done)
     | fail
 ·refine EV.ret Q37_ok ?_
  simp only [wpS, wpA, wpQL, push_cast, Int.cast_ofNat_Int, reduceIte, Nat.reduceEqDiff, reduceCtorEq, Nat.reduceAdd, Nat.reduceSub, Nat.reduceMul, Int.reduceToNat, Nat.reduceLeDiff, Q37]
  rw [circle_no hno (by rw [hr.len]; omega)]

end
end Go.EV

namespace Go.EV
open Go.Proofs

def OrdOk (p : List Ev) : Prop := ∀ i, i < p.length → isOrderP (evAt p i).op.ord = true

def startsGo (p : List Ev) (w : Nat) : Nat → Nat → Nat
 | 0, s => s
 | a + 1, s => if (evAt p a).th = (evAt p w).th then startsGo p w a (if (evAt p a).op.kind = 5 ∧ (evAt p a).rel = true then s ||| 2 ^ a else s) else s
def startsP (p : List Ev) (w : Nat) : Nat := startsGo p w w (if (evAt p w).rel then 2 ^ w else 0)
def endsGo (p : List Ev) (r : Nat) : Nat → Nat → Nat → Nat
 | 0, _, s => s
 | f + 1, b, s => if (evAt p b).th = (evAt p r).th then endsGo p r f (b + 1) (if (evAt p b).op.kind = 5 ∧ (evAt p b).acq = true then s ||| 2 ^ b else s) else s
def endsP (p : List Ev) (r : Nat) : Nat := endsGo p r (p.length - (r + 1)) (r + 1) (if (evAt p r).acq then 2 ^ r else 0)

theorem startsGo_lt {p : List Ev} {w n : Nat} : ∀ (a s : Nat), a ≤ n → s < 2 ^ n → startsGo p w a s < 2 ^ n
 | 0, s, _, h => h
 | a + 1, s, ha, h => by
  simp only [startsGo]
  split
  ·refine startsGo_lt a _ (by omega) ?_
   split
   ·exact Nat.or_lt_two_pow h (Nat.pow_lt_pow_right (by decide) (by omega))
   ·exact h
  ·exact h
theorem startsP_lt {p : List Ev} {w : Nat} (hw : w < p.length) : startsP p w < 2 ^ p.length := by
 refine startsGo_lt _ _ (by omega) ?_
 split
 ·exact Nat.pow_lt_pow_right (by decide) hw
 ·exact Nat.two_pow_pos _
theorem endsGo_lt {p : List Ev} {r n : Nat} : ∀ (f b s : Nat), b + f ≤ n → s < 2 ^ n → endsGo p r f b s < 2 ^ n
 | 0, _, s, _, h => h
 | f + 1, b, s, hb, h => by
  simp only [endsGo]
  split
  ·refine endsGo_lt f _ _ (by omega) ?_
   split
   ·exact Nat.or_lt_two_pow h (Nat.pow_lt_pow_right (by decide) (by omega))
   ·exact h
  ·exact h
theorem endsP_lt {p : List Ev} {r : Nat} (hr : r < p.length) : endsP p r < 2 ^ p.length := by
 refine endsGo_lt _ _ _ (by omega) ?_
 split
 ·exact Nat.pow_lt_pow_right (by decide) hr
 ·exact Nat.two_pow_pos _

theorem pow32 {s n : Nat} (h : s < 2 ^ n) (hn : n ≤ 32) : s < 2 ^ 32 := Nat.lt_of_lt_of_le h (Nat.pow_le_pow_right (by decide) hn)

def stepsA (p : List Ev) : Nat → Rel
 | 0 => List.replicate p.length 0
 | i + 1 => if (evAt p (i + 1)).th = (evAt p i).th then putR (stepsA p i) i (i + 1) else stepsA p i
def stepsB (r : Rel) (fen : List Int) : Nat → Rel
 | 0 => r
 | k + 1 => putR (stepsB r fen k) (fen[k]?.getD 0).toNat (fen[k + 1]?.getD 0).toNat
def stepsP (p : List Ev) (fen : List Int) : Rel := stepsB (stepsA p (p.length - 1)) fen (fen.length - 1)

/-- The numbers are those of events. -/
def InEv (p : List Ev) (l : List Int) : Prop := ∀ x ∈ l, 0 ≤ x ∧ x < p.length

theorem InEv.at {p : List Ev} {l : List Int} (h : InEv p l) {k : Nat} (hk : k < l.length) : 0 ≤ l[k]?.getD 0 ∧ l[k]?.getD 0 < p.length := by
 rw [List.getElem?_eq_getElem hk]; exact h _ (List.getElem_mem hk)

theorem stepsA_ok (p : List Ev) : ∀ i, i ≤ p.length - 1 → RelOk p.length (stepsA p i)
 | 0, _ => RelOk.zero _
 | i + 1, h => by
  simp only [stepsA]
  split
  ·exact (stepsA_ok p i (by omega)).put i (by omega)
  ·exact stepsA_ok p i (by omega)
theorem stepsB_ok {p : List Ev} {r : Rel} (hr : RelOk p.length r) {fen : List Int} (hf : InEv p fen) : ∀ k, k ≤ fen.length - 1 → RelOk p.length (stepsB r fen k)
 | 0, _ => hr
 | k + 1, h => by
  have := hf.at (k := k + 1) (by omega)
  exact (stepsB_ok hr hf k (by omega)).put _ (by omega)
theorem stepsP_ok {p : List Ev} {fen : List Int} (hf : InEv p fen) : RelOk p.length (stepsP p fen) := stepsB_ok (stepsA_ok p _ (Nat.le_refl _)) hf _ (Nat.le_refl _)

section
variable {M : PHeap}

theorem ax_exchanged_q (p : List Ev) (s : Value) (hs : Sl M 6 encEv s p) (hb : p.length < 1000000) (f d o n : Value) (dn : List Bool) (hd : Sl M 1 eb d dn) (w : Nat) (hw : w < p.length) (hl : dn.length = p.length) :
  ConQ Tryz.prog 104 #[s, .agg #[f, d, o, n], vi w] M (vb ((evAt p w).reads && (dn[w]?.getD false))) := by
 obtain ⟨a, c, rfl, hrd⟩ := hs
 obtain ⟨da, dc, rfl, hrd2⟩ := hd
 obtain ⟨pb, po, rfl, hat⟩ := Sl.at (enc := encEv) (fun _ => rfl) (by decide) hrd (by omega)
 obtain ⟨db, do', rfl, hat2⟩ := Sl.at (sz := 1) (enc := eb) (fun _ => rfl) (by decide) hrd2 (by omega)
 have hpw := Sl.evAt hat w hw
 have hdw : rd M db (do' + w) 1 [vb (dn[w]?.getD false)] := by
  have := hat2 w (by omega)
  rw [Nat.mul_one] at this
  rwa [List.getElem?_eq_getElem (by omega : w < dn.length)]
 have hw1 : (w : Int) < p.length := by omega
 have hw2 : (w : Int) < dn.length := by omega
 refine Con.enter Q15_ok (args := [.slice (some ⟨pb, po, none⟩) p.length c, .agg #[f, .slice (some ⟨db, do', none⟩) dn.length dc, o, n], vi w]) (by simp [Q15]) fun w0 => ?_
 simp only [Q15, argE]
 repeat' first
   | refine EV.seq ?_
   | (refine EV.reg ?_; (conv => (arg 2; whnf)); (refine nx ?_; try with_reducible exact ⟨⟩))
   | (refine ConQ.call (ax_reads_q (evAt p w)) ?_; try (refine nx ?_; try with_reducible exact ⟨⟩))
   | with_reducible assumption
   | (refine condW.merge ?_ (fun hc K' hK => ?_) ?_; rotate_left)
   | (refine EV.ret Q15_ok ?_; simp only [wpS, wpA, wpQL, push_cast, Int.cast_ofNat_Int, reduceIte, Nat.reduceEqDiff, reduceCtorEq, Nat.reduceAdd, Nat.reduceSub, Nat.reduceMul, Int.reduceToNat, Nat.reduceLeDiff, Q15])
   | (with_reducible intro b; try (refine nx ?_; try with_reducible exact ⟨⟩))
   | (refine And.intro (by omega) ?_)
   | ((first | refine Exists.intro _ (And.intro (rd_M (by assumption)) ?_) | refine xsA rfl ?_ | fail); try (refine nx ?_; try with_reducible exact ⟨⟩))
   | fail
 all_goals simp_all

theorem ax_starts_q (p : List Ev) (s : Value) (hs : Sl M 6 encEv s p) (hb : p.length ≤ 32) (ho : OrdOk p) (w : Nat) (hw : w < p.length) :
  ConQ Tryz.prog 103 #[s, vi w] M (vu (startsP p w)) := by
 obtain ⟨a, c, rfl, hrd⟩ := hs
 obtain ⟨pb, po, rfl, hat⟩ := Sl.at (enc := encEv) (fun _ => rfl) (by decide) hrd (by omega)
 have hat := Sl.evAt hat
 have hpw := hat w hw
 have hpw5 := hpw.pt 5 1 (by omega) rfl
 have hw1 : (w : Int) < p.length := by omega
 have hwn : ¬ ((w : Int) < 0) := by omega
 refine Con.enter Q32_ok (args := [.slice (some ⟨pb, po, none⟩) p.length c, vi w]) (by simp [Q32]) fun w0 => ?_
 simp only [Q32, argE]
 refine EV.seq (EV.reg ?_)
 simp only [wpS, wpA, wpQL, push_cast, Int.cast_ofNat_Int, reduceIte, Nat.reduceEqDiff, reduceCtorEq, Nat.reduceAdd, Nat.reduceSub, Nat.reduceMul, Int.reduceToNat, Nat.reduceLeDiff, Q32_0]
 refine EV.seq (EV.reg ?_)
 simp only [wpS, wpA, wpQL, push_cast, Int.cast_ofNat_Int, reduceIte, Nat.reduceEqDiff, reduceCtorEq, Nat.reduceAdd, Nat.reduceSub, Nat.reduceMul, Int.reduceToNat, Nat.reduceLeDiff, Q32_1]
 refine EV.seq (EV.thru (fun ρ' M' G' => M' = M ∧ (∀ q ∈ [(0, .slice (some ⟨pb, po, none⟩) p.length c), (1, vi w), (5, vu (if (evAt p w).rel then 2 ^ w else 0))], get ρ' q.1 = some q.2) ∧ G' = []) ?_ ?_)
 ·intro k' key
  have h0 : IntKind.u32.wrap ((BitVec.ofInt IntKind.u32.bits (0 : Int) ||| BitVec.ofInt IntKind.u32.bits (2 ^ w)).toNat : Int) = ((2 ^ w : Nat) : Int) := by
   have := u32_or2 (x := 0) (b := w) (by decide) (by omega)
   simpa using this
  repeat' first
    | refine EV.seq ?_
    | refine EV.skip ?_
    | (refine EV.reg ?_; (conv => (arg 2; whnf)); simp only [wpS, wpA, wpQL, push_cast, Int.cast_ofNat_Int, reduceIte, Nat.reduceEqDiff, reduceCtorEq, Nat.reduceAdd, Nat.reduceSub, Nat.reduceMul, Int.reduceToNat, Nat.reduceLeDiff, hwn, u32_shl (show w < 32 by omega), h0])
    | (refine ConQ.call (ax_rel_q (evAt p w) (ho w hw)) ?_; try simp only [wpS, wpA, wpQL, push_cast, Int.cast_ofNat_Int, reduceIte, Nat.reduceEqDiff, reduceCtorEq, Nat.reduceAdd, Nat.reduceSub, Nat.reduceMul, Int.reduceToNat, Nat.reduceLeDiff, hwn, u32_shl (show w < 32 by omega), h0])
    | (refine EV.condX rfl (fun h => ?_) (fun h => ?_) <;> try exact dead h)
    | (refine And.intro (by omega) ?_)
    | (refine Exists.intro _ (And.intro (rd_M (by assumption)) ?_); try simp only [wpS, wpA, wpQL, push_cast, Int.cast_ofNat_Int, reduceIte, Nat.reduceEqDiff, reduceCtorEq, Nat.reduceAdd, Nat.reduceSub, Nat.reduceMul, Int.reduceToNat, Nat.reduceLeDiff, hwn, u32_shl (show w < 32 by omega), h0])
    | fail
  all_goals
   refine key _ _ _ ⟨rfl, ?_, rfl⟩
   simp only [*, Bool.false_eq_true, if_true, if_false]
   repeat' first
    | (refine List.forall_mem_cons.2 (And.intro ?_ ?_))
    | (intro _ hnil; cases hnil; done)
    | rfl
    | fail
 rintro ρ2 M2 G2 ⟨rfl, hq, rfl⟩
 refine EV.to (G' := []) ?_ hq (List.Sublist.refl _)
 clear hq
 generalize hs0 : (if (evAt p w).rel then 2 ^ w else 0) = s0
 have hs0l : s0 < 2 ^ p.length := by
  rw [← hs0]; split
  ·exact Nat.pow_lt_pow_right (by decide) hw
  ·exact Nat.two_pow_pos _
 have hww : IntKind.i64.wrap ((w : Int) - 1) = (w : Int) - 1 := w64 (by omega) (by omega)
 repeat' first
   | refine EV.seq ?_
   | refine EV.block ?_
   | (refine EV.reg ?_; (conv => (arg 2; whnf)); simp only [wpS, wpA, wpQL, push_cast, Int.cast_ofNat_Int, reduceIte, Nat.reduceEqDiff, reduceCtorEq, Nat.reduceAdd, Nat.reduceSub, Nat.reduceMul, Int.reduceToNat, Nat.reduceLeDiff, hww])
   | fail
 refine EV.loopTo (fun x : Nat × Nat => ([(0, .slice (some ⟨pb, po, none⟩) p.length c), (1, vi w), (5, vu x.2), (6, vi ((x.1 : Int) - 1))], M2, [])) (fun x => x.1 ≤ w ∧ x.2 < 2 ^ p.length ∧ startsGo p w x.1 x.2 = startsP p w) (fun x => x.1) (w, s0) rfl ⟨Nat.le_refl _, hs0l, by rw [← hs0]; rfl⟩ ?env1 (List.Sublist.refl _) ?_
 case env1 =>
  repeat' first
   | (refine List.forall_mem_cons.2 (And.intro ?_ ?_))
   | (intro _ hnil; cases hnil; done)
   | rfl
   | fail
 rintro ⟨x, s⟩ ⟨hx, hsl, hst⟩ ih
 dsimp only at hx hsl hst ih ⊢
 cases x with
 | zero =>
  have e0 : decide (0 ≤ ((0 : Nat) : Int) - 1) = false := by decide
  repeat' first
    | refine EV.seq ?_
    | ((first | refine EV.reg ?_ | refine EV.any _ (List.Sublist.refl _) ?_ | fail); (conv => (arg 2; whnf)); simp only [wpS, wpA, wpQL, push_cast, Int.cast_ofNat_Int, reduceIte, Nat.reduceEqDiff, reduceCtorEq, Nat.reduceAdd, Nat.reduceSub, Nat.reduceMul, Int.reduceToNat, Nat.reduceLeDiff, e0])
    | (refine condQ.mk ?_ (fun hc => ?_) ?_; rotate_left; (try simp only [decide_eq_true_eq, decide_eq_false_iff_not, Bool.not_eq_true', Bool.not_eq_false', Bool.and_eq_true, Bool.or_eq_true, Bool.and_eq_false_iff, Bool.or_eq_false_iff] at hc))
    | (refine EV.condX rfl (fun h => ?_) (fun h => ?_) <;> try exact dead h)
    | (refine EV.exit rfl ?_)
    | (refine And.intro (by omega) ?_)
    | (exfalso; simp at hc; done)
    | exact false
    | fail
  refine EV.ret Q32_ok ?_
  simp only [wpS, wpA, wpQL, push_cast, Int.cast_ofNat_Int, reduceIte, Nat.reduceEqDiff, reduceCtorEq, Nat.reduceAdd, Nat.reduceSub, Nat.reduceMul, Int.reduceToNat, Nat.reduceLeDiff, Q32]
  rw [← hst]; rfl
 | succ a =>
  have ea : ((a + 1 : Nat) : Int) - 1 = a := by omega
  have hge : decide ((a : Int) ≥ 0) = true := by simp
  have hge2 : decide (0 ≤ (a : Int)) = true := by simp
  have hpa := hat a (by omega)
  have hpa5 := hpa.pt 5 1 (by omega) rfl
  have hpa0 := hpa.pt 0 1 (by omega) rfl
  have ha1 : (a : Int) < p.length := by omega
  have han : ¬ ((a : Int) < 0) := by omega
  have ew : IntKind.i64.wrap ((a : Int) - 1) = (a : Int) - 1 := w64 (by omega) (by omega)
  have hor := u32_or2 (x := s) (b := a) (pow32 hsl hb) (by omega)
  rw [ea]
  simp only [startsGo] at hst
  repeat' first
    | refine EV.seq ?_
    | refine EV.skip ?_
    | refine EV.block ?_
    | refine EV.inBlock ?_
    | ((first | refine EV.reg ?_ | refine EV.any _ (List.Sublist.refl _) ?_ | fail); (conv => (arg 2; whnf)); simp only [wpS, wpA, wpQL, push_cast, Int.cast_ofNat_Int, reduceIte, Nat.reduceEqDiff, reduceCtorEq, Nat.reduceAdd, Nat.reduceSub, Nat.reduceMul, Int.reduceToNat, Nat.reduceLeDiff, hge, hge2, han, u32_shl (show a < 32 by omega), hor, ew])
    | (refine ConQ.call (ax_rel_q (evAt p a) (ho a (by omega))) ?_; try simp only [wpS, wpA, wpQL, push_cast, Int.cast_ofNat_Int, reduceIte, Nat.reduceEqDiff, reduceCtorEq, Nat.reduceAdd, Nat.reduceSub, Nat.reduceMul, Int.reduceToNat, Nat.reduceLeDiff, hge, hge2, han, u32_shl (show a < 32 by omega), hor, ew])
    | with_reducible assumption
    | (refine condW.merge ?_ (fun hc K' hK => ?_) ?_; rotate_left)
    | (refine condQ.mk ?_ (fun hc => ?_) ?_; rotate_left; (try simp only [decide_eq_true_eq, decide_eq_false_iff_not, Bool.not_eq_true', Bool.not_eq_false', Bool.and_eq_true, Bool.or_eq_true, Bool.and_eq_false_iff, Bool.or_eq_false_iff] at hc))
    | (with_reducible rfl)
    | (refine EV.condX rfl (fun h => ?_) (fun h => ?_) <;> try exact dead h)
    | (refine EV.exit rfl ?_)
    | (refine And.intro (by omega) ?_)
    | (refine Exists.intro _ (And.intro (rd_M (by assumption)) ?_); try simp only [wpS, wpA, wpQL, push_cast, Int.cast_ofNat_Int, reduceIte, Nat.reduceEqDiff, reduceCtorEq, Nat.reduceAdd, Nat.reduceSub, Nat.reduceMul, Int.reduceToNat, Nat.reduceLeDiff, hge, hge2, han, u32_shl (show a < 32 by omega), hor, ew])
    | fail
  ·rw [if_pos (by simp_all), if_pos (by simp_all)] at hst
   refine EV.to (ih (a, s ||| 2 ^ a) ⟨by dsimp only; omega, Nat.or_lt_two_pow hsl (Nat.pow_lt_pow_right (by decide) (by omega)), hst⟩ (by dsimp only; omega)) ?_ (List.Sublist.refl _)
   repeat' first
    | (refine List.forall_mem_cons.2 (And.intro ?_ ?_))
    | (intro _ hnil; cases hnil; done)
    | rfl
    | fail
  ·rw [if_pos (by simp_all), if_neg (by grind)] at hst
   refine EV.to (ih (a, s) ⟨by dsimp only; omega, hsl, hst⟩ (by dsimp only; omega)) ?_ (List.Sublist.refl _)
   repeat' first
    | (refine List.forall_mem_cons.2 (And.intro ?_ ?_))
    | (intro _ hnil; cases hnil; done)
    | rfl
    | fail
  ·rw [if_neg (by simp_all)] at hst
   refine EV.ret Q32_ok ?_
   simp only [wpS, wpA, wpQL, push_cast, Int.cast_ofNat_Int, reduceIte, Nat.reduceEqDiff, reduceCtorEq, Nat.reduceAdd, Nat.reduceSub, Nat.reduceMul, Int.reduceToNat, Nat.reduceLeDiff, Q32]
   rw [← hst]

theorem ax_ends_q (p : List Ev) (s : Value) (hs : Sl M 6 encEv s p) (hb : p.length ≤ 32) (ho : OrdOk p) (w : Nat) (hw : w < p.length) :
  ConQ Tryz.prog 105 #[s, vi w] M (vu (endsP p w)) := by
 obtain ⟨a, c, rfl, hrd⟩ := hs
 obtain ⟨pb, po, rfl, hat⟩ := Sl.at (enc := encEv) (fun _ => rfl) (by decide) hrd (by omega)
 have hat := Sl.evAt hat
 have hpw := hat w hw
 have hpw5 := hpw.pt 5 1 (by omega) rfl
 have hw1 : (w : Int) < p.length := by omega
 have hwn : ¬ ((w : Int) < 0) := by omega
 refine Con.enter Q14_ok (args := [.slice (some ⟨pb, po, none⟩) p.length c, vi w]) (by simp [Q14]) fun w0 => ?_
 simp only [Q14, argE]
 refine EV.seq (EV.reg ?_)
 simp only [wpS, wpA, wpQL, push_cast, Int.cast_ofNat_Int, reduceIte, Nat.reduceEqDiff, reduceCtorEq, Nat.reduceAdd, Nat.reduceSub, Nat.reduceMul, Int.reduceToNat, Nat.reduceLeDiff, Q14_0]
 refine EV.seq (EV.reg ?_)
 simp only [wpS, wpA, wpQL, push_cast, Int.cast_ofNat_Int, reduceIte, Nat.reduceEqDiff, reduceCtorEq, Nat.reduceAdd, Nat.reduceSub, Nat.reduceMul, Int.reduceToNat, Nat.reduceLeDiff, Q14_1]
 refine EV.seq (EV.thru (fun ρ' M' G' => M' = M ∧ (∀ q ∈ [(0, .slice (some ⟨pb, po, none⟩) p.length c), (1, vi w), (5, vu (if (evAt p w).acq then 2 ^ w else 0))], get ρ' q.1 = some q.2) ∧ G' = []) ?_ ?_)
 ·intro k' key
  have h0 : IntKind.u32.wrap ((BitVec.ofInt IntKind.u32.bits (0 : Int) ||| BitVec.ofInt IntKind.u32.bits (2 ^ w)).toNat : Int) = ((2 ^ w : Nat) : Int) := by
   have := u32_or2 (x := 0) (b := w) (by decide) (by omega)
   simpa using this
  repeat' first
    | refine EV.seq ?_
    | refine EV.skip ?_
    | (refine EV.reg ?_; (conv => (arg 2; whnf)); simp only [wpS, wpA, wpQL, push_cast, Int.cast_ofNat_Int, reduceIte, Nat.reduceEqDiff, reduceCtorEq, Nat.reduceAdd, Nat.reduceSub, Nat.reduceMul, Int.reduceToNat, Nat.reduceLeDiff, hwn, u32_shl (show w < 32 by omega), h0])
    | (refine ConQ.call (ax_acq_q (evAt p w) (ho w hw)) ?_; try simp only [wpS, wpA, wpQL, push_cast, Int.cast_ofNat_Int, reduceIte, Nat.reduceEqDiff, reduceCtorEq, Nat.reduceAdd, Nat.reduceSub, Nat.reduceMul, Int.reduceToNat, Nat.reduceLeDiff, hwn, u32_shl (show w < 32 by omega), h0])
    | (refine EV.condX rfl (fun h => ?_) (fun h => ?_) <;> try exact dead h)
    | (refine And.intro (by omega) ?_)
    | (refine Exists.intro _ (And.intro (rd_M (by assumption)) ?_); try simp only [wpS, wpA, wpQL, push_cast, Int.cast_ofNat_Int, reduceIte, Nat.reduceEqDiff, reduceCtorEq, Nat.reduceAdd, Nat.reduceSub, Nat.reduceMul, Int.reduceToNat, Nat.reduceLeDiff, hwn, u32_shl (show w < 32 by omega), h0])
    | fail
  all_goals
   refine key _ _ _ ⟨rfl, ?_, rfl⟩
   simp only [*, Bool.false_eq_true, if_true, if_false]
   repeat' first
    | (refine List.forall_mem_cons.2 (And.intro ?_ ?_))
    | (intro _ hnil; cases hnil; done)
    | rfl
    | fail
 rintro ρ2 M2 G2 ⟨rfl, hq, rfl⟩
 refine EV.to (G' := []) ?_ hq (List.Sublist.refl _)
 clear hq
 generalize hs0 : (if (evAt p w).acq then 2 ^ w else 0) = s0
 have hs0l : s0 < 2 ^ p.length := by
  rw [← hs0]; split
  ·exact Nat.pow_lt_pow_right (by decide) hw
  ·exact Nat.two_pow_pos _
 have hww : IntKind.i64.wrap ((w : Int) + 1) = ((w + 1 : Nat) : Int) := w64 (by omega) (by omega)
 repeat' first
   | refine EV.seq ?_
   | refine EV.block ?_
   | (refine EV.reg ?_; (conv => (arg 2; whnf)); (refine nx ?_; try with_reducible exact ⟨⟩))
   | fail
 rw [hww]
 refine EV.loopTo (fun x : Nat × Nat => ([(0, .slice (some ⟨pb, po, none⟩) p.length c), (1, vi w), (5, vu x.2), (6, vi x.1)], M2, [])) (fun x => x.1 ≤ p.length ∧ x.2 < 2 ^ p.length ∧ endsGo p w (p.length - x.1) x.1 x.2 = endsP p w) (fun x => p.length - x.1) (w + 1, s0) rfl ⟨hw, hs0l, by rw [← hs0]; rfl⟩ ?env1 (List.Sublist.refl _) ?_
 case env1 =>
  repeat' first
   | (refine List.forall_mem_cons.2 (And.intro ?_ ?_))
   | (intro _ hnil; cases hnil; done)
   | rfl
   | fail
 rintro ⟨a, s⟩ ⟨hx, hsl, hst⟩ ih
 dsimp only at hx hsl hst ih ⊢
 by_cases ha : a < p.length
 ·have hlt : decide ((a : Int) < p.length) = true := by simpa using ha
  have hpa := hat a (by omega)
  have hpa5 := hpa.pt 5 1 (by omega) rfl
  have hpa0 := hpa.pt 0 1 (by omega) rfl
  have ha1 : (a : Int) < p.length := by omega
  have han : ¬ ((a : Int) < 0) := by omega
  have hor := u32_or2 (x := s) (b := a) (pow32 hsl hb) (by omega)
  have ef : p.length - a = (p.length - (a + 1)) + 1 := by omega
  rw [ef] at hst
  simp only [endsGo] at hst
  repeat' first
    | refine EV.seq ?_
    | refine EV.skip ?_
    | refine EV.block ?_
    | refine EV.inBlock ?_
    | ((first | refine EV.reg ?_ | refine EV.any _ (List.Sublist.refl _) ?_ | fail); (conv => (arg 2; whnf)); simp only [wpS, wpA, wpQL, push_cast, Int.cast_ofNat_Int, reduceIte, Nat.reduceEqDiff, reduceCtorEq, Nat.reduceAdd, Nat.reduceSub, Nat.reduceMul, Int.reduceToNat, Nat.reduceLeDiff, hlt, han, u32_shl (show a < 32 by omega), hor])
    | (refine ConQ.call (ax_acq_q (evAt p a) (ho a (by omega))) ?_; try simp only [wpS, wpA, wpQL, push_cast, Int.cast_ofNat_Int, reduceIte, Nat.reduceEqDiff, reduceCtorEq, Nat.reduceAdd, Nat.reduceSub, Nat.reduceMul, Int.reduceToNat, Nat.reduceLeDiff, hlt, han, u32_shl (show a < 32 by omega), hor])
    | with_reducible assumption
    | (refine condW.merge ?_ (fun hc K' hK => ?_) ?_; rotate_left)
    | (refine condQ.mk ?_ (fun hc => ?_) ?_; rotate_left; (try simp only [decide_eq_true_eq, decide_eq_false_iff_not, Bool.not_eq_true', Bool.not_eq_false', Bool.and_eq_true, Bool.or_eq_true, Bool.and_eq_false_iff, Bool.or_eq_false_iff] at hc))
    | (with_reducible rfl)
    | (refine EV.condX rfl (fun h => ?_) (fun h => ?_) <;> try exact dead h)
    | (refine EV.exit rfl ?_)
    | (refine And.intro (by omega) ?_)
    | (refine Exists.intro _ (And.intro (rd_M (by assumption)) ?_); try simp only [wpS, wpA, wpQL, push_cast, Int.cast_ofNat_Int, reduceIte, Nat.reduceEqDiff, reduceCtorEq, Nat.reduceAdd, Nat.reduceSub, Nat.reduceMul, Int.reduceToNat, Nat.reduceLeDiff, hlt, han, u32_shl (show a < 32 by omega), hor])
    | fail
  ·rw [if_pos (by simp_all), if_pos (by simp_all)] at hst
   refine EV.to (ih (a + 1, s ||| 2 ^ a) ⟨by dsimp only; omega, Nat.or_lt_two_pow hsl (Nat.pow_lt_pow_right (by decide) (by omega)), hst⟩ (by dsimp only; omega)) ?_ (List.Sublist.refl _)
   repeat' first
    | (refine List.forall_mem_cons.2 (And.intro ?_ ?_))
    | (intro _ hnil; cases hnil; done)
    | rfl
    | (refine env_w64 rfl (by first | rfl | (push_cast; first | rfl | omega)) (by omega) (by omega); done)
    | fail
  ·rw [if_pos (by simp_all), if_neg (by grind)] at hst
   refine EV.to (ih (a + 1, s) ⟨by dsimp only; omega, hsl, hst⟩ (by dsimp only; omega)) ?_ (List.Sublist.refl _)
   repeat' first
    | (refine List.forall_mem_cons.2 (And.intro ?_ ?_))
    | (intro _ hnil; cases hnil; done)
    | rfl
    | (refine env_w64 rfl (by first | rfl | (push_cast; first | rfl | omega)) (by omega) (by omega); done)
    | fail
  ·rw [if_neg (by simp_all)] at hst
   refine EV.ret Q14_ok ?_
   simp only [wpS, wpA, wpQL, push_cast, Int.cast_ofNat_Int, reduceIte, Nat.reduceEqDiff, reduceCtorEq, Nat.reduceAdd, Nat.reduceSub, Nat.reduceMul, Int.reduceToNat, Nat.reduceLeDiff, Q14]
   rw [← hst]
 ·have e0 : decide ((a : Int) < p.length) = false := by simp; omega
  have ea : p.length - a = 0 := by omega
  rw [ea] at hst
  repeat' first
    | refine EV.seq ?_
    | ((first | refine EV.reg ?_ | refine EV.any _ (List.Sublist.refl _) ?_ | fail); (conv => (arg 2; whnf)); simp only [wpS, wpA, wpQL, push_cast, Int.cast_ofNat_Int, reduceIte, Nat.reduceEqDiff, reduceCtorEq, Nat.reduceAdd, Nat.reduceSub, Nat.reduceMul, Int.reduceToNat, Nat.reduceLeDiff, e0])
    | (refine condQ.mk ?_ (fun hc => ?_) ?_; rotate_left; (try simp only [decide_eq_true_eq, decide_eq_false_iff_not, Bool.not_eq_true', Bool.not_eq_false', Bool.and_eq_true, Bool.or_eq_true, Bool.and_eq_false_iff, Bool.or_eq_false_iff] at hc))
    | (refine EV.condX rfl (fun h => ?_) (fun h => ?_) <;> try exact dead h)
    | (refine EV.exit rfl ?_)
    | (refine And.intro (by omega) ?_)
    | (exfalso; simp at hc; done)
    | exact false
    | fail
  refine EV.ret Q14_ok ?_
  simp only [wpS, wpA, wpQL, push_cast, Int.cast_ofNat_Int, reduceIte, Nat.reduceEqDiff, reduceCtorEq, Nat.reduceAdd, Nat.reduceSub, Nat.reduceMul, Int.reduceToNat, Nat.reduceLeDiff, Q14]
  rw [← hst]; rfl

theorem ax_steps_c (p : List Ev) (s : Value) (hs : Sl M 6 encEv s p) (hb : p.length ≤ 32) (f d o n : Value) (fen : List Int) (hn : Sl M 1 ei n fen) (hin : InEv p fen) (hfl : fen.length < 1000000) :
  Con Tryz.prog 102 #[s, .agg #[f, d, o, n]] M [] fun v _ G' => ∃ b, v = vrow b p.length p.length ∧ G' = [(b, Cl 144 ((stepsP p fen).map vu))] := by
 have hs0 := hs
 obtain ⟨a, c, rfl, hrd⟩ := hs
 obtain ⟨na, nc, rfl, hrn⟩ := hn
 refine Con.enter Q33_ok (args := [.slice a p.length c, .agg #[f, d, o, .slice na fen.length nc]]) (by simp [Q33]) fun w0 => ?_
 simp only [Q33, argE]
 repeat' first
   | refine EV.seq ?_
   | (refine EV.reg ?_; (conv => (arg 2; whnf)); (refine nx ?_; try with_reducible exact ⟨⟩))
   | (with_reducible intro b; try (refine nx ?_; try with_reducible exact ⟨⟩))
   | fail
 rename Nat => xb
 refine Con.callB (G1 := []) (ax_relation_c _ p (hs0.mono (PHeap.le_add _ _)) hb) (PHeap.le_refl _) (List.Perm.refl _) ?_
 rintro v M' G' ⟨rb, rfl, rfl⟩
 simp only [wpS, wpA, wpQL, push_cast, Int.cast_ofNat_Int, reduceIte, Nat.reduceEqDiff, reduceCtorEq, Nat.reduceAdd, Nat.reduceSub, Nat.reduceMul, Int.reduceToNat, Nat.reduceLeDiff]
 repeat' first
   | refine EV.seq ?_
   | refine EV.block ?_
   | (refine EV.reg ?_; (conv => (arg 2; whnf)); (refine nx ?_; try with_reducible exact ⟨⟩))
   | fail
 refine EV.loopTo (fun x : Nat => ([(0, .slice a p.length c), (3, pv xb 0), (5, vrow rb p.length p.length), (6, vi ((x : Int) + 1))], M, [(xb, Cl 45 [f, d, o, .slice na fen.length nc]), (rb, Cl 144 ((stepsA p x).map vu))]))
  (fun x => x ≤ p.length - 1) (fun x => p.length - x) 0 rfl (Nat.zero_le _) ?env1 (List.Sublist.refl _) ?_
 case env1 =>
  repeat' first
   | (refine List.forall_mem_cons.2 (And.intro ?_ ?_))
   | (intro _ hnil; cases hnil; done)
   | rfl
   | fail
 intro x hx ih
 dsimp only at hx ih ⊢
 have ht : ((x : Int) + 1).toNat = x + 1 := by omega
 have hw1 : IntKind.i64.wrap ((x : Int) + 1 - 1) = x := w64 (by omega) (by omega) |>.trans (by omega)
 repeat' first
   | refine EV.seq ?_
   | refine EV.skip ?_
   | refine EV.block ?_
   | ((first | refine EV.reg ?_ | refine EV.any _ (List.Sublist.refl _) ?_ | fail); (conv => (arg 2; whnf)); simp only [wpS, wpA, wpQL, push_cast, Int.cast_ofNat_Int, reduceIte, Nat.reduceEqDiff, reduceCtorEq, Nat.reduceAdd, Nat.reduceSub, Nat.reduceMul, Int.reduceToNat, Nat.reduceLeDiff, ht, hw1])
   | (refine EV.condX rfl (fun h => ?_) (fun h => ?_) <;> try exact dead h)
   | (refine EV.exit rfl ?_)
   | fail
 ·have hx' : x + 1 < p.length := by omega
  obtain ⟨pb, po, rfl, hat⟩ := Sl.at (enc := encEv) (fun _ => rfl) (by decide) hrd (by omega)
  have hat := Sl.evAt hat
  have hp1 := (hat (x + 1) (by omega)).pt 5 1 (by omega) rfl
  have hp0 := (hat x (by omega)).pt 5 1 (by omega) rfl
  have ih3 := ih (x + 1) (by omega) (by omega)
  rw [show stepsA p (x + 1) = if (evAt p (x + 1)).th = (evAt p x).th then putR (stepsA p x) x (x + 1) else stepsA p x from rfl] at ih3
  have hok := stepsA_ok p x (by omega)
  clear ih
  repeat' first
    | refine EV.skip ?_
    | refine EV.inBlock ?_
    | (refine EV.reg ?_; (conv => (arg 2; whnf)); simp only [wpS, wpA, wpQL, push_cast, Int.cast_ofNat_Int, reduceIte, Nat.reduceEqDiff, reduceCtorEq, Nat.reduceAdd, Nat.reduceSub, Nat.reduceMul, Int.reduceToNat, Nat.reduceLeDiff, ht, hw1])
    | (refine EV.condX rfl (fun h => ?_) (fun h => ?_) <;> try exact dead h)
    | (refine And.intro (by omega) ?_)
    | (refine Exists.intro _ (And.intro (rd_M (by assumption)) ?_); try simp only [wpS, wpA, wpQL, push_cast, Int.cast_ofNat_Int, reduceIte, Nat.reduceEqDiff, reduceCtorEq, Nat.reduceAdd, Nat.reduceSub, Nat.reduceMul, Int.reduceToNat, Nat.reduceLeDiff, ht, hw1])
    | fail
  ·refine Con.callK (ax_putI_c hok hb (by omega) (by omega) (by omega) (by omega)) (PHeap.le_add _ _) ?_
   rintro v M' G' rfl
   rw [if_pos h] at ih3
   simp only [Int.toNat_natCast, ht]
   simp only [wpS, wpA, wpQL, push_cast, Int.cast_ofNat_Int, reduceIte, Nat.reduceEqDiff, reduceCtorEq, Nat.reduceAdd, Nat.reduceSub, Nat.reduceMul, Int.reduceToNat, Nat.reduceLeDiff]
   repeat' first
     | refine EV.inBlock ?_
     | (refine EV.reg ?_; (conv => (arg 2; whnf)); (refine nx ?_; try with_reducible exact ⟨⟩))
     | fail
   refine EV.toS ih3 ?_
   repeat' first
    | (refine List.forall_mem_cons.2 (And.intro ?_ ?_))
    | (intro _ hnil; cases hnil; done)
    | rfl
    | (refine env_w64 rfl (by first | rfl | (push_cast; first | rfl | omega)) (by omega) (by omega); done)
    | fail
  ·rw [if_neg (by simp_all)] at ih3
   refine EV.toS ih3 ?_
   repeat' first
    | (refine List.forall_mem_cons.2 (And.intro ?_ ?_))
    | (intro _ hnil; cases hnil; done)
    | rfl
    | (refine env_w64 rfl (by first | rfl | (push_cast; first | rfl | omega)) (by omega) (by omega); done)
    | fail
 ·have hxe : x = p.length - 1 := by omega
  subst hxe
  clear ih
  have hok := stepsA_ok p (p.length - 1) (Nat.le_refl _)
  repeat' first
    | fail
  refine EV.loopTo (fun x : Nat => ([(0, .slice a p.length c), (3, pv xb 0), (5, vrow rb p.length p.length), (7, vi ((x : Int) + 1))], M, [(xb, Cl 45 [f, d, o, .slice na fen.length nc]), (rb, Cl 144 ((stepsB (stepsA p (p.length - 1)) fen x).map vu))]))
   (fun x => x ≤ fen.length - 1) (fun x => fen.length - x) 0 rfl (Nat.zero_le _) ?env2 (List.Sublist.refl _) ?_
  case env2 =>
   repeat' first
    | (refine List.forall_mem_cons.2 (And.intro ?_ ?_))
    | (intro _ hnil; cases hnil; done)
    | rfl
    | fail
  intro x hx ih
  dsimp only at hx ih ⊢
  have ht : ((x : Int) + 1).toNat = x + 1 := by omega
  have hw1 : IntKind.i64.wrap ((x : Int) + 1 - 1) = x := w64 (by omega) (by omega) |>.trans (by omega)
  repeat' first
    | refine EV.seq ?_
    | refine EV.skip ?_
    | refine EV.block ?_
    | (refine EV.reg ?_; (conv => (arg 2; whnf)); simp only [wpS, wpA, wpQL, push_cast, Int.cast_ofNat_Int, reduceIte, Nat.reduceEqDiff, reduceCtorEq, Nat.reduceAdd, Nat.reduceSub, Nat.reduceMul, Int.reduceToNat, Nat.reduceLeDiff, ht, hw1])
    | (refine EV.condX rfl (fun h => ?_) (fun h => ?_) <;> try exact dead h)
    | (refine EV.exit rfl ?_)
    | (refine xsA rfl ?_; try simp only [wpS, wpA, wpQL, push_cast, Int.cast_ofNat_Int, reduceIte, Nat.reduceEqDiff, reduceCtorEq, Nat.reduceAdd, Nat.reduceSub, Nat.reduceMul, Int.reduceToNat, Nat.reduceLeDiff, ht, hw1])
    | fail
  ·have hx' : x + 1 < fen.length := by omega
   obtain ⟨pb, po, rfl, hat⟩ := Sl.at (sz := 1) (enc := ei) (fun _ => rfl) (by decide) hrn (by omega)
   have hp1 := hat (x + 1) (by omega)
   have hp0 := hat x (by omega)
   have q1 := hin.at (k := x + 1) hx'
   have q0 := hin.at (k := x) (by omega)
   rw [Nat.mul_one] at hp1 hp0
   rw [← show fen[x + 1]?.getD 0 = fen[x + 1] from by rw [List.getElem?_eq_getElem hx']; rfl] at hp1
   rw [← show fen[x]?.getD 0 = fen[x] from by rw [List.getElem?_eq_getElem]; rfl] at hp0
   have ih3 := ih (x + 1) (by omega) (by omega)
   rw [show stepsB (stepsA p (p.length - 1)) fen (x + 1) = putR (stepsB (stepsA p (p.length - 1)) fen x) (fen[x]?.getD 0).toNat (fen[x + 1]?.getD 0).toNat from rfl] at ih3
   have hokb := stepsB_ok hok hin x (by omega)
   generalize fen[x]?.getD 0 = ea at *
   generalize fen[x + 1]?.getD 0 = eb2 at *
   clear ih
   refine EV.any (t := Q33_9) _ (List.Sublist.refl _) ?_
   simp only [wpS, wpA, wpQL, push_cast, Int.cast_ofNat_Int, reduceIte, Nat.reduceEqDiff, reduceCtorEq, Nat.reduceAdd, Nat.reduceSub, Nat.reduceMul, Int.reduceToNat, Nat.reduceLeDiff, Q33_9]
   repeat' first
     | (refine And.intro (by omega) ?_)
     | ((first | refine Exists.intro _ (And.intro (rd_M (by assumption)) ?_) | refine xsA rfl ?_ | fail); try simp only [wpS, wpA, wpQL, push_cast, Int.cast_ofNat_Int, reduceIte, Nat.reduceEqDiff, reduceCtorEq, Nat.reduceAdd, Nat.reduceSub, Nat.reduceMul, Int.reduceToNat, Nat.reduceLeDiff, ht, hw1])
     | fail
   refine Con.callK (ax_putI_c hokb hb (by omega) (by omega) (by omega) (by omega)) (PHeap.le_add _ _) ?_
   rintro v M' G' rfl
   simp only [wpS, wpA, wpQL, push_cast, Int.cast_ofNat_Int, reduceIte, Nat.reduceEqDiff, reduceCtorEq, Nat.reduceAdd, Nat.reduceSub, Nat.reduceMul, Int.reduceToNat, Nat.reduceLeDiff]
   repeat' first
     | refine EV.inBlock ?_
     | (refine EV.reg ?_; (conv => (arg 2; whnf)); simp only [wpS, wpA, wpQL, push_cast, Int.cast_ofNat_Int, reduceIte, Nat.reduceEqDiff, reduceCtorEq, Nat.reduceAdd, Nat.reduceSub, Nat.reduceMul, Int.reduceToNat, Nat.reduceLeDiff, ht, hw1])
     | fail
   refine EV.toS ih3 ?_
   repeat' first
    | (refine List.forall_mem_cons.2 (And.intro ?_ ?_))
    | (intro _ hnil; cases hnil; done)
    | rfl
    | (refine env_w64 rfl (by first | rfl | (push_cast; first | rfl | omega)) (by omega) (by omega); done)
    | fail
  ·have hxe : x = fen.length - 1 := by omega
   subst hxe
   refine EV.toS (ρ' := [(4, vrow rb p.length p.length)]) (G' := [(rb, Cl 144 ((stepsB (stepsA p (p.length - 1)) fen (fen.length - 1)).map vu))]) ?_ ?env3
   case env3 =>
    repeat' first
     | (refine List.forall_mem_cons.2 (And.intro ?_ ?_))
     | (intro _ hnil; cases hnil; done)
     | rfl
     | fail
   refine EV.ret Q33_ok ?_
   simp only [wpS, wpA, wpQL, push_cast, Int.cast_ofNat_Int, reduceIte, Nat.reduceEqDiff, reduceCtorEq, Nat.reduceAdd, Nat.reduceSub, Nat.reduceMul, Int.reduceToNat, Nat.reduceLeDiff, Q33]
   exact ⟨rb, rfl, rfl⟩

end
end Go.EV

namespace Go.EV
open Go.Proofs

/-- An execution. -/
structure Exec where
 frm : List Int
 dn : List Bool
 ord : List (List Int)
 fen : List Int

structure POk (p : List Ev) : Prop where
 len : p.length ≤ 32
 ord : OrdOk p
 loc : ∀ i, i < p.length → 0 ≤ (evAt p i).op.loc ∧ (evAt p i).op.loc < 3

structure XOk (p : List Ev) (e : Exec) : Prop where
 fl : e.frm.length = p.length
 dl : e.dn.length = p.length
 ol : e.ord.length = 3
 fr : ∀ i : Nat, i < p.length → e.frm[i]?.getD 0 < p.length ∧ ((evAt p i).reads = true → -1 ≤ e.frm[i]?.getD 0)
 oin : ∀ l ∈ e.ord, InEv p l ∧ l.length ≤ p.length
 fin : InEv p e.fen ∧ e.fen.length ≤ p.length

theorem XOk.fromOk {p : List Ev} {e : Exec} (h : XOk p e) : FromOk p e.frm := ⟨h.fl, fun i hi hr => by
 have := h.fr i hi
 have h2 := this.2 hr
 omega⟩

def IsX (M : PHeap) (v : Value) (e : Exec) : Prop := ∃ f d o n, v = .agg #[f, d, o, n] ∧ Sl M 1 ei f e.frm ∧ Sl M 1 eb d e.dn ∧ SlSlC M 1 ei o e.ord ∧ Sl M 1 ei n e.fen

theorem IsX.mono {M M' : PHeap} (hM : M.le M') {v : Value} {e : Exec} (h : IsX M v e) : IsX M' v e := by
 obtain ⟨f, d, o, n, rfl, h1, h2, h3, h4⟩ := h
 exact ⟨f, d, o, n, rfl, h1.mono hM, h2.mono hM, h3.mono hM, h4.mono hM⟩

def exchP (p : List Ev) (e : Exec) (w : Nat) : Bool := (evAt p w).reads && (e.dn[w]?.getD false)
def frmAt (e : Exec) (i : Nat) : Int := e.frm[i]?.getD 0

def chainGo (p : List Ev) (e : Exec) : Nat → Nat → Nat → Nat
 | 0, _, s => s
 | k + 1, w, s => if exchP p e w = true ∧ 0 ≤ frmAt e w then chainGo p e k (frmAt e w).toNat (s ||| startsP p w) else s ||| startsP p w
def headsP (p : List Ev) (e : Exec) (r : Nat) : Nat := chainGo p e p.length (frmAt e r).toNat 0
def orAll (q : Rel) (set to : Nat) : Nat → Rel
 | 0 => q
 | a + 1 => if set.testBit a then orR (orAll q set to a) a to else orAll q set to a
def befGo (p : List Ev) (e : Exec) : Nat → Rel
 | 0 => stepsP p e.fen
 | r + 1 => if (evAt p r).reads = true ∧ 0 ≤ frmAt e r then orAll (befGo p e r) (headsP p e r) (endsP p r) p.length else befGo p e r
def beforeP (p : List Ev) (e : Exec) : Rel := closeR (befGo p e p.length)

theorem chainGo_lt {p : List Ev} {e : Exec} (hx : XOk p e) : ∀ (k w s : Nat), w < p.length → s < 2 ^ p.length → chainGo p e k w s < 2 ^ p.length
 | 0, _, _, _, h => h
 | k + 1, w, s, hw, h => by
  have hs : s ||| startsP p w < 2 ^ p.length := Nat.or_lt_two_pow h (startsP_lt hw)
  simp only [chainGo]
  split
  ·rename_i hc
   have := (hx.fr w hw).1
   exact chainGo_lt hx k _ _ (by simp only [frmAt] at hc ⊢; omega) hs
  ·exact hs

theorem orAll_ok {n : Nat} {q : Rel} (hq : RelOk n q) {set to : Nat} (ht : to < 2 ^ n) : ∀ a, RelOk n (orAll q set to a)
 | 0 => hq
 | a + 1 => by
  simp only [orAll]
  split
  ·exact (orAll_ok hq ht a).or a ht
  ·exact orAll_ok hq ht a

theorem befGo_ok {p : List Ev} {e : Exec} (hx : XOk p e) : ∀ r, r ≤ p.length → RelOk p.length (befGo p e r)
 | 0, _ => stepsP_ok hx.fin.1
 | r + 1, h => by
  simp only [befGo]
  split
  ·exact orAll_ok (befGo_ok hx r (by omega)) (endsP_lt (by omega)) _
  ·exact befGo_ok hx r (by omega)

section
variable {M : PHeap}

set_option maxHeartbeats 4000000 in
theorem ax_before_c (p : List Ev) (s : Value) (hs : Sl M 6 encEv s p) (hp : POk p) (e : Exec) (v : Value) (hv : IsX M v e) (hx : XOk p e) :
  Con Tryz.prog 67 #[s, v] M [] fun v _ G' => ∃ b, v = vrow b p.length p.length ∧ G' = [(b, Cl 144 ((beforeP p e).map vu))] := by
 have hs0 := hs
 have hb := hp.len
 obtain ⟨a, c, rfl, hrd⟩ := hs
 obtain ⟨f, d, o, n, rfl, hf, hd, ho, hn⟩ := hv
 have hd0 := hd
 obtain ⟨fa, fc, rfl, hrf⟩ := hf
 obtain ⟨da, dc, rfl, hrdn⟩ := hd
 have hfl := hx.fl
 refine Con.enter Q8_ok (args := [.slice a p.length c, .agg #[.slice fa e.frm.length fc, .slice da e.dn.length dc, o, n]]) (by simp [Q8]) fun w0 => ?_
 simp only [Q8, argE]
 repeat' first
   | refine EV.seq ?_
   | (refine EV.reg ?_; (conv => (arg 2; whnf)); (refine nx ?_; try with_reducible exact ⟨⟩))
   | ((first | with_reducible intro b | refine xrA rfl ?_ | fail); try (refine nx ?_; try with_reducible exact ⟨⟩))
   | fail
 rename Nat => xb
 have hxf := hx.fin.2
 refine Con.callB (G1 := []) (ax_steps_c p _ (hs0.mono (PHeap.le_add _ _)) hb _ _ _ _ e.fen (hn.mono (PHeap.le_add _ _)) hx.fin.1 (by omega)) (PHeap.le_refl _) (List.Perm.refl _) ?_
 rintro v M' G' ⟨rb, rfl, rfl⟩
 simp only [wpS, wpA, wpQL, push_cast, Int.cast_ofNat_Int, reduceIte, Nat.reduceEqDiff, reduceCtorEq, Nat.reduceAdd, Nat.reduceSub, Nat.reduceMul, Int.reduceToNat, Nat.reduceLeDiff]
 repeat' first
   | refine EV.seq ?_
   | refine EV.block ?_
   | (refine EV.reg ?_; (conv => (arg 2; whnf)); (refine nx ?_; try with_reducible exact ⟨⟩))
   | fail
 refine EV.loopTo (fun r : Nat => ([(0, .slice a p.length c), (3, pv xb 0), (5, vrow rb p.length p.length), (15, vi p.length), (16, vi r)], M, [(xb, Cl 45 [.slice fa e.frm.length fc, .slice da e.dn.length dc, o, n]), (rb, Cl 144 ((befGo p e r).map vu))]))
  (fun r => r ≤ p.length) (fun r => p.length - r) 0 rfl (Nat.zero_le _) ?env1 (List.Sublist.refl _) ?_
 case env1 =>
  repeat' first
   | (refine List.forall_mem_cons.2 (And.intro ?_ ?_))
   | (intro _ hnil; cases hnil; done)
   | rfl
   | fail
 intro r hr ih
 dsimp only at hr ih ⊢
 repeat' first
   | refine EV.seq ?_
   | refine EV.skip ?_
   | refine EV.block ?_
   | (refine EV.reg ?_; (conv => (arg 2; whnf)); (refine nx ?_; try with_reducible exact ⟨⟩))
   | (refine EV.condX rfl (fun h => ?_) (fun h => ?_) <;> try exact dead h)
   | (refine EV.exit rfl ?_)
   | fail
 ·have hr' : r < p.length := by omega
  obtain ⟨pb, po, rfl, hat⟩ := Sl.at (enc := encEv) (fun _ => rfl) (by decide) hrd (by omega)
  obtain ⟨fb, fo, rfl, hat2⟩ := Sl.at (sz := 1) (enc := ei) (fun _ => rfl) (by decide) hrf (by omega)
  have hat := Sl.evAt hat
  have hatf : ∀ i, i < p.length → rd M fb (fo + i) 1 [vi (frmAt e i)] := by
   intro i hi
   have := hat2 i (by omega)
   rw [Nat.mul_one] at this
   simp only [frmAt]
   rwa [List.getElem?_eq_getElem (by omega : i < e.frm.length)]
  have hpr := hat r hr'
  have hfr := hatf r hr'
  have hlt : ∀ i, i < p.length → frmAt e i < p.length := fun i hi => (hx.fr i hi).1
  have hltr := hlt r hr'
  have hfI : (r : Int) < e.frm.length := by omega
  have ih3 := ih (r + 1) (by omega) (by omega)
  rw [show befGo p e (r + 1) = if (evAt p r).reads = true ∧ 0 ≤ frmAt e r then orAll (befGo p e r) (headsP p e r) (endsP p r) p.length else befGo p e r from rfl] at ih3
  have hok := befGo_ok hx r (by omega)
  generalize befGo p e r = q at *
  clear ih hat2
  repeat' first
    | refine EV.skip ?_
    | (refine EV.reg ?_; (conv => (arg 2; whnf)); (refine nx ?_; try with_reducible exact ⟨⟩))
    | with_reducible assumption
    | (refine ConQ.call (ax_reads_q (evAt p r)) ?_; try (refine nx ?_; try with_reducible exact ⟨⟩))
    | (refine condW.merge ?_ (fun hc K' hK => ?_) ?_; rotate_left)
    | (refine EV.condX rfl (fun h => ?_) (fun h => ?_) <;> try exact dead h)
    | (refine EV.exit rfl ?_)
    | (refine And.intro (by omega) ?_)
    | ((first | refine Exists.intro _ (And.intro (rd_M (by assumption)) ?_) | refine xsA rfl ?_ | fail); try (refine nx ?_; try with_reducible exact ⟨⟩))
    | fail
  ·rw [if_neg (by grind)] at ih3
   refine EV.toS ih3 ?_
   repeat' first
    | (refine List.forall_mem_cons.2 (And.intro ?_ ?_))
    | (intro _ hnil; cases hnil; done)
    | rfl
    | (refine env_w64 rfl (by first | rfl | (push_cast; first | rfl | omega)) (by omega) (by omega); done)
    | fail
  ·obtain ⟨hre, hge⟩ := h
   have hge : 0 ≤ frmAt e r := by omega
   rw [if_pos ⟨hre, hge⟩] at ih3
   obtain ⟨w0', hw0⟩ := Int.eq_ofNat_of_zero_le hge
   refine EV.seq ?_
   repeat' first
     | (refine EV.reg ?_; (conv => (arg 2; whnf)); (refine nx ?_; try with_reducible exact ⟨⟩))
     | fail
   refine EV.seq ?_
   repeat' first
     | (refine EV.reg ?_; (conv => (arg 2; whnf)); (refine nx ?_; try with_reducible exact ⟨⟩))
     | (refine And.intro (by omega) ?_)
     | ((first | refine Exists.intro _ (And.intro (rd_M (by assumption)) ?_) | refine xsA rfl ?_ | fail); try (refine nx ?_; try with_reducible exact ⟨⟩))
     | fail
   refine EV.seq (EV.thru (fun ρ' M' G' => M' = M ∧ (∀ q ∈ [(0, .slice (some ⟨pb, po, none⟩) p.length c), (3, pv xb 0), (5, vrow rb p.length p.length), (6, vi r), (7, vu (headsP p e r)), (15, vi p.length), (16, vi r)], get ρ' q.1 = some q.2) ∧
    G' = [(xb, Cl 45 [.slice (some ⟨fb, fo, none⟩) e.frm.length fc, .slice da e.dn.length dc, o, n]), (rb, Cl 144 (q.map vu))]) ?_ ?_)
   ·intro k' key
    clear ih3
    repeat' first
      | refine EV.seq ?_
      | refine EV.block ?_
      | (refine EV.reg ?_; (conv => (arg 2; whnf)); (refine nx ?_; try with_reducible exact ⟨⟩))
      | fail
    refine EV.loopTo (fun x : Nat × Nat × Nat => ([(0, .slice (some ⟨pb, po, none⟩) p.length c), (3, pv xb 0), (5, vrow rb p.length p.length), (6, vi r), (7, vu x.2.2), (8, vi x.2.1), (15, vi p.length), (16, vi r), (39, vi p.length), (40, vi x.1)], M, [(xb, Cl 45 [.slice (some ⟨fb, fo, none⟩) e.frm.length fc, .slice da e.dn.length dc, o, n]), (rb, Cl 144 (q.map vu))]))
     (fun x => x.1 ≤ p.length ∧ x.2.1 < p.length ∧ x.2.2 < 2 ^ p.length ∧ chainGo p e (p.length - x.1) x.2.1 x.2.2 = headsP p e r) (fun x => p.length - x.1) (0, w0', 0) rfl ⟨Nat.zero_le _, by dsimp only; omega, Nat.two_pow_pos _, by simp only [headsP, hw0, Nat.sub_zero, Int.toNat_natCast]⟩ ?env2 (List.Sublist.refl _) ?_
    case env2 =>
     repeat' first
      | (refine List.forall_mem_cons.2 (And.intro ?_ ?_))
      | (intro _ hnil; cases hnil; done)
      | rfl
      | (simp (disch := omega) only [get_cons, get_nil, reduceIte, Nat.reduceEqDiff, Option.some.injEq, Value.int.injEq, w64, Int.natCast_add, Int.natCast_one, Int.cast_ofNat_Int, Int.natCast_zero, hw0]; done)
      | fail
    rintro ⟨j, w, s⟩ ⟨hj, hw, hs, hst⟩ ih
    dsimp only at hj hw hs hst ih ⊢
    repeat' first
      | refine EV.seq ?_
      | refine EV.skip ?_
      | refine EV.block ?_
      | (refine EV.reg ?_; (conv => (arg 2; whnf)); (refine nx ?_; try with_reducible exact ⟨⟩))
      | (refine EV.condX rfl (fun h => ?_) (fun h => ?_) <;> try exact dead h)
      | (refine EV.exit rfl ?_)
      | fail
    ·have hsl := startsP_lt hw
     have hor := u32_or (pow32 hs hb) (pow32 hsl hb)
     have hfw := hatf w hw
     have hltw := hlt w hw
     have hwI : (w : Int) < e.frm.length := by omega
     have ef : p.length - j = (p.length - (j + 1)) + 1 := by omega
     rw [ef] at hst
     simp only [chainGo] at hst
     repeat' first
       | refine EV.seq ?_
       | refine EV.skip ?_
       | refine EV.inBlock ?_
       | (refine EV.reg ?_; (conv => (arg 2; whnf)); simp only [wpS, wpA, wpQL, push_cast, Int.cast_ofNat_Int, reduceIte, Nat.reduceEqDiff, reduceCtorEq, Nat.reduceAdd, Nat.reduceSub, Nat.reduceMul, Int.reduceToNat, Nat.reduceLeDiff, hor])
       | ((first | refine ConQ.call (ax_exchanged_q p _ (hs0.mono (PHeap.le_add _ _)) (by omega) _ _ _ _ e.dn (hd0.mono (PHeap.le_add _ _)) w hw hx.dl) ?_ | refine ConQ.call (ax_starts_q p _ (hs0.mono (PHeap.le_add _ _)) hb hp.ord w hw) ?_ | fail); try simp only [wpS, wpA, wpQL, push_cast, Int.cast_ofNat_Int, reduceIte, Nat.reduceEqDiff, reduceCtorEq, Nat.reduceAdd, Nat.reduceSub, Nat.reduceMul, Int.reduceToNat, Nat.reduceLeDiff, hor])
       | with_reducible assumption
       | (refine condW.merge ?_ (fun hc K' hK => ?_) ?_; rotate_left)
       | (refine EV.condX rfl (fun h => ?_) (fun h => ?_) <;> try exact dead h)
       | (refine EV.exit rfl ?_)
       | (refine And.intro (by omega) ?_)
       | ((first | refine Exists.intro _ (And.intro (rd_M (by assumption)) ?_) | refine xrA rfl ?_ | refine xsA rfl ?_ | fail); try simp only [wpS, wpA, wpQL, push_cast, Int.cast_ofNat_Int, reduceIte, Nat.reduceEqDiff, reduceCtorEq, Nat.reduceAdd, Nat.reduceSub, Nat.reduceMul, Int.reduceToNat, Nat.reduceLeDiff, hor])
       | fail
     ·rw [if_neg (show ¬ (exchP p e w = true ∧ 0 ≤ frmAt e w) by simp only [exchP]; grind)] at hst
      refine key _ _ _ ⟨rfl, ?_, rfl⟩
      simp only [hst]
      repeat' first
       | (refine List.forall_mem_cons.2 (And.intro ?_ ?_))
       | (intro _ hnil; cases hnil; done)
       | rfl
       | fail
     ·rw [if_pos (show exchP p e w = true ∧ 0 ≤ frmAt e w by simp only [exchP]; grind)] at hst
      obtain ⟨w1, hw1⟩ := Int.eq_ofNat_of_zero_le (show 0 ≤ frmAt e w by omega)
      rw [hw1, Int.toNat_natCast] at hst
      refine EV.toS (ih (j + 1, w1, s ||| startsP p w) ⟨by dsimp only; omega, by dsimp only; omega, Nat.or_lt_two_pow hs hsl, hst⟩ (by dsimp only; omega)) ?_
      simp only [hw1]
      repeat' first
       | (refine List.forall_mem_cons.2 (And.intro ?_ ?_))
       | (intro _ hnil; cases hnil; done)
       | rfl
       | (refine env_w64 rfl (by first | rfl | (push_cast; first | rfl | omega)) (by omega) (by omega); done)
       | fail
    ·have : p.length - j = 0 := by omega
     rw [this] at hst
     simp only [chainGo] at hst
     refine key _ _ _ ⟨rfl, ?_, rfl⟩
     repeat' first
      | (refine List.forall_mem_cons.2 (And.intro ?_ ?_))
      | (intro _ hnil; cases hnil; done)
      | rfl
      | (simp (disch := omega) only [get_cons, get_nil, reduceIte, Nat.reduceEqDiff, Option.some.injEq, Value.int.injEq, w64, Int.natCast_add, Int.natCast_one, Int.cast_ofNat_Int, Int.natCast_zero, hst]; done)
      | fail
   rintro ρ2 M2 G2 ⟨rfl, hq, rfl⟩
   refine EV.to ?_ hq (List.Sublist.refl _)
   clear hq
   have hh : headsP p e r < 2 ^ p.length := chainGo_lt hx _ _ _ (by omega) (Nat.two_pow_pos _)
   have he := endsP_lt hr'
   repeat' first
     | refine EV.seq ?_
     | refine EV.block ?_
     | (refine EV.reg ?_; (conv => (arg 2; whnf)); (refine nx ?_; try with_reducible exact ⟨⟩))
     | (refine ConQ.call (ax_ends_q p _ (hs0.mono (PHeap.le_add _ _)) hb hp.ord r hr') ?_; try (refine nx ?_; try with_reducible exact ⟨⟩))
     | fail
   refine EV.loopTo (fun x : Nat => ([(0, .slice (some ⟨pb, po, none⟩) p.length c), (3, pv xb 0), (5, vrow rb p.length p.length), (6, vi r), (7, vu (headsP p e r)), (9, vu (endsP p r)), (15, vi p.length), (16, vi r), (70, vi p.length), (71, vi x)], M2, [(xb, Cl 45 [.slice (some ⟨fb, fo, none⟩) e.frm.length fc, .slice da e.dn.length dc, o, n]), (rb, Cl 144 ((orAll q (headsP p e r) (endsP p r) x).map vu))]))
    (fun x => x ≤ p.length) (fun x => p.length - x) 0 rfl (Nat.zero_le _) ?env3 (List.Sublist.refl _) ?_
   case env3 =>
    repeat' first
     | (refine List.forall_mem_cons.2 (And.intro ?_ ?_))
     | (intro _ hnil; cases hnil; done)
     | rfl
     | fail
   intro x hxl ih
   dsimp only at hxl ih ⊢
   have hok2 := orAll_ok (set := headsP p e r) hok he x
   by_cases hx' : x < p.length
   ·have hxI : (x : Int) < p.length := by omega
    have ih4 := ih (x + 1) (by omega) (by omega)
    rw [show orAll q (headsP p e r) (endsP p r) (x + 1) = if (headsP p e r).testBit x then orR (orAll q (headsP p e r) (endsP p r) x) x (endsP p r) else orAll q (headsP p e r) (endsP p r) x from rfl] at ih4
    generalize orAll q (headsP p e r) (endsP p r) x = q2 at *
    generalize headsP p e r = hh2 at *
    generalize endsP p r = ee2 at *
    obtain ⟨hal, ea⟩ := hok2.get hx'
    have hxa := hok2.at hb x
    simp only [orR, ea] at ih4 hxa
    have hqn := hok2.len
    have hbit := u32_bit (b := x) (pow32 hh hb) (by omega)
    have hor := u32_or hxa (pow32 he hb)
    have hxn : ¬ ((x : Int) < 0) := by omega
    clear ih ih3
    repeat' first
      | refine EV.seq ?_
      | refine EV.skip ?_
      | refine EV.block ?_
      | refine EV.inBlock ?_
      | (refine EV.reg ?_; (conv => (arg 2; whnf)); simp only [wpS, wpA, wpQL, push_cast, Int.cast_ofNat_Int, reduceIte, Nat.reduceEqDiff, reduceCtorEq, Nat.reduceAdd, Nat.reduceSub, Nat.reduceMul, Int.reduceToNat, Nat.reduceLeDiff, hbit, hor, hxn, row_st, hx', List.length_map, hqn])
      | (refine Exists.intro _ (And.intro (rowAt (f := vu) hal) ?_); try simp only [wpS, wpA, wpQL, push_cast, Int.cast_ofNat_Int, reduceIte, Nat.reduceEqDiff, reduceCtorEq, Nat.reduceAdd, Nat.reduceSub, Nat.reduceMul, Int.reduceToNat, Nat.reduceLeDiff, hbit, hor, hxn, row_st, hx', List.length_map, hqn])
      | (refine EV.condX rfl (fun h => ?_) (fun h => ?_) <;> try exact dead h)
      | (refine And.intro (by omega) ?_)
      | (refine xw ?_; simp only [wpS, wpA, wpQL, push_cast, Int.cast_ofNat_Int, reduceIte, Nat.reduceEqDiff, reduceCtorEq, Nat.reduceAdd, Nat.reduceSub, Nat.reduceMul, Int.reduceToNat, Nat.reduceLeDiff, hbit, hor, hxn, row_st, hx', List.length_map, hqn])
      | fail
    ·rw [if_pos (by assumption)] at ih4
     refine EV.toS ih4 ?_
     repeat' first
      | (refine List.forall_mem_cons.2 (And.intro ?_ ?_))
      | (intro _ hnil; cases hnil; done)
      | rfl
      | (refine env_w64 rfl (by first | rfl | (push_cast; first | rfl | omega)) (by omega) (by omega); done)
      | fail
    ·rw [if_neg (by simp_all)] at ih4
     refine EV.toS ih4 ?_
     repeat' first
      | (refine List.forall_mem_cons.2 (And.intro ?_ ?_))
      | (intro _ hnil; cases hnil; done)
      | rfl
      | (refine env_w64 rfl (by first | rfl | (push_cast; first | rfl | omega)) (by omega) (by omega); done)
      | fail
   ·have hxe : x = p.length := by omega
    subst hxe
    repeat' first
      | refine EV.seq ?_
      | refine EV.inBlock ?_
      | (refine EV.reg ?_; (conv => (arg 2; whnf)); (refine nx ?_; try with_reducible exact ⟨⟩))
      | (refine EV.condX rfl (fun h => ?_) (fun h => ?_) <;> try exact dead h)
      | (refine EV.exit rfl ?_)
      | fail
    refine EV.toS ih3 ?_
    repeat' first
     | (refine List.forall_mem_cons.2 (And.intro ?_ ?_))
     | (intro _ hnil; cases hnil; done)
     | rfl
     | (refine env_w64 rfl (by first | rfl | (push_cast; first | rfl | omega)) (by omega) (by omega); done)
     | fail
 ·have hxe : r = p.length := by omega
  subst hxe
  have hok := befGo_ok hx p.length (Nat.le_refl _)
  refine Con.callK (ax_close_c hok hb) (PHeap.le_add _ _) ?_
  rintro v M' G' ⟨rfl, rfl⟩
  simp only [wpS, wpA, wpQL, push_cast, Int.cast_ofNat_Int, reduceIte, Nat.reduceEqDiff, reduceCtorEq, Nat.reduceAdd, Nat.reduceSub, Nat.reduceMul, Int.reduceToNat, Nat.reduceLeDiff]
  repeat' first
    | fail
  refine EV.toS (ρ' := [(4, vrow rb p.length p.length)]) (G' := [(rb, Cl 144 ((closeR (befGo p e p.length)).map vu))]) ?_ ?env4
  case env4 =>
   repeat' first
    | (refine List.forall_mem_cons.2 (And.intro ?_ ?_))
    | (intro _ hnil; cases hnil; done)
    | rfl
    | fail
  refine EV.ret Q8_ok ?_
  simp only [wpS, wpA, wpQL, push_cast, Int.cast_ofNat_Int, reduceIte, Nat.reduceEqDiff, reduceCtorEq, Nat.reduceAdd, Nat.reduceSub, Nat.reduceMul, Int.reduceToNat, Nat.reduceLeDiff, Q8]
  exact ⟨rb, rfl, rfl⟩

end
end Go.EV

namespace Go.EV
open Go.Proofs

def numAt (l : List Int) (i : Nat) : Int := l[i]?.getD 0
def comC (q : Rel) (l : List Int) (i : Nat) : Nat → Rel
 | 0 => q
 | j + 1 => putR (comC q l i j) (numAt l i).toNat (numAt l (i + 1 + j)).toNat
def comB (q : Rel) (l : List Int) : Nat → Rel
 | 0 => q
 | i + 1 => comC (comB q l i) l i (l.length - (i + 1))
def comA (q : Rel) (ord : List (List Int)) : Nat → Rel
 | 0 => q
 | k + 1 => comB (comA q ord k) (ord[k]?.getD []) (ord[k]?.getD []).length
def comE (q : Rel) (r : Nat) (fr : Int) (l : List Int) : Nat → Rel × Bool
 | 0 => (q, decide (fr = -1))
 | i + 1 => (if (comE q r fr l i).2 = true ∧ numAt l i ≠ r then putR (comE q r fr l i).1 r (numAt l i).toNat else (comE q r fr l i).1, (comE q r fr l i).2 || decide (numAt l i = fr))
def ordAt (p : List Ev) (e : Exec) (r : Nat) : List Int := e.ord[(evAt p r).op.loc.toNat]?.getD []
def comD1 (q : Rel) (e : Exec) (r : Nat) : Rel := if 0 ≤ frmAt e r then putR q (frmAt e r).toNat r else q
def comD (p : List Ev) (e : Exec) : Nat → Rel
 | 0 => comA (List.replicate p.length 0) e.ord e.ord.length
 | r + 1 => if (evAt p r).reads = true then (comE (comD1 (comD p e r) e r) r (frmAt e r) (ordAt p e r) (ordAt p e r).length).1 else comD p e r
def comP (p : List Ev) (e : Exec) : Rel := closeR (comD p e p.length)

theorem numAt_in {p : List Ev} {l : List Int} (h : InEv p l) {k : Nat} (hk : k < l.length) : 0 ≤ numAt l k ∧ numAt l k < p.length := h.at hk

theorem comC_ok {p : List Ev} {q : Rel} (hq : RelOk p.length q) {l : List Int} (hl : InEv p l) (i : Nat) : ∀ j, i + 1 + j ≤ l.length → RelOk p.length (comC q l i j)
 | 0, _ => hq
 | j + 1, h => by
  have := numAt_in hl (k := i + 1 + j) (by omega)
  exact (comC_ok hq hl i j (by omega)).put _ (by omega)
theorem comB_ok {p : List Ev} {q : Rel} (hq : RelOk p.length q) {l : List Int} (hl : InEv p l) : ∀ i, i ≤ l.length → RelOk p.length (comB q l i)
 | 0, _ => hq
 | i + 1, h => comC_ok (comB_ok hq hl i (by omega)) hl i _ (by omega)
theorem comA_ok {p : List Ev} {q : Rel} (hq : RelOk p.length q) {ord : List (List Int)} (ho : ∀ l ∈ ord, InEv p l ∧ l.length ≤ p.length) : ∀ k, k ≤ ord.length → RelOk p.length (comA q ord k)
 | 0, _ => hq
 | k + 1, h => by
  have hk : k < ord.length := by omega
  have e : ord[k]?.getD [] = ord[k] := by rw [List.getElem?_eq_getElem hk]; rfl
  simp only [comA, e]
  exact comB_ok (comA_ok hq ho k (by omega)) (ho _ (List.getElem_mem hk)).1 _ (Nat.le_refl _)
theorem comE_ok {p : List Ev} {q : Rel} (hq : RelOk p.length q) {r : Nat} {fr : Int} {l : List Int} (hl : InEv p l) : ∀ i, i ≤ l.length → RelOk p.length (comE q r fr l i).1
 | 0, _ => hq
 | i + 1, h => by
  have := numAt_in hl (k := i) (by omega)
  simp only [comE]
  split
  ·exact (comE_ok hq hl i (by omega)).put _ (by omega)
  ·exact comE_ok hq hl i (by omega)
theorem comD1_ok {p : List Ev} {q : Rel} (hq : RelOk p.length q) {e : Exec} {r : Nat} (hr : r < p.length) : RelOk p.length (comD1 q e r) := by
 simp only [comD1]; split
 ·exact hq.put _ hr
 ·exact hq
theorem ordAt_in {p : List Ev} (hp : POk p) {e : Exec} (hx : XOk p e) {r : Nat} (hr : r < p.length) : ∃ h : (evAt p r).op.loc.toNat < e.ord.length, ordAt p e r = e.ord[(evAt p r).op.loc.toNat] ∧ InEv p (ordAt p e r) ∧ (ordAt p e r).length ≤ p.length := by
 have := hp.loc r hr
 have hl : (evAt p r).op.loc.toNat < e.ord.length := by rw [hx.ol]; omega
 have e1 : ordAt p e r = e.ord[(evAt p r).op.loc.toNat] := by simp only [ordAt]; rw [List.getElem?_eq_getElem hl]; rfl
 have := hx.oin _ (List.getElem_mem hl)
 exact ⟨hl, e1, by rw [e1]; exact this.1, by rw [e1]; exact this.2⟩
theorem comD_ok {p : List Ev} (hp : POk p) {e : Exec} (hx : XOk p e) : ∀ r, r ≤ p.length → RelOk p.length (comD p e r)
 | 0, _ => comA_ok (RelOk.zero _) hx.oin _ (Nat.le_refl _)
 | r + 1, h => by
  simp only [comD]
  split
  ·exact comE_ok (comD1_ok (comD_ok hp hx r (by omega)) (by omega)) (ordAt_in hp hx (by omega)).choose_spec.2.1 _ (Nat.le_refl _)
  ·exact comD_ok hp hx r (by omega)

theorem rd_num {M : PHeap} {wb wo : Nat} {l : List Int} (hat : ∀ i (hi : i < l.length), rd M wb (wo + i * 1) 1 (ei l[i])) (i : Nat) (hi : i < l.length) : rd M wb (wo + i) 1 [vi (numAt l i)] := by
 have := hat i hi
 rw [Nat.mul_one] at this
 simp only [numAt]
 rwa [List.getElem?_eq_getElem hi]

section
variable {M : PHeap}

set_option maxHeartbeats 4000000 in
theorem ax_com_c (p : List Ev) (s : Value) (hs : Sl M 6 encEv s p) (hp : POk p) (e : Exec) (v : Value) (hv : IsX M v e) (hx : XOk p e) :
  Con Tryz.prog 123 #[s, v] M [] fun v _ G' => ∃ b, v = vrow b p.length p.length ∧ G' = [(b, Cl 144 ((comP p e).map vu))] := by
 have hs0 := hs
 have hb := hp.len
 obtain ⟨a, c, rfl, hrd⟩ := hs
 obtain ⟨f, d, o, n, rfl, hf, hd, ho, hn⟩ := hv
 obtain ⟨fa, fc, rfl, hrf⟩ := hf
 obtain ⟨oa, oc, ovs, rfl, hol, hro, hko⟩ := ho
 have hfl := hx.fl
 have hol3 := hx.ol
 obtain ⟨ob, oo, rfl, hato⟩ := SlSlC.at hro hol hko (by omega)
 refine Con.enter Q10_ok (args := [.slice a p.length c, .agg #[.slice fa e.frm.length fc, d, .slice (some ⟨ob, oo, none⟩) e.ord.length oc, n]]) (by simp [Q10]) fun w0 => ?_
 simp only [Q10, argE]
 repeat' first
   | refine EV.seq ?_
   | (refine EV.reg ?_; (conv => (arg 2; whnf)); (refine nx ?_; try with_reducible exact ⟨⟩))
   | (with_reducible intro b; try (refine nx ?_; try with_reducible exact ⟨⟩))
   | fail
 rename Nat => xb
 refine Con.callB (G1 := []) (ax_relation_c _ p (hs0.mono (PHeap.le_add _ _)) hb) (PHeap.le_refl _) (List.Perm.refl _) ?_
 rintro v M' G' ⟨rb, rfl, rfl⟩
 simp only [wpS, wpA, wpQL, push_cast, Int.cast_ofNat_Int, reduceIte, Nat.reduceEqDiff, reduceCtorEq, Nat.reduceAdd, Nat.reduceSub, Nat.reduceMul, Int.reduceToNat, Nat.reduceLeDiff]
 repeat' first
   | refine EV.seq ?_
   | refine EV.block ?_
   | (refine EV.reg ?_; (conv => (arg 2; whnf)); (refine nx ?_; try with_reducible exact ⟨⟩))
   | (refine xsA rfl ?_; try (refine nx ?_; try with_reducible exact ⟨⟩))
   | fail
 refine EV.loopTo (fun k : Nat => ([(0, .slice a p.length c), (3, pv xb 0), (5, vrow rb p.length p.length), (20, .slice (some ⟨ob, oo, none⟩) e.ord.length oc), (21, vi e.ord.length), (22, vi k)], M,
   [(xb, Cl 45 [.slice fa e.frm.length fc, d, .slice (some ⟨ob, oo, none⟩) e.ord.length oc, n]), (rb, Cl 144 ((comA (List.replicate p.length 0) e.ord k).map vu))]))
  (fun k => k ≤ e.ord.length) (fun k => e.ord.length - k) 0 rfl (Nat.zero_le _) ?env1 (List.Sublist.refl _) ?_
 case env1 =>
  repeat' first
   | (refine List.forall_mem_cons.2 (And.intro ?_ ?_))
   | (intro _ hnil; cases hnil; done)
   | rfl
   | fail
 intro k hk ih
 dsimp only at hk ih ⊢
 repeat' first
   | refine EV.seq ?_
   | refine EV.skip ?_
   | refine EV.block ?_
   | (refine EV.reg ?_; (conv => (arg 2; whnf)); (refine nx ?_; try with_reducible exact ⟨⟩))
   | (refine EV.condX rfl (fun h => ?_) (fun h => ?_) <;> try exact dead h)
   | (refine EV.exit rfl ?_)
   | (refine And.intro (by omega) ?_)
   | (refine xsA rfl ?_; try (refine nx ?_; try with_reducible exact ⟨⟩))
   | fail
 ·have hk' : k < e.ord.length := by omega
  obtain ⟨la, lc, hr1, hlc, hr2⟩ := hato k hk'
  rw [Nat.mul_one] at hr1
  obtain ⟨hin, hln⟩ := hx.oin _ (List.getElem_mem hk')
  have hokA := comA_ok (RelOk.zero p.length) hx.oin k (by omega)
  have ih1 := ih (k + 1) (by omega) (by omega)
  have eo : e.ord[k]?.getD [] = e.ord[k] := by rw [List.getElem?_eq_getElem hk']; rfl
  simp only [comA, eo] at ih1
  generalize e.ord[k] = l at *
  generalize comA (List.replicate p.length 0) e.ord k = q at *
  clear ih
  repeat' first
    | refine EV.seq ?_
    | refine EV.block ?_
    | (refine EV.reg ?_; (conv => (arg 2; whnf)); (refine nx ?_; try with_reducible exact ⟨⟩))
    | (refine Exists.intro _ (Exists.intro _ (Exists.intro _ (And.intro (rd_M (by assumption)) ?_))); try (refine nx ?_; try with_reducible exact ⟨⟩))
    | fail
  refine EV.loopTo (fun i : Nat => ([(0, .slice a p.length c), (3, pv xb 0), (5, vrow rb p.length p.length), (7, .slice la l.length lc), (20, .slice (some ⟨ob, oo, none⟩) e.ord.length oc), (21, vi e.ord.length), (22, vi k), (26, .slice la l.length lc), (27, vi l.length), (28, vi i)], M,
    [(xb, Cl 45 [.slice fa e.frm.length fc, d, .slice (some ⟨ob, oo, none⟩) e.ord.length oc, n]), (rb, Cl 144 ((comB q l i).map vu))]))
   (fun i => i ≤ l.length) (fun i => l.length - i) 0 rfl (Nat.zero_le _) ?env2 (List.Sublist.refl _) ?_
  case env2 =>
   repeat' first
    | (refine List.forall_mem_cons.2 (And.intro ?_ ?_))
    | (intro _ hnil; cases hnil; done)
    | rfl
    | fail
  intro i hi ih
  dsimp only at hi ih ⊢
  repeat' first
    | refine EV.seq ?_
    | refine EV.skip ?_
    | refine EV.block ?_
    | refine EV.inBlock ?_
    | (refine EV.reg ?_; (conv => (arg 2; whnf)); (refine nx ?_; try with_reducible exact ⟨⟩))
    | (refine EV.condX rfl (fun h => ?_) (fun h => ?_) <;> try exact dead h)
    | (refine EV.exit rfl ?_)
    | fail
  ·have hi' : i < l.length := by omega
   obtain ⟨wb, wo, rfl, hatl⟩ := Sl.at (sz := 1) (enc := ei) (fun _ => rfl) (by decide) hr2 (by omega)
   have hatl := rd_num hatl
   have hli := hatl i hi'
   have hiin := numAt_in hin hi'
   have hokB := comB_ok hokA hin i hi
   have ih2 := ih (i + 1) (by omega) (by omega)
   simp only [comB] at ih2
   generalize comB q l i = q2 at *
   clear ih
   have hw1 : IntKind.i64.wrap ((i : Int) + 1) = ((i + 1 : Nat) : Int) := w64 (by omega) (by omega)
   repeat' first
     | refine EV.seq ?_
     | (refine EV.reg ?_; (conv => (arg 2; whnf)); simp only [wpS, wpA, wpQL, push_cast, Int.cast_ofNat_Int, reduceIte, Nat.reduceEqDiff, reduceCtorEq, Nat.reduceAdd, Nat.reduceSub, Nat.reduceMul, Int.reduceToNat, Nat.reduceLeDiff, hw1])
     | (refine And.intro (by omega) ?_)
     | (refine Exists.intro _ (And.intro (rd_M (by assumption)) ?_); try simp only [wpS, wpA, wpQL, push_cast, Int.cast_ofNat_Int, reduceIte, Nat.reduceEqDiff, reduceCtorEq, Nat.reduceAdd, Nat.reduceSub, Nat.reduceMul, Int.reduceToNat, Nat.reduceLeDiff, hw1])
     | fail
   simp only [Option.map_some, onv_some]
   refine ⟨i + 1, by simp, by omega, hlc, Or.inr rfl, ?_⟩
   obtain ⟨ro, hro', ero⟩ := sl_from (wb := wb) (wo := wo) (n := l.length) (c := lc) (i := i + 1) hlc
   rw [ero]
   have hIn : (((l.length - (i + 1) : Nat)) : Int) = ((l.length - (i + 1) : Nat) : Int) := rfl
   generalize hm : l.length - (i + 1) = m at *
   refine EV.block ?_
   refine EV.loopTo (fun j : Nat => ([(0, .slice a p.length c), (3, pv xb 0), (5, vrow rb p.length p.length), (7, .slice (some ⟨wb, wo, none⟩) l.length lc), (8, vi i), (9, vi (numAt l i)), (20, .slice (some ⟨ob, oo, none⟩) e.ord.length oc), (21, vi e.ord.length), (22, vi k), (26, .slice (some ⟨wb, wo, none⟩) l.length lc), (27, vi l.length), (28, vi i),
     (36, .slice (some ⟨wb, ro, none⟩) m (lc - (i + 1))), (37, vi m), (38, vi j)], M,
     [(xb, Cl 45 [.slice fa e.frm.length fc, d, .slice (some ⟨ob, oo, none⟩) e.ord.length oc, n]), (rb, Cl 144 ((comC q2 l i j).map vu))]))
    (fun j => j ≤ m) (fun j => m - j) 0 rfl (Nat.zero_le _) ?env3 (List.Sublist.refl _) ?_
   case env3 =>
    repeat' first
     | (refine List.forall_mem_cons.2 (And.intro ?_ ?_))
     | (intro _ hnil; cases hnil; done)
     | rfl
     | fail
   intro j hj ih
   dsimp only at hj ih ⊢
   repeat' first
     | refine EV.seq ?_
     | refine EV.skip ?_
     | refine EV.block ?_
     | refine EV.inBlock ?_
     | (refine EV.reg ?_; (conv => (arg 2; whnf)); (refine nx ?_; try with_reducible exact ⟨⟩))
     | (refine EV.condX rfl (fun h => ?_) (fun h => ?_) <;> try exact dead h)
     | (refine EV.exit rfl ?_)
     | (refine And.intro (by omega) ?_)
     | fail
   ·have hj' : j < m := by omega
    have hro2 := hro' (by omega)
    subst hro2
    have hlj := hatl (i + 1 + j) (by omega)
    rw [← Nat.add_assoc] at hlj
    have hjin := numAt_in hin (k := i + 1 + j) (by omega)
    have hokC := comC_ok hokB hin i j (by omega)
    have ih3 := ih (j + 1) (by omega) (by omega)
    simp only [comC] at ih3
    clear ih
    repeat' first
      | (refine EV.reg ?_; (conv => (arg 2; whnf)); (refine nx ?_; try with_reducible exact ⟨⟩))
      | (refine Exists.intro _ (And.intro (rd_M (by assumption)) ?_); try (refine nx ?_; try with_reducible exact ⟨⟩))
      | fail
    refine Con.callK (ax_putI_c hokC hb hiin.1 hiin.2 hjin.1 hjin.2) (PHeap.le_add _ _) ?_
    rintro v M'' G' rfl
    simp only [wpS, wpA, wpQL, push_cast, Int.cast_ofNat_Int, reduceIte, Nat.reduceEqDiff, reduceCtorEq, Nat.reduceAdd, Nat.reduceSub, Nat.reduceMul, Int.reduceToNat, Nat.reduceLeDiff]
    repeat' first
      | refine EV.inBlock ?_
      | (refine EV.reg ?_; (conv => (arg 2; whnf)); (refine nx ?_; try with_reducible exact ⟨⟩))
      | fail
    refine EV.toS ih3 ?_
    repeat' first
     | (refine List.forall_mem_cons.2 (And.intro ?_ ?_))
     | (intro _ hnil; cases hnil; done)
     | rfl
     | (refine env_w64 rfl (by first | rfl | (push_cast; first | rfl | omega)) (by omega) (by omega); done)
     | fail
   ·have hje : j = m := by omega
    subst hje
    refine EV.toS ih2 ?_
    repeat' first
     | (refine List.forall_mem_cons.2 (And.intro ?_ ?_))
     | (intro _ hnil; cases hnil; done)
     | rfl
     | (refine env_w64 rfl (by first | rfl | (push_cast; first | rfl | omega)) (by omega) (by omega); done)
     | fail
  ·have hie : i = l.length := by omega
   subst hie
   refine EV.toS ih1 ?_
   repeat' first
    | (refine List.forall_mem_cons.2 (And.intro ?_ ?_))
    | (intro _ hnil; cases hnil; done)
    | rfl
    | (refine env_w64 rfl (by first | rfl | (push_cast; first | rfl | omega)) (by omega) (by omega); done)
    | fail
 ·have hke : k = e.ord.length := by omega
  subst hke
  clear ih
  repeat' first
    | fail
  refine EV.loopTo (fun r : Nat => ([(0, .slice a p.length c), (3, pv xb 0), (5, vrow rb p.length p.length), (50, .slice fa e.frm.length fc), (51, vi e.frm.length), (52, vi r)], M,
    [(xb, Cl 45 [.slice fa e.frm.length fc, d, .slice (some ⟨ob, oo, none⟩) e.ord.length oc, n]), (rb, Cl 144 ((comD p e r).map vu))]))
   (fun r => r ≤ e.frm.length) (fun r => e.frm.length - r) 0 rfl (Nat.zero_le _) ?env4 (List.Sublist.refl _) ?_
  case env4 =>
   repeat' first
    | (refine List.forall_mem_cons.2 (And.intro ?_ ?_))
    | (intro _ hnil; cases hnil; done)
    | rfl
    | fail
  intro r hr ih
  dsimp only at hr ih ⊢
  repeat' first
    | refine EV.seq ?_
    | refine EV.skip ?_
    | refine EV.block ?_
    | (refine EV.reg ?_; (conv => (arg 2; whnf)); (refine nx ?_; try with_reducible exact ⟨⟩))
    | (refine EV.condX rfl (fun h => ?_) (fun h => ?_) <;> try exact dead h)
    | (refine EV.exit rfl ?_)
    | fail
  ·have hr' : r < p.length := by omega
   obtain ⟨pb, po, rfl, hat⟩ := Sl.at (enc := encEv) (fun _ => rfl) (by decide) hrd (by omega)
   obtain ⟨fb, fo, rfl, hat2⟩ := Sl.at (sz := 1) (enc := ei) (fun _ => rfl) (by decide) hrf (by omega)
   have hpr := Sl.evAt hat r hr'
   have hpr1 := hpr.pt 1 1 (by omega) rfl
   have hfr : rd M fb (fo + r) 1 [vi (frmAt e r)] := rd_num hat2 r (by omega)
   obtain ⟨hltr, hlo⟩ := hx.fr r hr'
   obtain ⟨hlc, eo, hin, hln⟩ := ordAt_in hp hx hr'
   have hloc := hp.loc r hr'
   obtain ⟨la, lc, hr1, _, hr2⟩ := hato _ hlc
   rw [← eo] at hr1 hr2
   rw [Nat.mul_one] at hr1
   have hlocI : (evAt p r).op.loc < (e.ord.length : Int) := by omega
   have hokD := comD_ok hp hx r (by omega)
   have ih1 := ih (r + 1) (by omega) (by omega)
   simp only [comD] at ih1
   have hokD1 := comD1_ok (e := e) hokD hr'
   have hD1 : comD1 (comD p e r) e r = if 0 ≤ frmAt e r then putR (comD p e r) (frmAt e r).toNat r else comD p e r := rfl
   generalize comD p e r = q at *
   generalize ordAt p e r = l at *
   change frmAt e r < _ at hltr
   clear ih hat hat2 eo
   cases hre : (evAt p r).reads with
   | false =>
    rw [if_neg (by rw [hre]; simp)] at ih1
    repeat' first
      | refine EV.seq ?_
      | (refine EV.reg ?_; (conv => (arg 2; whnf)); simp only [wpS, wpA, wpQL, push_cast, Int.cast_ofNat_Int, reduceIte, Nat.reduceEqDiff, reduceCtorEq, Nat.reduceAdd, Nat.reduceSub, Nat.reduceMul, Int.reduceToNat, Nat.reduceLeDiff, hre])
      | (refine ConQ.call (ax_reads_q (evAt p r)) ?_; try simp only [wpS, wpA, wpQL, push_cast, Int.cast_ofNat_Int, reduceIte, Nat.reduceEqDiff, reduceCtorEq, Nat.reduceAdd, Nat.reduceSub, Nat.reduceMul, Int.reduceToNat, Nat.reduceLeDiff, hre])
      | (refine EV.condX rfl (fun h => ?_) (fun h => ?_) <;> try exact dead h)
      | (refine EV.exit rfl ?_)
      | (refine And.intro (by omega) ?_)
      | (refine Exists.intro _ (And.intro (rd_M (by assumption)) ?_); try simp only [wpS, wpA, wpQL, push_cast, Int.cast_ofNat_Int, reduceIte, Nat.reduceEqDiff, reduceCtorEq, Nat.reduceAdd, Nat.reduceSub, Nat.reduceMul, Int.reduceToNat, Nat.reduceLeDiff, hre])
      | fail
    refine EV.toS ih1 ?_
    repeat' first
     | (refine List.forall_mem_cons.2 (And.intro ?_ ?_))
     | (intro _ hnil; cases hnil; done)
     | rfl
     | (refine env_w64 rfl (by first | rfl | (push_cast; first | rfl | omega)) (by omega) (by omega); done)
     | fail
   | true =>
    rw [if_pos hre] at ih1
    repeat' first
      | (refine And.intro (by omega) ?_)
      | (refine Exists.intro _ (And.intro (rd_M (by assumption)) ?_); try (refine nx ?_; try with_reducible exact ⟨⟩))
      | fail
    refine EV.seq ?_
    refine EV.seq ?_
    repeat' first
      | refine EV.skip ?_
      | (refine EV.reg ?_; (conv => (arg 2; whnf)); simp only [wpS, wpA, wpQL, push_cast, Int.cast_ofNat_Int, reduceIte, Nat.reduceEqDiff, reduceCtorEq, Nat.reduceAdd, Nat.reduceSub, Nat.reduceMul, Int.reduceToNat, Nat.reduceLeDiff, hre])
      | (refine ConQ.call (ax_reads_q (evAt p r)) ?_; try simp only [wpS, wpA, wpQL, push_cast, Int.cast_ofNat_Int, reduceIte, Nat.reduceEqDiff, reduceCtorEq, Nat.reduceAdd, Nat.reduceSub, Nat.reduceMul, Int.reduceToNat, Nat.reduceLeDiff, hre])
      | (refine EV.condX rfl (fun h => ?_) (fun h => ?_) <;> try exact dead h)
      | (refine And.intro (by omega) ?_)
      | (refine Exists.intro _ (And.intro (rd_M (by assumption)) ?_); try simp only [wpS, wpA, wpQL, push_cast, Int.cast_ofNat_Int, reduceIte, Nat.reduceEqDiff, reduceCtorEq, Nat.reduceAdd, Nat.reduceSub, Nat.reduceMul, Int.reduceToNat, Nat.reduceLeDiff, hre])
      | fail
    refine EV.seq (EV.thru (fun ρ' M' G' => M' = M ∧ (∀ q ∈ [(0, .slice (some ⟨pb, po, none⟩) p.length c), (3, pv xb 0), (5, vrow rb p.length p.length), (12, vi r), (13, vi (frmAt e r)), (50, .slice (some ⟨fb, fo, none⟩) e.frm.length fc), (51, vi e.frm.length), (52, vi r)], get ρ' q.1 = some q.2) ∧
     G' = [(xb, Cl 45 [.slice (some ⟨fb, fo, none⟩) e.frm.length fc, d, .slice (some ⟨ob, oo, none⟩) e.ord.length oc, n]), (rb, Cl 144 ((comD1 q e r).map vu))]) ?_ ?_)
    ·intro k' key
     clear ih1
     rw [hD1] at key
     repeat' first
       | refine EV.seq ?_
       | refine EV.skip ?_
       | (refine EV.reg ?_; (conv => (arg 2; whnf)); (refine nx ?_; try with_reducible exact ⟨⟩))
       | (refine EV.condX rfl (fun h => ?_) (fun h => ?_) <;> try exact dead h)
       | fail
     ·refine Con.callK (ax_putI_c hokD hb (by omega) hltr (by omega) (by omega)) (PHeap.le_add _ _) ?_
      rintro v M'' G' rfl
      simp only [wpS, wpA, wpQL, push_cast, Int.cast_ofNat_Int, reduceIte, Nat.reduceEqDiff, reduceCtorEq, Nat.reduceAdd, Nat.reduceSub, Nat.reduceMul, Int.reduceToNat, Nat.reduceLeDiff]
      repeat' first
        | fail
      rw [if_pos (by omega)] at key
      refine EV.reS (key _ _ _ ⟨rfl, ?_, rfl⟩)
      repeat' first
       | (refine List.forall_mem_cons.2 (And.intro ?_ ?_))
       | (intro _ hnil; cases hnil; done)
       | rfl
       | fail
     ·rw [if_neg (by omega)] at key
      refine EV.reS (key _ _ _ ⟨rfl, ?_, rfl⟩)
      repeat' first
       | (refine List.forall_mem_cons.2 (And.intro ?_ ?_))
       | (intro _ hnil; cases hnil; done)
       | rfl
       | fail
    rintro ρ2 M2 G2 ⟨rfl, hq, rfl⟩
    refine EV.to ?_ hq (List.Sublist.refl _)
    clear hq hD1
    generalize comD1 q e r = q1 at *
    repeat' first
      | refine EV.seq ?_
      | refine EV.block ?_
      | ((first | refine EV.reg ?_ | refine EV.any _ (List.Sublist.refl _) ?_ | fail); (conv => (arg 2; whnf)); (refine nx ?_; try with_reducible exact ⟨⟩))
      | (refine And.intro (by omega) ?_)
      | ((first | refine Exists.intro _ (And.intro (rd_M (by assumption)) ?_) | refine Exists.intro _ (Exists.intro _ (Exists.intro _ (And.intro (rd_M (by assumption)) ?_))) | refine xsA rfl ?_ | fail); try (refine nx ?_; try with_reducible exact ⟨⟩))
      | fail
    refine EV.loopTo (fun i : Nat => ([(0, .slice (some ⟨pb, po, none⟩) p.length c), (3, pv xb 0), (5, vrow rb p.length p.length), (12, vi r), (13, vi (frmAt e r)), (14, vb (comE q1 r (frmAt e r) l i).2), (50, .slice (some ⟨fb, fo, none⟩) e.frm.length fc), (51, vi e.frm.length), (52, vi r), (80, .slice la l.length lc), (81, vi l.length), (82, vi i)], M2,
      [(xb, Cl 45 [.slice (some ⟨fb, fo, none⟩) e.frm.length fc, d, .slice (some ⟨ob, oo, none⟩) e.ord.length oc, n]), (rb, Cl 144 ((comE q1 r (frmAt e r) l i).1.map vu))]))
     (fun i => i ≤ l.length) (fun i => l.length - i) 0 rfl (Nat.zero_le _) ?env5 (List.Sublist.refl _) ?_
    case env5 =>
     repeat' first
      | (refine List.forall_mem_cons.2 (And.intro ?_ ?_))
      | (intro _ hnil; cases hnil; done)
      | rfl
      | fail
    intro i hi ih
    dsimp only at hi ih ⊢
    repeat' first
      | refine EV.seq ?_
      | refine EV.skip ?_
      | refine EV.block ?_
      | refine EV.inBlock ?_
      | (refine EV.reg ?_; (conv => (arg 2; whnf)); (refine nx ?_; try with_reducible exact ⟨⟩))
      | (refine EV.condX rfl (fun h => ?_) (fun h => ?_) <;> try exact dead h)
      | (refine EV.exit rfl ?_)
      | fail
    ·have hi' : i < l.length := by omega
     obtain ⟨wb, wo, rfl, hatl⟩ := Sl.at (sz := 1) (enc := ei) (fun _ => rfl) (by decide) hr2 (by omega)
     have hli := rd_num hatl i hi'
     have hiin := numAt_in hin hi'
     have hokE := comE_ok (r := r) (fr := frmAt e r) hokD1 hin i hi
     have ih2 := ih (i + 1) (by omega) (by omega)
     simp only [comE] at ih2
     generalize comE q1 r (frmAt e r) l i = qe at *
     obtain ⟨qe1, qe2⟩ := qe
     dsimp only at hokE ih2 ⊢
     clear ih ih1 hatl
     repeat' first
       | refine EV.seq ?_
       | refine EV.skip ?_
       | refine EV.inBlock ?_
       | (refine EV.reg ?_; (conv => (arg 2; whnf)); (refine nx ?_; try with_reducible exact ⟨⟩))
       | with_reducible assumption
       | (refine condW.merge ?_ (fun hc K' hK => ?_) ?_; rotate_left)
       | (refine EV.condX rfl (fun h => ?_) (fun h => ?_) <;> try exact dead h)
       | (refine And.intro (by omega) ?_)
       | (refine Exists.intro _ (And.intro (rd_M (by assumption)) ?_); try (refine nx ?_; try with_reducible exact ⟨⟩))
       | fail
     ·refine Con.callK (ax_putI_c hokE hb (by omega) (by omega) hiin.1 hiin.2) (PHeap.le_add _ _) ?_
      rintro v M'' G' rfl
      simp only [wpS, wpA, wpQL, push_cast, Int.cast_ofNat_Int, reduceIte, Nat.reduceEqDiff, reduceCtorEq, Nat.reduceAdd, Nat.reduceSub, Nat.reduceMul, Int.reduceToNat, Nat.reduceLeDiff]
      rw [if_pos (by simp_all)] at ih2
      repeat' first
        | refine EV.inBlock ?_
        | (refine EV.reg ?_; (conv => (arg 2; whnf)); (refine nx ?_; try with_reducible exact ⟨⟩))
        | with_reducible assumption
        | (refine condW.merge ?_ (fun hc K' hK => ?_) ?_; rotate_left)
        | fail
      refine EV.toS ih2 ?_
      repeat' first
       | (refine List.forall_mem_cons.2 (And.intro ?_ ?_))
       | (intro _ hnil; cases hnil; done)
       | rfl
       | (refine env_w64 rfl (by first | rfl | (push_cast; first | rfl | omega)) (by omega) (by omega); done)
       | fail
     ·rw [if_neg (by grind)] at ih2
      refine EV.toS ih2 ?_
      repeat' first
       | (refine List.forall_mem_cons.2 (And.intro ?_ ?_))
       | (intro _ hnil; cases hnil; done)
       | rfl
       | (refine env_w64 rfl (by first | rfl | (push_cast; first | rfl | omega)) (by omega) (by omega); done)
       | fail
    ·have hie : i = l.length := by omega
     subst hie
     refine EV.toS ih1 ?_
     repeat' first
      | (refine List.forall_mem_cons.2 (And.intro ?_ ?_))
      | (intro _ hnil; cases hnil; done)
      | rfl
      | (refine env_w64 rfl (by first | rfl | (push_cast; first | rfl | omega)) (by omega) (by omega); done)
      | fail
  ·have hre : r = e.frm.length := by omega
   subst hre
   have hok := comD_ok hp hx p.length (Nat.le_refl _)
   rw [hfl]
   refine Con.callK (ax_close_c hok hb) (PHeap.le_add _ _) ?_
   rintro v M' G' ⟨rfl, rfl⟩
   simp only [wpS, wpA, wpQL, push_cast, Int.cast_ofNat_Int, reduceIte, Nat.reduceEqDiff, reduceCtorEq, Nat.reduceAdd, Nat.reduceSub, Nat.reduceMul, Int.reduceToNat, Nat.reduceLeDiff]
   repeat' first
     | fail
   refine EV.toS (ρ' := [(4, vrow rb p.length p.length)]) (G' := [(rb, Cl 144 ((closeR (comD p e p.length)).map vu))]) ?_ ?env6
   case env6 =>
    repeat' first
     | (refine List.forall_mem_cons.2 (And.intro ?_ ?_))
     | (intro _ hnil; cases hnil; done)
     | rfl
     | fail
   refine EV.ret Q10_ok ?_
   simp only [wpS, wpA, wpQL, push_cast, Int.cast_ofNat_Int, reduceIte, Nat.reduceEqDiff, reduceCtorEq, Nat.reduceAdd, Nat.reduceSub, Nat.reduceMul, Int.reduceToNat, Nat.reduceLeDiff, Q10]
   exact ⟨rb, rfl, rfl⟩

end
end Go.EV
