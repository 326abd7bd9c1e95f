/- Part of the proof of a statement about executions of litmus programs: walks and laws. -/
import Derived.Test.YtmgnpoleilcjoaaGreatVPab
import Derived.RangeFuncIn
import Derived.RangeFuncNested
set_option maxRecDepth 8000
set_option linter.unusedSimpArgs false
set_option linter.unusedVariables false
set_option linter.unusedSectionVars false
namespace Go.EV
open Go.Proofs
theorem Sl.ints {H : Aa} {b off : Nat} {xs : List Int} (h : rd H b off xs.length (xs.map vi)) : ∀ i (hi : i < xs.length), rd H b (off + i) 1 [vi xs[i]] := by
 intro i hi
 have := h.part (i := i) (m := 1) (by omega)
 rwa [show ((xs.map vi).drop i).take 1 = [vi xs[i]] from by
  rw [List.drop_eq_getElem_cons (by simpa using hi)]; simp] at this
section
variable {M : Aa}
def mx (xs : List Int) (i : Nat) : Int := (xs.take i).foldl (fun a b => if b > a then b else a) (xs.headD 0)
theorem At1 {xs : List Int} {i : Nat} (hi : i < xs.length) : mx xs (i + 1) = if xs[i] > mx xs i then xs[i] else mx xs i := by
 simp only [mx, List.take_succ_eq_append_getElem hi, List.foldl_append, List.foldl_cons, List.foldl_nil]
 rfl
theorem R7 (H : Aa) (b off c : Nat) (xs : List Int) (h0 : 0 < xs.length) (hl : xs.length < 1000000) (h : rd H b off xs.length (xs.map vi)) : Aq Tryz.prog 98 #[.slice (some ⟨b, off, none⟩) xs.length c] H (vi (mx xs xs.length)) := by
 have hr := Sl.ints h
 have uS : rd H b off 1 [vi xs[0]] := hr 0 h0
 have dO : xs[0] = mx xs 1 := by cases xs with | nil => simp at h0 | cons x xs => simp [mx]
 refine Con.enter Q115_ok (args := [.slice (some ⟨b, off, none⟩) xs.length c]) (by simp [Eg7]) fun w0 => ?_
 simp only [Eg7, A5]
 repeat' first
   | refine EV.seq ?_
   | refine EV.skip ?_
   | refine EV.block ?_
   | refine rg ?_
   | (refine cX (fun h => ?_) (fun h => ?_) <;> try exact Ah h)
   | (refine And.intro (by omega) ?_)
   | (refine xm ?_; try refine nx ?_)
   | exact ⟨⟩
   | fail
 ·refine EV.to (ρ' := [(0, .slice (some ⟨b, off, none⟩) xs.length c), (3, vi (mx xs 1)), (4, vi (1 : Nat))]) ?_ (by simp [get, dO]) (List.Sublist.refl _)
  refine EV.loop (fun i : Nat => ([(0, .slice (some ⟨b, off, none⟩) xs.length c), (3, vi (mx xs i)), (4, vi i)], H, [])) (fun i => 1 ≤ i ∧ i ≤ xs.length) (fun i => xs.length - i) 1 ⟨by omega, by omega⟩ ?_
  intro i ⟨qu, bk⟩ ih
  dsimp only at ih ⊢
  repeat' first
    | refine EV.seq ?_
    | refine EV.skip ?_
    | refine EV.block ?_
    | refine rg ?_
    | (refine cX (fun h => ?_) (fun h => ?_) <;> try exact Ah h)
    | (refine EV.exit rfl ?_)
    | refine rt Q115_ok ?_
    | (refine And.intro (by omega) ?_)
    | exact ⟨⟩
    | fail
  ·have hi : i < xs.length := by omega
   refine ⟨_, Ak1 (hr i hi), ?_⟩
   repeat' first
     | refine EV.inBlock ?_
     | refine rg ?_
     | exact ⟨⟩
     | fail
   refine EV.to (ih (i + 1) ⟨by omega, by omega⟩ (by omega)) ?_ (List.Sublist.refl _)
   repeat' first
    | (refine List.forall_mem_cons.2 (And.intro ?_ ?_))
    | (intro _ b8; cases b8; done)
    | rfl
    | (refine Yu rfl (by first | rfl | (push_cast; first | rfl | omega)) (by omega) (by omega); done)
    | (simp (disch := omega) only [Am, Au, reduceIte, Nat.reduceEqDiff, Option.some.injEq, Value.int.injEq, w64, Int.natCast_add, Int.natCast_one, Int.cast_ofNat_Int, Int.natCast_zero, At1 hi]; done)
    | fail
  ·rw [show i = xs.length from by omega]
structure LimS where
 acc : Int
 fen : Int
 w0 : Int
 w1 : Int
 w2 : Int
def Ak (s : LimS) (o : OpV) : LimS :=
 if o.kind = 5 then { s with fen := s.fen + 1 }
 else if Bj o = true then
  {acc := s.acc + 1, fen := if o.ord = 4 then s.fen + 2 else s.fen,
   w0 := if o.kind ≠ 0 ∧ o.loc = 0 then s.w0 + 1 else s.w0, w1 := if o.kind ≠ 0 ∧ o.loc = 1 then s.w1 + 1 else s.w1, w2 := if o.kind ≠ 0 ∧ o.loc = 2 then s.w2 + 1 else s.w2 }
 else s
def Bb (l : List OpV) : LimS := l.foldl Ak ⟨0, 0, 0, 0, 0⟩
def Fk (ts : List (List OpV)) : Bool :=
 decide (ts.length ≤ 3) && decide ((Bb ts.flatten).acc ≤ 6) && decide ((Bb ts.flatten).fen ≤ 8) && decide ((Bb ts.flatten).w0 ≤ 4) && decide ((Bb ts.flatten).w1 ≤ 4) && decide ((Bb ts.flatten).w2 ≤ 4)
theorem R8 (l : List OpV) : 0 ≤ (Bb l).acc ∧ (Bb l).acc ≤ l.length ∧ 0 ≤ (Bb l).fen ∧ (Bb l).fen ≤ 2 * l.length ∧ 0 ≤ (Bb l).w0 ∧ (Bb l).w0 ≤ l.length ∧ 0 ≤ (Bb l).w1 ∧ (Bb l).w1 ≤ l.length ∧ 0 ≤ (Bb l).w2 ∧ (Bb l).w2 ≤ l.length := by
 have key : ∀ (l : List OpV) (s : LimS), s.acc ≤ (l.foldl Ak s).acc ∧ (l.foldl Ak s).acc ≤ s.acc + l.length ∧ s.fen ≤ (l.foldl Ak s).fen ∧ (l.foldl Ak s).fen ≤ s.fen + 2 * l.length ∧ s.w0 ≤ (l.foldl Ak s).w0 ∧ (l.foldl Ak s).w0 ≤ s.w0 + l.length ∧ s.w1 ≤ (l.foldl Ak s).w1 ∧ (l.foldl Ak s).w1 ≤ s.w1 + l.length ∧ s.w2 ≤ (l.foldl Ak s).w2 ∧ (l.foldl Ak s).w2 ≤ s.w2 + l.length := by
  intro l
  induction l with
  | nil => intro s; simp
  | cons o l ih =>
   intro s
   have := ih (Ak s o)
   simp only [List.foldl_cons, List.length_cons]
   have h2 : s.acc ≤ (Ak s o).acc ∧ (Ak s o).acc ≤ s.acc + 1 ∧ s.fen ≤ (Ak s o).fen ∧ (Ak s o).fen ≤ s.fen + 2 ∧ s.w0 ≤ (Ak s o).w0 ∧ (Ak s o).w0 ≤ s.w0 + 1 ∧ s.w1 ≤ (Ak s o).w1 ∧ (Ak s o).w1 ≤ s.w1 + 1 ∧ s.w2 ≤ (Ak s o).w2 ∧ (Ak s o).w2 ≤ s.w2 + 1 := by
    unfold Ak
    split
    ·simp; omega
    ·split
     ·simp only []
      refine ⟨?_, ?_, ?_, ?_, ?_, ?_, ?_, ?_, ?_, ?_⟩ <;> (repeat' split) <;> omega
     ·simp; omega
   omega
 have := key l ⟨0, 0, 0, 0, 0⟩
 dsimp only at this
 unfold Bb
 omega
theorem Dl {α : Type} {ts : List (List α)} {i : Nat} (hi : i < ts.length) : (ts.take (i + 1)).flatten = (ts.take i).flatten ++ ts[i] := by
 rw [List.take_succ_eq_append_getElem hi, List.flatten_append]; simp
theorem Ce {α : Type} (ts : List (List α)) (i : Nat) : (ts.take i).flatten.length ≤ ts.flatten.length := by
 have : ts.flatten = (ts.take i).flatten ++ (ts.drop i).flatten := by rw [← List.flatten_append, List.take_append_drop]
 rw [this]; simp
structure Sized {α : Type} (ts : List (List α)) : Prop where
 len : ts.length ≤ 281474976710656
 each : ∀ t ∈ ts, t.length ≤ 281474976710656
theorem Qm {α : Type} {B : Nat} : ∀ {ts : List (List α)}, (∀ t ∈ ts, t.length ≤ B) → ts.flatten.length ≤ ts.length * B
 | [], _ => by simp
 | t :: ts, h => by
  have h1 := Qm (ts := ts) fun x hx => h x (List.mem_cons_of_mem _ hx)
  have h2 := h t (List.mem_cons_self ..)
  rw [List.flatten_cons, List.length_append, List.length_cons, Nat.succ_mul]; omega
theorem Sized.flat {α : Type} {ts : List (List α)} (h : Sized ts) (h3 : ts.length ≤ 3) : ts.flatten.length < 1000000000000000 := by
 have h1 := Qm h.each
 have h2 : ts.length * 281474976710656 ≤ 3 * 281474976710656 := Nat.mul_le_mul_right _ h3
 omega
set_option maxHeartbeats 4000000 in
theorem Mc (ts : List (List OpV)) (s : Value) (hs : Em M 5 Bc s ts) (hb : Sized ts) : Aq Tryz.prog 63 #[.agg #[s]] M (vb (Fk ts)) := by
 obtain ⟨a, c, vs, rfl, hl, aH, hk⟩ := hs
 refine Con.enter Q56_ok (args := [.agg #[.slice a ts.length c]]) (by simp [Q56]) fun w0 => ?_
 simp only [Q56, A5]
 repeat' first
   | refine EV.seq ?_
   | refine EV.skip ?_
   | refine EV.block ?_
   | refine rg ?_
   | (refine cX (fun h => ?_) (fun h => ?_) <;> try exact Ah h)
   | refine rt Q56_ok ?_
   | ((first | with_reducible intro b | refine xsA rfl ?_ | fail); try refine nx ?_)
   | exact ⟨⟩
   | fail
 ·simp [Fk]; omega
 rename_i b1
 have g8 : ts.length ≤ 3 := by omega
 have nE := hb.2
 have hb := hb.flat g8
 refine EV.to (ρ' := [(3, vi (Bb (ts.take 0).flatten).acc), (4, vi (Bb (ts.take 0).flatten).fen), (5, pv b 0), (15, .slice a ts.length c), (16, vi ts.length), (17, vi (0 : Nat))])
  (G' := [(b, Cl 142 [vi (Bb (ts.take 0).flatten).w0, vi (Bb (ts.take 0).flatten).w1, vi (Bb (ts.take 0).flatten).w2])]) ?_ (by simp [get, Bb]) (by simp [Bb])
 refine EV.loop (fun i : Nat => ([(3, vi (Bb (ts.take i).flatten).acc), (4, vi (Bb (ts.take i).flatten).fen), (5, pv b 0), (15, .slice a ts.length c), (16, vi ts.length), (17, vi i)], M,
  [(b, Cl 142 [vi (Bb (ts.take i).flatten).w0, vi (Bb (ts.take i).flatten).w1, vi (Bb (ts.take i).flatten).w2])])) (fun i => i ≤ ts.length) (fun i => ts.length - i) 0 (Nat.zero_le _) ?_
 intro i hi ih
 dsimp only at ih ⊢
 repeat' first
   | refine EV.seq ?_
   | refine EV.skip ?_
   | refine EV.block ?_
   | refine rg ?_
   | (refine Aq.call (R7 _ _ 0 3 [_, _, _] (by simp) (by simp) (Ap 0 rfl rfl (by simp))) ?_; try refine nx ?_)
   | with_reducible assumption
   | (refine A0.merge ?_ (fun hc K' hK => ?_) ?_; rotate_left)
   | (refine cX (fun h => ?_) (fun h => ?_) <;> try exact Ah h)
   | (refine EV.exit rfl ?_)
   | refine rt Q56_ok ?_
   | exact ⟨⟩
   | fail
 ·have aA : i < ts.length := by omega
  obtain ⟨pb, po, rfl, hat⟩ := Em.at aH hl hk (by omega)
  obtain ⟨a', c', aW, aS⟩ := hat i aA
  simp only [Nat.mul_one] at aW
  repeat' first
    | refine EV.seq ?_
    | refine EV.block ?_
    | refine rg ?_
    | (refine And.intro (by omega) ?_)
    | (refine xn ?_; try refine nx ?_)
    | exact ⟨⟩
    | fail
  have aG : ((ts.take i).flatten ++ ts[i]).length ≤ ts.flatten.length := by rw [← Dl aA]; exact Ce ts (i + 1)
  simp only [List.length_append] at aG
  let W : Nat → LimS := fun j => Bb ((ts.take i).flatten ++ ts[i].take j)
  refine EV.to (ρ' := [(3, vi (W 0).acc), (4, vi (W 0).fen), (5, pv b 0), (15, .slice (some ⟨pb, po, none⟩) ts.length c), (16, vi ts.length), (17, vi i), (21, .slice a' ts[i].length c'), (22, vi ts[i].length), (23, vi (0 : Nat))])
   (G' := [(b, Cl 142 [vi (W 0).w0, vi (W 0).w1, vi (W 0).w2])]) ?_ (by simp [get, W]) (by simp [W])
  refine EV.loop (fun j : Nat => ([(3, vi (W j).acc), (4, vi (W j).fen), (5, pv b 0), (15, .slice (some ⟨pb, po, none⟩) ts.length c), (16, vi ts.length), (17, vi i), (21, .slice a' ts[i].length c'), (22, vi ts[i].length), (23, vi j)], M,
   [(b, Cl 142 [vi (W j).w0, vi (W j).w1, vi (W j).w2])])) (fun j => j ≤ ts[i].length) (fun j => ts[i].length - j) 0 (Nat.zero_le _) ?_
  intro j hj ih2
  dsimp only at ih2 ⊢
  repeat' first
    | refine EV.seq ?_
    | refine EV.skip ?_
    | refine EV.block ?_
    | refine EV.inBlock ?_
    | refine rg ?_
    | (refine cX (fun h => ?_) (fun h => ?_) <;> try exact Ah h)
    | (refine EV.exit rfl ?_)
    | exact ⟨⟩
    | fail
  ·have aM : j < ts[i].length := by omega
   obtain ⟨qb, qo, rfl, aL⟩ := Sl.at (enc := Bc) (fun _ => rfl) (by omega) aS (by omega)
   have cu := aL j aM
   have hW : W (j + 1) = Ak (W j) ts[i][j] := by
    simp only [W, Bb, List.take_succ_eq_append_getElem aM, ← List.append_assoc, List.foldl_append, List.foldl_cons, List.foldl_nil]
   have qv := R8 ((ts.take i).flatten ++ ts[i].take j)
   have sM : ((ts.take i).flatten ++ ts[i].take j).length < 1000000000000000 := by rw [List.length_append, List.length_take]; omega
   have fin : ∀ ρ G', (∀ p ∈ [(3, vi (W (j + 1)).acc), (4, vi (W (j + 1)).fen), (5, pv b 0), (15, .slice (some ⟨pb, po, none⟩) ts.length c), (16, vi ts.length), (17, vi i), (21, .slice (some ⟨qb, qo, none⟩) ts[i].length c'), (22, vi ts[i].length), (23, vi (j + 1 : Nat))], get ρ p.1 = some p.2) →
     [(b, Cl 142 [vi (W (j + 1)).w0, vi (W (j + 1)).w1, vi (W (j + 1)).w2])].Sublist G' → _ := fun ρ G' h1 h2 => EV.to (ρ := ρ) (G := G') (ih2 (j + 1) (by omega) (by omega)) h1 h2
   rw [hW] at fin
   have qw : W j = Bb ((ts.take i).flatten ++ ts[i].take j) := rfl
   rw [← qw] at qv
   clear_value W
   have e1 : IntKind.i64.wrap ((W j).acc + 1) = (W j).acc + 1 := w64 (by omega) (by omega)
   have e2 : IntKind.i64.wrap ((W j).fen + 1) = (W j).fen + 1 := w64 (by omega) (by omega)
   have e3 : IntKind.i64.wrap ((W j).fen + 2) = (W j).fen + 2 := w64 (by omega) (by omega)
   have e4 : IntKind.i64.wrap ((W j).w0 + 1) = (W j).w0 + 1 := w64 (by omega) (by omega)
   have e5 : IntKind.i64.wrap ((W j).w1 + 1) = (W j).w1 + 1 := w64 (by omega) (by omega)
   have e6 : IntKind.i64.wrap ((W j).w2 + 1) = (W j).w2 + 1 := w64 (by omega) (by omega)
   have e7 : IntKind.i64.wrap ((j : Int) + 1) = ((j + 1 : Nat) : Int) := w64 (by omega) (by omega)
   clear ih ih2 hat aL aH hk aW aS qv sM qw aG hW hb nE hl
   generalize W j = s at *
   generalize ts[i][j] = o at *
   clear W
   repeat' first
     | refine EV.seq ?_
     | refine EV.skip ?_
     | refine EV.block ?_
     | refine EV.inBlock ?_
     | refine rg ?_
     | (refine Aq.call (E9 _) ?_; try refine nx ?_)
     | with_reducible assumption
     | (refine A0.merge ?_ (fun hc K' hK => ?_) ?_; rotate_left)
     | (refine cX (fun h => ?_) (fun h => ?_) <;> try exact Ah h)
     | (with_reducible intro b; try refine nx ?_)
     | (refine And.intro (by omega) ?_)
     | ((first | refine xm ?_ | refine xrA rfl ?_ | refine xiA rfl ?_ | fail); try refine nx ?_)
     | (refine xw ?_; refine nx ?_)
     | exact ⟨⟩
     | fail
   all_goals try refine fin _ _ ?_ ?_
   all_goals first
    | (simp [get, Ak, *]; done)
    | (simp [get, Ak, *]; grind)
    | skip
   all_goals
    have bX : o.loc = 0 ∨ o.loc = 1 ∨ o.loc = 2 := by omega
    have je : ¬ o.kind = 0 := by omega
    rcases bX with bX | bX | bX <;> rw [bX] <;> simp only [Int.reduceToNat, Int.toNat_zero, Int.reduceLE, Int.reduceLT, true_and]
   all_goals repeat' first
     | refine EV.inBlock ?_
     | refine rg ?_
     | (refine xiA rfl ?_; try refine nx ?_)
     | (refine xw ?_; refine nx ?_)
     | exact ⟨⟩
     | fail
   all_goals try refine fin _ _ ?_ ?_
   all_goals first
    | (simp [get, Ak, *]; done)
    | (simp [get, Ak, *]; grind)
    | skip
  ·have aM : j = ts[i].length := by omega
   subst aM
   have hf : (ts.take i).flatten ++ ts[i].take ts[i].length = (ts.take (i + 1)).flatten := by rw [Dl aA, List.take_length]
   refine EV.to (ih (i + 1) (by omega) (by omega)) ?_ ?_
   ·clear ih ih2
    rw [← hf]
    simp [get, W]
    exact w64 (by omega) (by omega)
   ·rw [← hf]
    exact List.Sublist.refl _
 ·have ga : i = ts.length := by omega
  subst ga
  rw [List.take_length]
  simp only [Fk, mx, List.take_succ_cons, List.take_zero, List.foldl_cons, List.foldl_nil, List.headD_cons]
  congr 1
  have h3 : decide (ts.length ≤ 3) = true := by simpa using g8
  rw [h3]
  grind
end
end Go.EV

namespace Go.EV
open Go.Proofs
section
variable {M : Aa}
def Lt (o : OpV) : Bool := T4 o.kind o.ord && Ah6 o.kind o.ord && W5 o
def A7 (ts : List (List OpV)) : Int := if Fk ts = false then 2 else if ts.length = 0 then 1 else if ts.flatten.all Lt = true then 0 else 1
theorem Ew (o : OpV) : Lt o = true ↔ T4 o.kind o.ord = true ∧ Ah6 o.kind o.ord = true ∧ W5 o = true := by
 simp [Lt, and_assoc]
set_option maxHeartbeats 4000000 in
theorem Oo (ts : List (List OpV)) (s : Value) (hs : Em M 5 Bc s ts) (hb : Sized ts) : Aq Tryz.prog 24 #[.agg #[s]] M (vi (A7 ts)) := by
 have oD := fun G => Mc (M := M.add G) ts s (hs.mono (Aa.le_add _ _)) hb
 have nE := hb.1
 have lT := hb.2
 obtain ⟨a, c, vs, rfl, hl, aH, hk⟩ := hs
 refine Con.enter Q50_ok (args := [.agg #[.slice a ts.length c]]) (by simp [Q50]) fun w0 => ?_
 simp only [Q50, A5]
 repeat' first
   | refine EV.seq ?_
   | refine EV.skip ?_
   | refine EV.block ?_
   | refine rg ?_
   | (refine Aq.call (oD _) ?_; try refine nx ?_)
   | (refine cX (fun h => ?_) (fun h => ?_) <;> try exact Ah h)
   | refine rt Q50_ok ?_
   | ((first | with_reducible intro b | refine xrA rfl ?_ | refine xsA rfl ?_ | fail); try refine nx ?_)
   | exact ⟨⟩
   | fail
 ·simp [A7, h]
 ·rename_i h1
  have : ts.length = 0 := by omega
  simp [A7, this, h1]
 rename_i h1
 refine EV.to (ρ' := [(17, .slice a ts.length c), (18, vi ts.length), (19, vi (0 : Nat))]) (G' := []) ?_ (by simp (disch := omega) only [List.forall_mem_cons, List.not_mem_nil, false_implies, implies_true, and_true, true_and, Am, Au, reduceIte, Nat.reduceEqDiff, Option.some.injEq, Value.int.injEq, w64, Int.natCast_add, Int.natCast_one, Int.cast_ofNat_Int, Int.natCast_zero]) (by simp)
 refine EV.loop (fun i : Nat => ([(17, .slice a ts.length c), (18, vi ts.length), (19, vi i)], M, [])) (fun i => i ≤ ts.length ∧ (ts.take i).flatten.all Lt = true) (fun i => ts.length - i) 0 (by simp) ?_
 intro i ⟨hi, ae⟩ ih
 dsimp only at ih ⊢
 repeat' first
   | refine EV.seq ?_
   | refine EV.skip ?_
   | refine EV.block ?_
   | refine rg ?_
   | (refine cX (fun h => ?_) (fun h => ?_) <;> try exact Ah h)
   | (refine EV.exit rfl ?_)
   | refine rt Q50_ok ?_
   | exact ⟨⟩
   | fail
 ·have aA : i < ts.length := by omega
  obtain ⟨pb, po, rfl, hat⟩ := Em.at aH hl hk (by omega)
  obtain ⟨a', c', aW, aS⟩ := hat i aA
  simp only [Nat.mul_one] at aW
  have aG : ts[i].length ≤ ts.flatten.length := by have := Dl aA; have h2 := Ce ts (i + 1); rw [this, List.length_append] at h2; omega
  have uT := lT ts[i] (List.getElem_mem aA)
  have aJ : ∀ o ∈ ts[i], o ∈ ts.flatten := fun o ho => List.mem_flatten.2 ⟨ts[i], List.getElem_mem aA, ho⟩
  repeat' first
    | refine EV.seq ?_
    | refine EV.block ?_
    | refine rg ?_
    | (refine And.intro (by omega) ?_)
    | (refine xn ?_; try refine nx ?_)
    | exact ⟨⟩
    | fail
  refine EV.to (ρ' := [(17, .slice (some ⟨pb, po, none⟩) ts.length c), (18, vi ts.length), (19, vi i), (23, .slice a' ts[i].length c'), (24, vi ts[i].length), (25, vi (0 : Nat))]) (G' := []) ?_ (by simp (disch := omega) only [List.forall_mem_cons, List.not_mem_nil, false_implies, implies_true, and_true, true_and, Am, Au, reduceIte, Nat.reduceEqDiff, Option.some.injEq, Value.int.injEq, w64, Int.natCast_add, Int.natCast_one, Int.cast_ofNat_Int, Int.natCast_zero]) (by simp)
  refine EV.loop (fun j : Nat => ([(17, .slice (some ⟨pb, po, none⟩) ts.length c), (18, vi ts.length), (19, vi i), (23, .slice a' ts[i].length c'), (24, vi ts[i].length), (25, vi j)], M, [])) (fun j => j ≤ ts[i].length ∧ (ts[i].take j).all Lt = true) (fun j => ts[i].length - j) 0 (by simp) ?_
  intro j ⟨hj, fh⟩ ih2
  dsimp only at ih2 ⊢
  repeat' first
    | refine EV.seq ?_
    | refine EV.skip ?_
    | refine EV.block ?_
    | refine EV.inBlock ?_
    | refine rg ?_
    | (refine cX (fun h => ?_) (fun h => ?_) <;> try exact Ah h)
    | (refine EV.exit rfl ?_)
    | exact ⟨⟩
    | fail
  ·have aM : j < ts[i].length := by omega
   obtain ⟨qb, qo, rfl, aL⟩ := Sl.at (enc := Bc) (fun _ => rfl) (by omega) aS (by omega)
   have cu := aL j aM
   repeat' first
     | refine EV.seq ?_
     | refine EV.skip ?_
     | refine EV.inBlock ?_
     | refine rg ?_
     | ((first | refine Aq.call (Ql _) ?_ | refine Aq.call (Mb _ _) ?_ | fail); try refine nx ?_)
     | with_reducible assumption
     | (refine A0.merge ?_ (fun hc K' hK => ?_) ?_; rotate_left)
     | (refine cX (fun h => ?_) (fun h => ?_) <;> try exact Ah h)
     | refine rt Q50_ok ?_
     | (with_reducible intro b; try refine nx ?_)
     | (refine And.intro (by omega) ?_)
     | ((first | refine xm ?_ | refine xrA rfl ?_ | refine xiA rfl ?_ | fail); try refine nx ?_)
     | (refine xw ?_; refine nx ?_)
     | exact ⟨⟩
     | fail
   ·have aK : Lt ts[i][j] = false := by
     cases hq : Lt ts[i][j] with
     | false => rfl
     | true => obtain ⟨q1, q2, q3⟩ := (Ew _).1 hq; simp [q1, q2, q3] at h
    have hne : ts.flatten.all Lt = false := by
     rw [List.all_eq_false]
     exact ⟨ts[i][j], aJ _ (List.getElem_mem aM), by simp [aK]⟩
    have h0 : ¬ ts.length = 0 := by omega
    simp [A7, h1, h0, hne]
   ·have dV : Lt ts[i][j] = true := by
     rw [Ew]
     grind
    refine EV.to (ih2 (j + 1) ⟨by omega, ?_⟩ (by omega)) ?_ (by simp)
    ·rw [List.take_succ_eq_append_getElem aM, List.all_append, fh]
     simp [dV]
    ·exact eE
  ·have aM : j = ts[i].length := by omega
   subst aM
   refine EV.to (ih (i + 1) ⟨by omega, ?_⟩ (by omega)) ?_ (by simp)
   ·rw [Dl aA, List.all_append, ae, Bool.true_and]
    rwa [List.take_length] at fh
   ·exact eE
 ·have ga : i = ts.length := by omega
  subst ga
  rw [List.take_length] at ae
  have h0 : ¬ ts.length = 0 := by omega
  simp [A7, ae, h1, h0]
end
end Go.EV

namespace Go.EV
open Go.Proofs
section
variable {M : Aa}
abbrev Hc : OpV := ⟨5, 0, 0, 0, 4⟩
theorem Ik : Aq Tryz.prog 73 #[] M (vop Hc) := by
 refine Con.enter Q58_ok (args := []) (by simp [Q58]) fun w0 => ?_
 simp only [Q58, A5]
 repeat' first
   | refine EV.seq ?_
   | refine rg ?_
   | refine rt Q58_ok ?_
   | ((first | with_reducible intro b | refine xrA rfl ?_ | fail); try refine nx ?_)
   | (refine xw ?_; refine nx ?_)
   | exact ⟨⟩
   | fail
 all_goals rfl
def Cf (o : OpV) : List OpV := if Bj o = false ∨ o.ord ≠ 4 then [o] else [Hc, { o with ord := Iq o.kind o.ord }, Hc]
theorem Jn (o : OpV) (f : Bool) (ho : Lt o = true) : Con Tryz.prog 70 #[vop o, vb f] M [] fun v _ G' => ∃ b, v = .slice (some ⟨b, 0, none⟩) (Cf o).length (Cf o).length ∧ G' = [(b, Cl 83 ((Cf o).flatMap Bc))] := by
 obtain ⟨q1, q2, q3⟩ := (Ew o).1 ho
 refine Con.enter Q52_ok (args := [vop o, vb f]) (by simp [Q52]) fun w0 => ?_
 simp only [Q52, A5]
 repeat' first
   | refine EV.seq ?_
   | refine EV.skip ?_
   | refine rg ?_
   | (refine Aq.call (E9 _) ?_; try refine nx ?_)
   | with_reducible assumption
   | (refine A0.merge ?_ (fun hc K' hK => ?_) ?_; rotate_left)
   | (refine cX (fun h => ?_) (fun h => ?_) <;> try exact Ah h)
   | ((first | with_reducible intro b | refine xrA rfl ?_ | refine xiA rfl ?_ | fail); try refine nx ?_)
   | exact ⟨⟩
   | fail
 ·refine EV.to (ρ' := [(4, .slice (some ⟨b, 0, none⟩) 1 1)]) (G' := [(b, Cl 83 (Bc o))]) ?_ (by simp (disch := omega) only [List.forall_mem_cons, List.not_mem_nil, false_implies, implies_true, and_true, true_and, Am, Au, reduceIte, Nat.reduceEqDiff, Option.some.injEq, Value.int.injEq, w64, Int.natCast_add, Int.natCast_one, Int.cast_ofNat_Int, Int.natCast_zero]) (by simp)
  (refine rt Q52_ok ?_; try with_reducible exact ⟨⟩)
  have he : Cf o = [o] := by simp [Cf, h]
  exact ⟨b, by rw [he]; rfl, by rw [he]; rfl⟩
 ·have h5 : o.kind ≠ 5 := by
   intro h5
   have := h.1
   simp [Bj, h5] at this
  refine Aq.call (Qk _ _ q1 q2 h5) ?_
  (refine nx ?_; try with_reducible exact ⟨⟩)
  repeat' first
    | refine EV.seq ?_
    | (refine EV.any _ (List.Sublist.refl _) ?_; (conv => (arg 2; whnf)); refine nx ?_)
    | ((first | refine Aq.call (Ik) ?_ | with_reducible intro b | refine xrA rfl ?_ | fail); try refine nx ?_)
    | (refine xw ?_; refine nx ?_)
    | (refine And.intro (Aa.le_refl _) (And.intro (fun p hp => hp) ?_))
    | exact ⟨⟩
    | fail
  have he : Cf o = [Hc, { o with ord := Iq o.kind o.ord }, Hc] := by simp [Cf, h]
  rename_i b1
  refine EV.to (ρ' := [(4, .slice (some ⟨b, 0, none⟩) 3 3)]) (G' := [(b, Cl 83 (Bc Hc ++ Bc { o with ord := Iq o.kind o.ord } ++ Bc Hc))]) ?_ (by simp (disch := omega) only [List.forall_mem_cons, List.not_mem_nil, false_implies, implies_true, and_true, true_and, Am, Au, reduceIte, Nat.reduceEqDiff, Option.some.injEq, Value.int.injEq, w64, Int.natCast_add, Int.natCast_one, Int.cast_ofNat_Int, Int.natCast_zero]) (by simp)
  (refine rt Q52_ok ?_; try with_reducible exact ⟨⟩)
  exact ⟨b, by rw [he]; rfl, by rw [he]; rfl⟩
end
end Go.EV

namespace Go.EV
open Go.Proofs
end Go.EV

namespace Go.EV
open Go.Proofs
def Dz (f : OpV → Bool → List OpV) : Bool → List OpV → List OpV
 | _, [] => []
 | b, o :: l => f o b ++ Dz f (b && !Bj o) l
def Oq (l : List OpV) : Bool := l.all fun o => !Bj o
theorem Kx (f : OpV → Bool → List OpV) : ∀ (l1 : List OpV) (b : Bool) (l2 : List OpV), Dz f b (l1 ++ l2) = Dz f b l1 ++ Dz f (b && Oq l1) l2
 | [], b, l2 => by simp [Dz, Oq]
 | o :: l1, b, l2 => by simp [Dz, Kx f l1, Oq, Bool.and_assoc]
theorem W6 (f : OpV → Bool → List OpV) {l : List OpV} {j : Nat} (hj : j < l.length) : Dz f true (l.take (j + 1)) = Dz f true (l.take j) ++ f l[j] (Oq (l.take j)) := by
 rw [List.take_succ_eq_append_getElem hj, Kx]; simp [Dz]
theorem Y2 {f : OpV → Bool → List OpV} {l : List OpV} (hf : ∀ o ∈ l, ∀ b, (f o b).length ≤ 3) : ∀ b, (Dz f b l).length ≤ 3 * l.length := by
 induction l with
 | nil => intro b; simp [Dz]
 | cons o l ih =>
  intro b
  have h1 := hf o (by simp) b
  have h2 := ih (fun o' bS => hf o' (by simp [bS])) (b && !Bj o)
  simp [Dz]; omega
theorem W7 {l : List OpV} {j : Nat} (hj : j < l.length) : Oq (l.take (j + 1)) = (Oq (l.take j) && !Bj l[j]) := by
 unfold Oq
 rw [List.take_succ_eq_append_getElem hj, List.all_append]; simp
section
variable {M : Aa}
def ByC (P : Program) (T g : Nat) (f : OpV → Bool → List OpV) (l : List OpV) : Prop :=
 ∀ (M : Aa) (o : OpV) (b : Bool), o ∈ l → (f o b).length ≤ 3 ∧ Con P g #[vop o, vb b] M [] fun v _ G' => ∃ ov, v = osv ov (f o b).length ∧ E6 5 ov (f o b).length ((f o b).flatMap Bc) ∧ G' = osg T ov ((f o b).flatMap Bc)
theorem At2 (l : List OpV) : ok1 (l.flatMap Bc) := by
 intro v hv
 simp only [List.mem_flatMap] at hv
 obtain ⟨o, _, hv⟩ := hv
 simp at hv
 rcases hv with rfl | rfl | rfl | rfl | rfl <;> rfl
set_option maxHeartbeats 4000000 in
theorem Lu (f : OpV → Bool → List OpV) (g : Nat) (ts : List (List OpV)) (s : Value) (hs : Em M 5 Bc s ts) (hb : ts.flatten.length < 1000000) (nE : ts.length < 1000000)
  (hg : ByC Tryz.prog 83 g f ts.flatten) :
  Con Tryz.prog 69 #[.agg #[s], .func (.func g) #[] #[]] M [] fun v M' _ => ∃ s', v = .agg #[s'] ∧ Em M' 5 Bc s' (ts.map (Dz f true)) := by
 obtain ⟨a, c, vs, rfl, hl, aH, hk⟩ := hs
 refine Con.enter Q57_ok (args := [.agg #[.slice a ts.length c], .func (.func g) #[] #[]]) (by simp [Q57]) fun w0 => ?_
 simp only [Q57, A5]
 repeat' first
   | refine EV.seq ?_
   | refine EV.block ?_
   | refine rg ?_
   | ((first | with_reducible intro b | refine xsA rfl ?_ | fail); try refine nx ?_)
   | exact ⟨⟩
   | fail
 rename_i b2 b4
 refine EV.to (ρ' := [(1, .func (.func g) #[] #[]), (4, pv b4 0), (5, pv b 0), (13, .slice a ts.length c), (14, vi ts.length), (15, vi (0 : Nat))])
  (G' := [(b, Cl 24 [osv none 0]), (b4, Cl 24 [.slice none 0 0])] ++ osg 70 none []) ?_ ?env0 eS
 case env0 =>
  exact eE
 refine EV.loop (fun x : Nat × Aa × Vec × List Value => ([(1, .func (.func g) #[] #[]), (4, pv b4 0), (5, pv b 0), (13, .slice a ts.length c), (14, vi ts.length), (15, vi x.1)], x.2.1,
   [(b, Cl 24 [osv x.2.2.1 x.1]), (b4, Cl 24 [.slice none 0 0])] ++ osg 70 x.2.2.1 x.2.2.2))
  (fun x => x.1 ≤ ts.length ∧ M.le x.2.1 ∧ E6 1 x.2.2.1 x.1 x.2.2.2 ∧ x.2.2.2.length = x.1 ∧ ∀ k (h : k < x.2.2.2.length) (h' : k < ts.length), Sl x.2.1 5 Bc x.2.2.2[k] (Dz f true ts[k]))
  (fun x => ts.length - x.1) (0, M, none, []) ⟨Nat.zero_le _, Aa.le_refl _, ⟨rfl, rfl⟩, rfl, fun k h => absurd h (by simp)⟩ ?_
 rintro ⟨i, Mi, oq, vs'⟩ ⟨hi, bN, jf, bt, jg⟩ ih
 dsimp only at hi bN jf bt jg ih ⊢
 repeat' first
   | refine EV.seq ?_
   | refine EV.skip ?_
   | refine EV.block ?_
   | refine rg ?_
   | (refine cX (fun h => ?_) (fun h => ?_) <;> try exact Ah h)
   | (refine EV.exit rfl ?_)
   | (refine xrA rfl ?_; try refine nx ?_)
   | (refine xw ?_; refine nx ?_)
   | exact ⟨⟩
   | fail
 ·have aA : i < ts.length := by omega
  obtain ⟨pb, po, rfl, hat⟩ := Em.at (aH.mono bN) hl (fun k h h' => (hk k h h').mono bN) (by omega)
  obtain ⟨a', c', aW, aS⟩ := hat i aA
  simp only [Nat.mul_one] at aW
  have aG : ts[i].length ≤ ts.flatten.length := by have := Dl aA; have h2 := Ce ts (i + 1); rw [this, List.length_append] at h2; omega
  have aJ : ∀ o ∈ ts[i], o ∈ ts.flatten := fun o ho => List.mem_flatten.2 ⟨ts[i], List.getElem_mem aA, ho⟩
  repeat' first
    | refine EV.seq ?_
    | refine EV.block ?_
    | refine rg ?_
    | (refine And.intro (by omega) ?_)
    | (refine xn ?_; try refine nx ?_)
    | exact ⟨⟩
    | fail
  refine EV.to (ρ' := [(1, .func (.func g) #[] #[]), (4, pv b4 0), (5, pv b 0), (8, osv none (Dz f true (ts[i].take 0)).length), (9, vb (Oq (ts[i].take 0))), (13, .slice (some ⟨pb, po, none⟩) ts.length c), (14, vi ts.length), (15, vi i), (19, .slice a' ts[i].length c'), (20, vi ts[i].length), (21, vi (0 : Nat))])
   (G' := [(b, Cl 24 [osv oq i]), (b4, Cl 24 [.slice none 0 0])] ++ (osg 70 oq vs' ++ osg 83 none ((Dz f true (ts[i].take 0)).flatMap Bc))) ?_ ?env1 (by simp only [osg, List.append_nil]; exact List.Sublist.refl _)
  case env1 =>
   exact eE
  refine EV.loop (fun x : Nat × Vec => ([(1, .func (.func g) #[] #[]), (4, pv b4 0), (5, pv b 0), (8, osv x.2 (Dz f true (ts[i].take x.1)).length), (9, vb (Oq (ts[i].take x.1))), (13, .slice (some ⟨pb, po, none⟩) ts.length c), (14, vi ts.length), (15, vi i), (19, .slice a' ts[i].length c'), (20, vi ts[i].length), (21, vi x.1)], Mi,
    [(b, Cl 24 [osv oq i]), (b4, Cl 24 [.slice none 0 0])] ++ (osg 70 oq vs' ++ osg 83 x.2 ((Dz f true (ts[i].take x.1)).flatMap Bc))))
   (fun x => x.1 ≤ ts[i].length ∧ E6 5 x.2 (Dz f true (ts[i].take x.1)).length ((Dz f true (ts[i].take x.1)).flatMap Bc))
   (fun x => ts[i].length - x.1) (0, none) ⟨Nat.zero_le _, rfl, rfl⟩ ?_
  rintro ⟨j, ov⟩ ⟨hj, aP⟩ ih2
  dsimp only at hj aP ih2 ⊢
  repeat' first
    | refine EV.seq ?_
    | refine EV.skip ?_
    | refine EV.block ?_
    | refine rg ?_
    | (refine cX (fun h => ?_) (fun h => ?_) <;> try exact Ah h)
    | (refine EV.exit rfl ?_)
    | ((first | with_reducible intro b | refine xsA rfl ?_ | fail); try refine nx ?_)
    | exact ⟨⟩
    | fail
  ·have aM : j < ts[i].length := by omega
   obtain ⟨qb, qo, rfl, aL⟩ := Sl.at (enc := Bc) (fun _ => rfl) (by omega) aS (by omega)
   have cu := aL j aM
   repeat' first
     | refine EV.seq ?_
     | refine rg ?_
     | (with_reducible intro b; try refine nx ?_)
     | (refine And.intro (by omega) ?_)
     | ((first | refine xm ?_ | refine xrA rfl ?_ | fail); try refine nx ?_)
     | (refine xw ?_; refine nx ?_)
     | exact ⟨⟩
     | fail
   have qx := fun M => hg M ts[i][j] (Oq (ts[i].take j)) (aJ _ (List.getElem_mem aM))
   have g8 := (qx M).1
   refine Con.callB (G1 := []) (qx _).2 (Aa.le_refl _) (List.Perm.refl _) ?_
   rintro v M' G' ⟨ov', rfl, oE, rfl⟩
   (refine nx ?_; try with_reducible exact ⟨⟩)
   have gb : (Dz f true (ts[i].take j)).length ≤ 3 * (ts[i].take j).length := Y2 (fun o ho b => (hg M o b (aJ _ (List.mem_of_mem_take ho))).1) true
   have lU : (ts[i].take j).length ≤ j := by simp; omega
   refine ⟨_, D9 (T := 83) oE (fun p hp => by simp [hp]), At2 _, Or.inl ⟨ov, _, rfl, _, aP, _, Cc [[_, _, _], osg 70 oq vs', osg 83 ov _, osg 83 ov' _] 2 (by simp), ?_, ?_, ?_⟩⟩
   ·simp only [maxLen]; omega
   ·omega
   intro o' bS _
   simp only [List.eraseIdx_cons_succ, List.eraseIdx_cons_zero, List.getElem_cons_succ, List.getElem_cons_zero, List.insertIdx_zero, List.insertIdx_succ_cons, Dy, Dx, Dw, List.nil_append, List.cons_append, List.append_assoc, List.append_nil]
   repeat' first
     | refine EV.inBlock ?_
     | refine rg ?_
     | (refine Aq.call (E9 _) ?_; try refine nx ?_)
     | with_reducible assumption
     | (refine A0.merge ?_ (fun hc K' hK => ?_) ?_; rotate_left)
     | (refine xrA rfl ?_; try refine nx ?_)
     | exact ⟨⟩
     | fail
   have e := W6 (f := f) aM
   have ih3 := ih2 (j + 1, o') ⟨by dsimp only; omega, by rw [e, List.length_append, List.flatMap_append]; exact bS⟩ (by dsimp only; omega)
   dsimp only at ih3
   rw [W7 aM, e, List.length_append, List.flatMap_append] at ih3
   refine EV.to ih3 ?_ eS
   exact eE
  ·have aM : j = ts[i].length := by omega
   subst aM
   rw [List.take_length] at aP ⊢
   refine ⟨[osv ov (Dz f true ts[i]).length], Or.inr ⟨b, 0, rfl, Ap 0 rfl rfl (by simp)⟩, by simp [B2, Ct, Value.oneCell'], Or.inl ⟨oq, i, rfl, vs', jf, _, Cc [[_, _, _], osg 70 oq vs', osg 83 ov _] 1 (by simp), ?_, ?_, ?_⟩⟩
   ·simp only [maxLen]; omega
   ·omega
   intro o' bS _
   simp only [List.eraseIdx_cons_succ, List.eraseIdx_cons_zero, List.getElem_cons_succ, List.getElem_cons_zero, List.insertIdx_zero, List.insertIdx_succ_cons, Dy, Dx, Dw, List.nil_append, List.cons_append, List.append_assoc, List.append_nil]
   repeat' first
     | refine EV.inBlock ?_
     | refine rg ?_
     | (refine xw ?_; refine nx ?_)
     | exact ⟨⟩
     | fail
   refine EV.permG ?_ (Cc [[_, _, _], osg 83 ov _, osg 70 o' _] 1 (by simp))
   simp only [List.eraseIdx_cons_succ, List.eraseIdx_cons_zero, List.getElem_cons_succ, List.getElem_cons_zero, List.insertIdx_zero, List.insertIdx_succ_cons, Dy, Dx, Dw, List.nil_append, List.cons_append, List.append_assoc, List.append_nil]
   refine EV.freeze ?_
   have ih3 := ih (i + 1, Mi.add (osg 83 ov ((Dz f true ts[i]).flatMap Bc)), o', vs' ++ [osv ov (Dz f true ts[i]).length]) ⟨by dsimp only; omega, Aa.le_trans bN (Aa.le_add _ _), bS, by simp [bt], ?_⟩ (by dsimp only; omega)
   dsimp only at ih3
   refine EV.to ih3 ?_ eS
   ·exact eE
   ·intro k cG cD
    dsimp only at cG cD ⊢
    by_cases fi : k < vs'.length
    ·rw [List.getElem_append_left fi]
     exact (jg k fi cD).mono (Aa.le_add _ _)
    ·have : k = i := by simp at cG; omega
     subst this
     rw [List.getElem_append_right (by omega)]
     simp only [bt, Nat.sub_self, List.getElem_cons_zero]
     exact ⟨_, _, rfl, D9 aP (fun p hp => hp)⟩
 ·have bk : i = ts.length := by omega
  subst bk
  refine EV.permG ?_ (Cc [[_, _], osg 70 oq vs'] 1 (by simp))
  simp only [List.eraseIdx_cons_succ, List.eraseIdx_cons_zero, List.getElem_cons_succ, List.getElem_cons_zero, List.insertIdx_zero, List.insertIdx_succ_cons, Dy, Dx, Dw, List.nil_append, List.cons_append, List.append_assoc, List.append_nil]
  refine EV.freeze ?_
  (refine rt Q57_ok ?_; try with_reducible exact ⟨⟩)
  refine ⟨_, Ap 1 rfl rfl (by simp), _, rfl, oad oq, L6 oq, vs', by simp, by simpa using bt, ?_, ?_⟩
  ·simpa using D9 jf (fun p hp => hp)
  ·intro k h1 h2
   simp only [List.getElem_map]
   exact (jg k h1 (by simpa using h2)).mono (Aa.le_add _ _)
end
end Go.EV

namespace Go.EV
open Go.Proofs
def Ds (l : List OpV) : List OpV := l.flatMap Cf
theorem R9 : ∀ (b : Bool) (l : List OpV), Dz (fun o _ => Cf o) b l = Ds l
 | _, [] => rfl
 | b, o :: l => by rw [Dz, R9]; simp [Ds]
theorem Cz {ts : List (List OpV)} (h : A7 ts = 0) : Fk ts = true ∧ ts.length ≠ 0 ∧ ts.flatten.all Lt = true := by
 unfold A7 at h
 split at h
 ·omega
 ·split at h
  ·omega
  ·split at h
   ·rename_i h1 h2 h3; exact ⟨by simpa using h1, h2, h3⟩
   ·omega
theorem Hi {ts : List (List OpV)} (h : A7 ts = 0) : ts.flatten.length ≤ 14 ∧ ts.length ≤ 3 := by
 obtain ⟨hl, _, hall⟩ := Cz h
 have key : ∀ (l : List OpV) (s : LimS), (∀ o ∈ l, Lt o = true) → (l.length : Int) + s.acc + s.fen ≤ (l.foldl Ak s).acc + (l.foldl Ak s).fen := by
  intro l
  induction l with
  | nil => intro s _; simp
  | cons o l ih =>
   intro s h
   have ih2 := ih (Ak s o) (fun x hx => h x (List.mem_cons_of_mem _ hx))
   obtain ⟨q1, _, _⟩ := (Ew o).1 (h o (List.mem_cons_self ..))
   have hk : 0 ≤ o.kind ∧ o.kind < 6 := by simp only [T4, Bool.and_eq_true, decide_eq_true_eq] at q1; exact q1.1
   have h1 : s.acc + s.fen + 1 ≤ (Ak s o).acc + (Ak s o).fen := by
    unfold Ak
    split
    ·dsimp only; omega
    ·rw [if_pos (by simp [Bj]; omega)]
     dsimp only
     split <;> omega
   rw [List.foldl_cons, List.length_cons]
   omega
 have := key ts.flatten ⟨0, 0, 0, 0, 0⟩ (List.all_eq_true.1 hall)
 simp only [Fk, Bool.and_eq_true, decide_eq_true_eq] at hl
 have e : (Bb ts.flatten) = ts.flatten.foldl Ak ⟨0, 0, 0, 0, 0⟩ := rfl
 rw [← e] at this
 dsimp only at this
 exact ⟨by omega, by omega⟩
theorem Jo (o : OpV) : (Cf o).length ≤ 3 := by
 unfold Cf; split <;> simp
section
variable {M : Aa}
theorem At3 {l : List OpV} (hl : ∀ o ∈ l, Lt o = true) : ByC Tryz.prog 83 70 (fun o _ => Cf o) l := by
 intro M o b ho
 refine ⟨Jo o, (Jn o b (hl o ho)).mono ?_⟩
 rintro v M' G' ⟨bb, rfl, rfl⟩
 refine ⟨some (bb, (Cf o).length, []), rfl, ⟨?_, ?_, Nat.le_refl _, ?_⟩, by simp [osg]⟩
 ·rw [Fj (sz := 5) (fun _ => rfl)]
 ·rw [List.append_nil, Fj (sz := 5) (fun _ => rfl)]
 ·have := Jo o; simp only [maxLen]; omega
theorem Md (ts : List (List OpV)) (s : Value) (hs : Em M 5 Bc s ts) (hb : Sized ts) :
  Con Tryz.prog 30 #[.agg #[s]] M [] fun v M' _ => (A7 ts ≠ 0 ∧ v = .tuple #[.agg #[.slice none 0 0], vi (A7 ts)]) ∨ (A7 ts = 0 ∧ ∃ s', v = .tuple #[.agg #[s'], vi 0] ∧ Em M' 5 Bc s' (ts.map Ds)) := by
 have aI := hs
 obtain ⟨a, c, vs, rfl, hl, aH, hk⟩ := hs
 refine Con.enter Q51_ok (args := [.agg #[.slice a ts.length c]]) (by simp [Q51]) fun w0 => ?_
 simp only [Q51, A5]
 repeat' first
   | refine EV.seq ?_
   | refine EV.skip ?_
   | refine rg ?_
   | (refine Aq.call (Oo _ _ (aI.mono (Aa.le_add _ _)) hb) ?_; try refine nx ?_)
   | (refine cX (fun h => ?_) (fun h => ?_) <;> try exact Ah h)
   | refine rt Q51_ok ?_
   | ((first | with_reducible intro b | refine xrA rfl ?_ | fail); try refine nx ?_)
   | (refine xw ?_; refine nx ?_)
   | exact ⟨⟩
   | fail
 ·exact .inl h
 ·obtain ⟨_, _, hall⟩ := Cz h
  have oF := Hi h
  refine Con.callA (G1 := []) (Lu _ _ ts _ aI (by omega) (by omega) (At3 (List.all_eq_true.1 hall))) (List.Perm.refl _) ?_
  rintro v M' G' bR ⟨s', rfl, aV⟩
  obtain ⟨a', c', vs', rfl, bj⟩ := aV
  (refine nx ?_; try with_reducible exact ⟨⟩)
  repeat' first
    | refine rt Q51_ok ?_
    | (refine xrA rfl ?_; try refine nx ?_)
    | (refine xw ?_; refine nx ?_)
    | exact ⟨⟩
    | fail
  refine .inr ⟨h, _, rfl, ?_⟩
  have e : Dz (fun o _ => Cf o) true = Ds := funext fun l => R9 true l
  rw [← e]
  exact ⟨a', c', vs', rfl, bj⟩
end
end Go.EV

namespace Go.EV
variable {P : Program}
def Ky (P : Program) (l : Nat) (args : Array Value) (M : Aa) (G : Own) (Φ : Value → Aa → Own → Prop) : Prop :=
 ∀ w, EV.St w (G.map (·.1)) M M G w → ∃ r : Loop, w.heap[l]? = some (.loop r) ∧ args.size = r.params.size ∧
  O7 P l r.fn ((r.params.zip args).foldl (fun tmps (t, a) => tmps.setIfInBounds t a) r.tmps) r.assign r.body w fun v w' => ∃ M' G', EV.St w (G.map (·.1)) M M' G' w' ∧ Φ v M' G'
section
variable {C : Cx P} {l : Nat} {args : Array Value} {M : Aa} {G G1 G2 : Own} {K : Value → Aa → Own → Prop} {Φ : Value → Aa → Own → Prop}
theorem Ky.callA (h : Ky P l args M G1 Φ) (hG : G.Perm (G1 ++ G2)) (hk : ∀ v M' G', M.le M' → Φ v M' G' → K v M' (G2 ++ G')) : E7 C l args M G K := by
 intro w hs
 have aV := hs.perm hG
 obtain ⟨r, h1, h2, h3⟩ := h w (aV.part (Aa.le_add _ _))
 refine ⟨r, h1, h2, h3.mono ?_⟩
 rintro v w' ⟨M', G', k1, k2⟩
 exact ⟨M', G2 ++ G', (aV.callA k1).perm List.perm_append_comm, hk v M' G' k1.base k2⟩
end
def Cx.round (P : Program) (l : Nat) (f : FuncId) (nt : Nat) (w0 : World) (F : List Nat) (M0 : Aa) (Φ : Value → Aa → Own → Prop) : Cx P where
 b := { (default : Frame) with fn := f, kind := .normal, roundOf := some l }
 T := fun cs m => ∀ c cs', cs = c :: cs' → ∃ v w', (∃ M' G', EV.St w0 F M0 M' G' w' ∧ Φ v M' G') ∧ Steps P m (lone (c.finish v) cs' w')
 back := by
  intro cs m m' hs h c cs' e
  obtain ⟨v, w', h1, h2⟩ := h c cs' e
  exact ⟨v, w', h1, Steps.trans (.one hs) h2⟩
 nt := nt
 ds := []
 w0 := w0
 F := F
 M0 := M0
def Cr0 : List Nat → List Value → Env → Env
 | t :: ps, v :: vs, ρ => Cr0 ps vs ((t, v) :: ρ)
 | _, _, ρ => ρ
theorem Vx {nt : Nat} : ∀ (ps : List Nat) (vs : List Value) (ρ : Env) (a : Act), (∀ t ∈ ps, t < nt) → Ei nt ρ a →
  Ei nt (Cr0 ps vs ρ) { a with tmps := (ps.zip vs).foldl (fun tmps (t, v) => tmps.setIfInBounds t v) a.tmps }
 | [], _, ρ, a, _, h => h
 | _ :: _, [], ρ, a, _, h => h
 | t :: ps, v :: vs, ρ, a, hp, h => by
  have h1 := h.put t (hp t (List.mem_cons_self ..)) v
  have h2 := Vx ps vs ((t, v) :: ρ) (a.put (some t) v) (fun q hq => hp q (List.mem_cons_of_mem _ hq)) h1
  simpa [Cr0, Act.put] using h2
structure LoopIs (P : Program) (V : List Nat) (r : Loop) (f : FuncId) (nt : Nat) (ps : List Nat) (asn bd : RCode) (ρ : Env) : Prop where
 fn : r.fn = f
 par : r.params.toList = ps
 pb : ∀ t ∈ ps, t < nt
 fits : Ei nt ρ { tmps := r.tmps, defers := [] }
 asg : CmpC P nt V r.assign asn
 body : CmpC P nt V r.body bd
section
variable {l : Nat} {f : FuncId} {nt : Nat} {V : List Nat} {ps : List Nat} {asn bd : RCode} {ρ : Env} {r : Loop} {M : Aa} {G : Own} {Φ : Value → Aa → Own → Prop}
theorem Ky.enter {vs : List Value} (hl : (l, Obj.loop r) ∈ G) (hr : LoopIs P V r f nt ps asn bd ρ) (hv : vs.length = ps.length)
  (h : ∀ w0, EV (Cx.round P l f nt w0 (G.map (·.1)) M Φ) V [.code asn, .begins, .code bd] (Cr0 ps vs ρ) M G) : Ky P l vs.toArray M G Φ := by
 intro w hs
 have hps := hr.par
 refine ⟨r, hs.own _ hl, ?_, ?_⟩
 ·rw [List.size_toArray, hv, ← hps, Array.length_toList]
 ·intro c cs
  have hf : Ei nt (Cr0 ps vs ρ) { tmps := (ps.zip vs).foldl (fun tmps (t, v) => tmps.setIfInBounds t v) r.tmps, defers := [] } := Vx ps vs ρ { tmps := r.tmps, defers := [] } hr.pb hr.fits
  have := h w [.code r.assign, .beginRound, .code r.body] (.cons (.code hr.asg) (.cons .begins (.cons (.code hr.body) .nil))) _ w hf rfl hs (c :: cs) c cs rfl
  obtain ⟨v, w', h1, h2⟩ := this
  refine ⟨v, w', h1, ?_⟩
  have e : (r.params.zip vs.toArray).foldl (fun tmps (t, a) => tmps.setIfInBounds t a) r.tmps = (ps.zip vs).foldl (fun tmps (t, v) => tmps.setIfInBounds t v) r.tmps := by
   rw [← hps, ← Array.foldl_toList, Array.toList_zip]
  rw [e, hr.fn]
  exact h2
theorem St.loopPut {w0 w : World} {F : List Nat} {M0 : Aa} {G0 : Own} {r r' : Loop} (hs : EV.St w0 F M0 M ((l, Obj.loop r) :: G0) w) : EV.St w0 F M0 M ((l, Obj.loop r') :: G0) (w.putObj l (.loop r')) :=
 hs.put (i := 0) (o' := .loop r') rfl rfl ⟨rfl, Nat.le_refl _⟩ rfl (by simp) (fun k hk => World.putObj_heap_other hk) (World.putObj_heap_same (hs.lt (List.mem_cons_self ..)))
variable {w0 : World} {F : List Nat} {M0 : Aa} {G0 : Own} {k : List RItem}
theorem EV.begins (aX : r.state = .ready) (h : EV (Cx.round P l f nt w0 F M0 Φ) V k ρ M ((l, Obj.loop { r with state := .busy }) :: G0)) : EV (Cx.round P l f nt w0 F M0 Φ) V (.begins :: k) ρ M ((l, Obj.loop r) :: G0) := by
 intro k' hk a w hf hd hs cs
 cases hk with
 | cons hx hk => cases hx with
  | begins =>
   have hl := hs.own (l, Obj.loop r) (List.mem_cons_self ..)
   exact (Cx.round P l f nt w0 F M0 Φ).back (stepR_beginRound rfl (run_beginRound hl aX)) (h _ hk a _ hf hd (St.loopPut hs) cs)
theorem EV.endRound (h : Φ (.bool true) M ((l, Obj.loop { r with state := .ready, pending := none }) :: G0)) : EV (Cx.round P l f nt w0 F M0 Φ) V [] ρ M ((l, Obj.loop r) :: G0) := by
 intro k' hk a w hf hd hs cs c cs' e
 subst e
 cases hk
 have hl := hs.own (l, Obj.loop r) (List.mem_cons_self ..)
 exact ⟨_, _, ⟨M, _, St.loopPut hs, h⟩, .one (stepR_round_end rfl rfl (run_endRound none hl))⟩
theorem EV.retRound (h : Φ (.bool false) M ((l, Obj.loop { r with state := .done, pending := some .ret }) :: G0)) : EV (Cx.round P l f nt w0 F M0 Φ) V (.code .ret :: k) ρ M ((l, Obj.loop r) :: G0) := by
 intro k' hk a w hf hd hs cs c cs' e
 subst e
 cases hk with
 | cons hx hk => cases hx with
  | code hc => cases hc with
   | ret =>
    have hl := hs.own (l, Obj.loop r) (List.mem_cons_self ..)
    exact ⟨_, _, ⟨M, _, St.loopPut hs, h⟩, .one (stepR_round_ret rfl rfl (run_endRound (some .ret) hl))⟩
end
end Go.EV

namespace Go.EV
variable {P : Program}
def Hj (ms : List Nat) : List Deferred := ms.map fun d => { target := .collected d, args := #[] }
def Me (ms : List Nat) : Own := ms.map fun d => (d, Obj.deferred (some []))
def Cx.marks (C : Cx P) (ms : List Nat) : Cx P :=
 {b := C.b, T := C.T, back := C.back, nt := C.nt, ds := Hj ms ++ C.ds, w0 := C.w0, F := C.F, M0 := C.M0 }
abbrev yv (l : Nat) : Value := .func (.yield l) #[] #[]
def Qn (C : Cx P) (V : List Nat) (k : List RItem) (ρ : Env) (l : Nat) (M : Aa) (G : Own) : Prop :=
 ∃ r G', G.Perm ((l, Obj.loop r) :: G') ∧ r.state ≠ .busy ∧
  (match r.pending with
   | none => EV C V k ρ M G'
   | some .ret => EV C V (.code .ret :: k) ρ M G'
   | some (.exit id) => EV C V (.code (.exit id) :: k) ρ M G'
   | _ => False)
theorem Pf (C : Cx P) {cs : List Frame} {m m' : Machine} (h : Steps P m m') (ht : C.T cs m') : C.T cs m := by
 obtain ⟨n, hn⟩ := h
 have key : ∀ (n : Nat) (m m' : Machine), runN P n m = .next m' → C.T cs m' → C.T cs m := by
  intro n
  induction n with
  | zero => intro m m' h1 h2; simp [runN] at h1; subst h1; exact h2
  | succ n ih =>
   intro m m' h1 h2
   simp only [runN] at h1
   cases aX : step P m with
   | next m1 => rw [aX] at h1; exact C.back aX (ih m1 m' h1 h2)
   | ended o w => rw [aX] at h1; simp at h1
 exact key n m m' hn ht
theorem Kz {a : Act} {x : Operand} {g : FuncId} {first caps : Array Value} (l : Nat) (w : World) (hx : a.eval x = .func (.func g) first caps) :
  (resolve a.eval (rangeCall x l) 0).run P w = .ok { target := .fn (.func g) caps, args := first ++ #[yv l] } w := by
 have e : (#[Operand.const (Value.func (Fn.yield l) #[] #[])] : Array Operand).map a.eval = #[yv l] := by simp [Act.eval]
 simp only [resolve, rangeCall, hx, e]
 rfl
section
variable {C : Cx P} {V : List Nat} {k : List RItem} {ρ : Env} {M : Aa} {G : Own} {f : A} {ps : List Nat} {asn bd : RCode} {fv : Value} {g : FuncId} {first caps : Array Value}
theorem EV.rangeAux {k' : List Item} (hk : CmpK P C.nt V k' k) {a : Act} {l : Nat} {cs : List Frame} {fr : Frame} {w' : World} {v : Value} {M' : Aa} {G' : Own}
  (hf : Ei C.nt ρ a) (hd : a.defers = C.ds) (az : fr.leaving P w' (.returned v)) (aX : C.St M' G' w') (hr : Qn C V k ρ l M' G') :
  C.T cs (lone fr (C.b.atR a (.inRangeFunc l :: k') :: cs) w') := by
 obtain ⟨r, G1, hp, hb, hm⟩ := hr
 refine C.back (step_leave_returned az) ?_
 rw [finish_atR_inRangeFunc]
 have lV := aX.perm hp
 have hl := lV.own (l, Obj.loop r) (List.mem_cons_self ..)
 refine C.back (stepR_endRangeFunc (run_endLoop hl hb)) ?_
 have el : C.St M' G1 (w'.putObj l (.loop { r with state := .exhausted })) := (St.loopPut lV).weaken (List.sublist_cons_self _ _)
 revert el
 cases iL : r.pending with
 | none => rw [iL] at hm; exact fun el => hm _ hk a _ hf hd el cs
 | some c =>
  rw [iL] at hm
  cases c with
  | ret => exact fun el => hm _ (.cons (.code .ret) hk) a _ hf hd el cs
  | exit id => exact fun el => hm _ (.cons (.code .exit) hk) a _ hf hd el cs
  | _ => exact hm.elim
theorem EV.rangeF (bJ : C.b.roundOf = none) (fN : ev ρ f = some fv) (cC : fn? fv = some (g, first, caps))
  (h : ∀ (l d : Nat) (r : Loop), LoopIs P V r C.b.fn C.nt ps asn bd ρ → r.state = .ready → r.pending = none →
   Dt (C.marks [d]) g (first ++ #[yv l] ++ caps) M ((l, Obj.loop r) :: (d, Obj.deferred (some [])) :: G) fun _ M' G' => Qn (C.marks [d]) V k ρ l M' G') :
  EV C V (.code (.rangeF f ps asn bd) :: k) ρ M G := by
 intro k' hk a w hf hd hs cs
 have e0 := Qg cC
 subst e0
 cases hk with
 | cons hx hk => cases hx with
  | code hc => cases hc with
   | @rangeF x _ ps' asn' bd' _ _ hA hps ha hb =>
    have hx := Aj hf hA fN
    obtain ⟨hgo, cY⟩ := h (w.heap.size + 1) w.heap.size { state := .ready, pending := none, fn := C.b.fn, tmps := a.tmps, params := ps', assign := asn', body := bd', defers := w.heap.size }
     ⟨rfl, rfl, hps, ⟨hf.1, hf.2⟩, ha, hb⟩ rfl rfl
    have he := run_enterLoop_outer (P := P) (w := w) C.b.fn a.tmps ps' asn' bd'
    rw [← bJ] at he
    have aD := Kz (P := P) (w.heap.size + 1) ((w.alloc (.deferred (some []))).alloc (.loop { state := .ready, pending := none, fn := C.b.fn, tmps := a.tmps, params := ps', assign := asn', body := bd', defers := w.heap.size })) hx
    have ba := Gc hgo (first ++ #[yv (w.heap.size + 1)] ++ caps) ((w.alloc (.deferred (some []))).alloc (.loop { state := .ready, pending := none, fn := C.b.fn, tmps := a.tmps, params := ps', assign := asn', body := bd', defers := w.heap.size }))
    refine C.back (stepR_rangeFunc he aD ba) ?_
    have aX : (C.marks [w.heap.size]).St M ((w.heap.size + 1, Obj.loop { state := .ready, pending := none, fn := C.b.fn, tmps := a.tmps, params := ps', assign := asn', body := bd', defers := w.heap.size }) :: (w.heap.size, Obj.deferred (some [])) :: G)
      ((w.alloc (.deferred (some []))).alloc (.loop { state := .ready, pending := none, fn := C.b.fn, tmps := a.tmps, params := ps', assign := asn', body := bd', defers := w.heap.size })) := by
     have h1 := hs.alloc (.deferred (some []))
     have h2 := h1.alloc (.loop { state := .ready, pending := none, fn := C.b.fn, tmps := a.tmps, params := ps', assign := asn', body := bd', defers := w.heap.size })
     simpa [Cx.marks] using h2
    obtain ⟨e, w'', fr, ⟨v, jh, M', G', ji, cd⟩, en, dt, fj⟩ := cY _ aX (C.b.atR { a with defers := [{ target := .collected w.heap.size, args := #[] }] ++ a.defers } (.inRangeFunc (w.heap.size + 1) :: _) :: cs)
    subst jh
    refine Pf C en ?_
    refine EV.rangeAux (C := C.marks [w.heap.size]) (a := { a with defers := [{ target := .collected w.heap.size, args := #[] }] ++ a.defers }) hk ⟨hf.1, hf.2⟩ ?_ fj ji cd
    show [{ target := .collected w.heap.size, args := #[] }] ++ a.defers = Hj [w.heap.size] ++ C.ds
    rw [hd]; rfl
theorem EV.rangeI {l0 : Nat} {r0 : Loop} (bJ : C.b.roundOf = some l0) (gH : (l0, Obj.loop r0) ∈ G) (fN : ev ρ f = some fv) (cC : fn? fv = some (g, first, caps))
  (h : ∀ (l : Nat) (r : Loop), LoopIs P V r C.b.fn C.nt ps asn bd ρ → r.state = .ready → r.pending = none →
   Dt C g (first ++ #[yv l] ++ caps) M ((l, Obj.loop r) :: G) fun _ M' G' => Qn C V k ρ l M' G') :
  EV C V (.code (.rangeF f ps asn bd) :: k) ρ M G := by
 intro k' hk a w hf hd hs cs
 have e0 := Qg cC
 subst e0
 cases hk with
 | cons hx hk => cases hx with
  | code hc => cases hc with
   | @rangeF x _ ps' asn' bd' _ _ hA hps ha hb =>
    have hx := Aj hf hA fN
    obtain ⟨hgo, cY⟩ := h w.heap.size { state := .ready, pending := none, fn := C.b.fn, tmps := a.tmps, params := ps', assign := asn', body := bd', defers := r0.defers }
     ⟨rfl, rfl, hps, ⟨hf.1, hf.2⟩, ha, hb⟩ rfl rfl
    have he := run_enterLoop_inner (P := P) (w := w) (hs.own _ gH) C.b.fn a.tmps ps' asn' bd'
    rw [← bJ] at he
    have aD := Kz (P := P) w.heap.size (w.alloc (.loop { state := .ready, pending := none, fn := C.b.fn, tmps := a.tmps, params := ps', assign := asn', body := bd', defers := r0.defers })) hx
    have ba := Gc hgo (first ++ #[yv w.heap.size] ++ caps) (w.alloc (.loop { state := .ready, pending := none, fn := C.b.fn, tmps := a.tmps, params := ps', assign := asn', body := bd', defers := r0.defers }))
    refine C.back (stepR_rangeFunc he aD ba) ?_
    have aX := hs.alloc (.loop { state := .ready, pending := none, fn := C.b.fn, tmps := a.tmps, params := ps', assign := asn', body := bd', defers := r0.defers })
    obtain ⟨e, w'', fr, ⟨v, jh, M', G', ji, cd⟩, en, dt, fj⟩ := cY _ aX (C.b.atR { a with defers := [] ++ a.defers } (.inRangeFunc w.heap.size :: _) :: cs)
    subst jh
    refine Pf C en ?_
    exact EV.rangeAux (C := C) (a := { a with defers := [] ++ a.defers }) hk ⟨hf.1, hf.2⟩ hd fj ji cd
end
section
variable {f : FuncId} {w0 : World} {F : List Nat} {M0 M : Aa} {G : Own} {Φ : Value → Aa → Own → Prop} {V Q : List Nat} {k : List RItem} {ρ : Env}
theorem Y3 {cs : List Frame} : ∀ (ms : List Nat) {w : World} {fr : Frame}, St w0 F M0 M (Me ms ++ G) w → fr.mode = .returning → fr.defers = Hj ms →
  ∃ w', St w0 F M0 M G w' ∧ Steps P (lone fr cs w) (lone { fr with defers := [] } cs w')
 | [], w, fr, hs, _, hd => by
  refine ⟨w, by simpa [Me] using hs, ?_⟩
  have : { fr with defers := [] } = fr := by
   cases fr; simp only [Hj, List.map_nil] at hd; subst hd; rfl
  rw [this]; exact Steps.refl _ _
 | d :: ms, w, fr, hs, hm, hd => by
  have aI : St w0 F M0 M ((d, Obj.deferred (some [])) :: (Me ms ++ G)) w := by simpa [Me] using hs
  have hl := aI.own (d, Obj.deferred (some [])) (List.mem_cons_self ..)
  have h1 := step_collected (P := P) (cs := cs) (fr := fr) (w := w) (d := { target := .collected d, args := #[] }) (r := d) (ds := Hj ms) (calls := []) (by rw [hm]; simp) hd rfl (run_takeDeferred hl)
  have bo : St w0 F M0 M ((d, Obj.deferred none) :: (Me ms ++ G)) (w.putObj d (.deferred none)) :=
   aI.put (i := 0) (o' := .deferred none) rfl rfl ⟨rfl, Nat.le_refl _⟩ rfl (by simp) (fun k hk => World.putObj_heap_other hk) (World.putObj_heap_same (aI.lt (List.mem_cons_self ..)))
  obtain ⟨w', h2, h3⟩ := Y3 ms (cs := cs) (fr := { fr with defers := [] ++ Hj ms }) (bo.weaken (List.sublist_cons_self _ _)) hm rfl
  exact ⟨w', h2, Steps.trans (.one h1) h3⟩
theorem EV.retM {R : RFun} (hR : Ai P V Q f = some R) {ms : List Nat} {G1 : Own} (hG : G.Perm (Me ms ++ G1)) (h : Aw0 R ρ M G1 Φ) : EV ((Cx.fn P f R.nt w0 F M0 Φ).marks ms) R.V (.code .ret :: k) ρ M G := by
 unfold Ai at hR
 split at hR
 ·rename_i hgo
  simp only [Option.bind_eq_some_iff] at hR
  obtain ⟨fn, cC, c, hc, r, hr, res, aD, e⟩ := hR
  cases e
  intro k' hk a w hf hd hs cs
  cases hk with
  | cons hx hk => cases hx with
   | code hc => cases hc with
    | ret =>
     have cr : a.defers = Hj ms := by rw [hd]; exact List.append_nil _
     obtain ⟨w', aV, aX⟩ := Y3 (P := P) (cs := cs) ms (fr := { ((Cx.fn P f fn.ntmps w0 F M0 Φ).marks ms).b.atR a (.code .ret :: _) with mode := .returning }) (hs.perm hG) rfl cr
     obtain ⟨v, hv, hΦ⟩ := Gh (P := P) (fn := fn) (Q := fun v => Φ v M G1) hf (fun b o hb => aV.agreeAdd hb) (compRs_ok aD) h
     refine ⟨.returned v, w', _, ⟨v, rfl, M, G1, aV, hΦ⟩, Steps.trans (.one (stepR_ret rfl)) aX, rfl, ?_⟩
     exact ⟨rfl, rfl, rfl, fn, cC, hv⟩
 ·cases hR
theorem EV.doneM {R : RFun} (hR : Ai P V Q f = some R) {ms : List Nat} {G1 : Own} (hG : G.Perm (Me ms ++ G1)) (h : Aw0 R ρ M G1 Φ) : EV ((Cx.fn P f R.nt w0 F M0 Φ).marks ms) R.V [] ρ M G := by
 unfold Ai at hR
 split at hR
 ·rename_i hgo
  simp only [Option.bind_eq_some_iff] at hR
  obtain ⟨fn, cC, c, hc, r, hr, res, aD, e⟩ := hR
  cases e
  intro k' hk a w hf hd hs cs
  cases hk with
  | nil =>
   have cr : a.defers = Hj ms := by rw [hd]; exact List.append_nil _
   obtain ⟨w', aV, aX⟩ := Y3 (P := P) (cs := cs) ms (fr := { ((Cx.fn P f fn.ntmps w0 F M0 Φ).marks ms).b.atR a [] with mode := .returning }) (hs.perm hG) rfl cr
   obtain ⟨v, hv, hΦ⟩ := Gh (P := P) (fn := fn) (Q := fun v => Φ v M G1) hf (fun b o hb => aV.agreeAdd hb) (compRs_ok aD) h
   refine ⟨.returned v, w', _, ⟨v, rfl, M, G1, aV, hΦ⟩, Steps.trans (.one (stepR_end rfl)) aX, rfl, ?_⟩
   exact ⟨rfl, rfl, rfl, fn, cC, hv⟩
 ·cases hR
end
section
variable {l : Nat} {f : FuncId} {nt : Nat} {V : List Nat} {ρ : Env} {r : Loop} {M : Aa} {G : Own} {Φ : Value → Aa → Own → Prop} {w0 : World} {F : List Nat} {M0 : Aa} {G0 : Own} {k : List RItem}
theorem Y4 {r : Loop} (h1 : r.state = .ready) (h2 : r.pending = none) : ({ { r with state := .busy } with state := .ready, pending := none } : Loop) = r := by
 cases r; simp only at h1 h2; subst h1 h2; rfl
end
def Y5 {α : Type} (P : Program) (g : FuncId) (first caps : Array Value) (M : Aa) (L : List α) (El : α → Value → Aa → Prop) : Prop :=
 ∀ (l : Nat) (I : List α → Aa → Own → Prop) (S : Aa → Own → Prop) (M1 : Aa) (G : Own), M.le M1 →
  (∀ xs M2 M3 G2, M2.le M3 → I xs M2 G2 → I xs M3 G2) →
  (∀ xs x, x ∈ L → ∀ M2 G2 v, M1.le M2 → I xs M2 G2 → El x v M2 → Ky P l #[v] M2 G2 fun b M3 G3 => (b = .bool true ∧ I (xs ++ [x]) M3 G3) ∨ (b = .bool false ∧ S M3 G3)) →
  ∀ xs, I xs M1 G → Con P g (first ++ #[yv l] ++ caps) M1 G fun _ M' G' => I (xs ++ L) M' G' ∨ S M' G'
theorem Y5.mono {α : Type} {g : FuncId} {first caps : Array Value} {M M' : Aa} {L : List α} {El : α → Value → Aa → Prop} (h : Y5 P g first caps M L El) (hM : M.le M') : Y5 P g first caps M' L El :=
 fun l I S M1 G aj => h l I S M1 G (Aa.le_trans hM aj)
def Vy (l : Nat) (r : Loop) (N : Aa → Own → Prop) (S : Code → Aa → Own → Prop) (b : Value) (M : Aa) (G : Own) : Prop :=
 (b = .bool true ∧ ∃ G', G.Perm ((l, Obj.loop r) :: G') ∧ N M G') ∨
 (b = .bool false ∧ ∃ c G', G.Perm ((l, Obj.loop { r with state := .done, pending := some c }) :: G') ∧ S c M G')
abbrev Cx.rnd (P : Program) (l : Nat) (r : Loop) (f : FuncId) (nt : Nat) (w0 : World) (F : List Nat) (M0 : Aa) (N : Aa → Own → Prop) (S : Code → Aa → Own → Prop) : Cx P :=
 Cx.round P l f nt w0 F M0 (Vy l r N S)
section
variable {l : Nat} {f : FuncId} {nt : Nat} {V : List Nat} {ρ : Env} {r : Loop} {M : Aa} {G : Own} {N : Aa → Own → Prop} {S : Code → Aa → Own → Prop} {w0 : World} {F : List Nat} {M0 : Aa} {G0 : Own} {k : List RItem}
theorem EV.rbegin (aX : r.state = .ready) (h : EV (Cx.rnd P l r f nt w0 F M0 N S) V k ρ M ((l, Obj.loop { r with state := .busy }) :: G0)) : EV (Cx.rnd P l r f nt w0 F M0 N S) V (.begins :: k) ρ M ((l, Obj.loop r) :: G0) := EV.begins aX h
theorem EV.rend (h1 : r.state = .ready) (h2 : r.pending = none) (hG : G.Perm ((l, Obj.loop { r with state := .busy }) :: G0)) (h : N M G0) : EV (Cx.rnd P l r f nt w0 F M0 N S) V [] ρ M G := by
 refine EV.permG (EV.endRound ?_) hG
 refine .inl ⟨rfl, G0, ?_, h⟩
 rw [Y4 h1 h2]
theorem EV.rret (hG : G.Perm ((l, Obj.loop { r with state := .busy }) :: G0)) (h : S .ret M G0) : EV (Cx.rnd P l r f nt w0 F M0 N S) V (.code .ret :: k) ρ M G := by
 refine EV.permG (EV.retRound ?_) hG
 exact .inr ⟨rfl, _, G0, List.Perm.refl _, h⟩
end
def Vz (C : Cx P) (V : List Nat) (k : List RItem) (ρ : Env) (c : Code) (M : Aa) (G : Own) : Prop :=
 match c with
 | .ret => EV C V (.code .ret :: k) ρ M G
 | .exit id => EV C V (.code (.exit id) :: k) ρ M G
 | _ => False
section
variable {α : Type} {C : Cx P} {V : List Nat} {k : List RItem} {ρ : Env} {M : Aa} {G : Own} {f : A} {ps : List Nat} {asn bd : RCode} {fv : Value} {g : FuncId} {first caps : Array Value}
theorem Mf {L : List α} {El : α → Value → Aa → Prop} (bi : Y5 P g first caps M L El) (I : List α → Aa → Own → Prop) (S : Code → Aa → Own → Prop)
  {l : Nat} {r : Loop} {fn : FuncId} {nt t : Nat} (hr : LoopIs P V r fn nt [t] asn bd ρ)
  (aF : ∀ xs M2 M3 G2, M2.le M3 → I xs M2 G2 → I xs M3 G2)
  (bT : ∀ xs x v M2 G2 w0 F, x ∈ L → M.le M2 → I xs M2 G2 → El x v M2 → EV (Cx.rnd P l r fn nt w0 F M2 (I (xs ++ [x])) S) V [.code asn, .begins, .code bd] ((t, v) :: ρ) M2 ((l, Obj.loop r) :: G2))
  {G0 : Own} (hI : I [] M G0) :
  Con P g (first ++ #[yv l] ++ caps) M ((l, Obj.loop r) :: G0) fun _ M' G' => (∃ G1, G'.Perm ((l, Obj.loop r) :: G1) ∧ I L M' G1) ∨ (∃ c G1, G'.Perm ((l, Obj.loop { r with state := .done, pending := some c }) :: G1) ∧ S c M' G1) := by
 have := bi l (fun xs M2 G2 => ∃ G1, G2.Perm ((l, Obj.loop r) :: G1) ∧ I xs M2 G1) (fun M2 G2 => ∃ c G1, G2.Perm ((l, Obj.loop { r with state := .done, pending := some c }) :: G1) ∧ S c M2 G1) M ((l, Obj.loop r) :: G0) (Aa.le_refl _)
  (fun xs M2 M3 G2 aj ⟨G1, h1, h2⟩ => ⟨G1, h1, aF _ _ _ _ aj h2⟩) ?_ [] ⟨G0, List.Perm.refl _, hI⟩
 ·exact this
 ·rintro xs x hx M2 G2 v bE ⟨G1, hp, h2⟩ hv
  have hy : Ky P l [v].toArray M2 ((l, Obj.loop r) :: G1) (Vy l r (I (xs ++ [x])) S) :=
   Ky.enter (List.mem_cons_self ..) hr rfl fun w0 => bT xs x v M2 G1 w0 _ hx bE h2 hv
  intro w hs
  obtain ⟨r', e1, e2, e3⟩ := hy w (by
   have aV := hs.perm hp
   have : St w ((((l, Obj.loop r) :: G1)).map (·.1)) M2 M2 ((l, Obj.loop r) :: G1) w := St.enter aV.agree aV.own aV.sep aV.nodup
   exact this)
  refine ⟨r', e1, e2, e3.mono ?_⟩
  rintro b w' ⟨M', G', k1, k2⟩
  refine ⟨M', G', ?_, ?_⟩
  ·have aJ : ∀ b, b ∈ (((l, Obj.loop r) :: G1).map (·.1)) ↔ b ∈ G2.map (·.1) := fun b => ((hp.map (·.1)).mem_iff).symm
   exact ⟨k1.os, k1.tape, k1.output, k1.size, fun b hb hf => k1.frame b hb (fun h => hf ((aJ b).1 h)), k1.agree, k1.own, k1.sep, fun p lW => (k1.new p lW).imp (aJ _).1 id, k1.nodup, k1.base,
    fun b o hm => (k1.fresh b o hm).imp id fun h => h.imp (aJ _).1 id⟩
  ·rcases k2 with ⟨rfl, G3, h3, h4⟩ | ⟨rfl, c, G3, h3, h4⟩
   ·exact .inl ⟨rfl, G3, h3, h4⟩
   ·exact .inr ⟨rfl, c, G3, h3, h4⟩
theorem EV.over {L : List α} {El : α → Value → Aa → Prop} (bJ : C.b.roundOf = none) (fN : ev ρ f = some fv) (cC : fn? fv = some (g, first, caps)) (bi : Y5 P g first caps M L El)
  (I : Nat → List α → Aa → Own → Prop) (S : Nat → Code → Aa → Own → Prop) {t : Nat}
  (aF : ∀ d xs M2 M3 G2, M2.le M3 → I d xs M2 G2 → I d xs M3 G2)
  (hI : ∀ d, I d [] M ((d, Obj.deferred (some [])) :: G))
  (bT : ∀ l d (r : Loop), r.state = .ready → r.pending = none → ∀ xs x v M2 G2 w0 F, x ∈ L → M.le M2 → I d xs M2 G2 → El x v M2 →
   EV (Cx.rnd P l r C.b.fn C.nt w0 F M2 (I d (xs ++ [x])) (S d)) V [.code asn, .begins, .code bd] ((t, v) :: ρ) M2 ((l, Obj.loop r) :: G2))
  (cd : ∀ d M' G', M.le M' → I d L M' G' → EV (C.marks [d]) V k ρ M' G')
  (ce : ∀ d c M' G', M.le M' → S d c M' G' → Vz (C.marks [d]) V k ρ c M' G') :
  EV C V (.code (.rangeF f [t] asn bd) :: k) ρ M G := by
 refine EV.rangeF bJ fN cC fun l d r hr h1 h2 => ?_
 refine Con.callA (G2 := []) (Mf bi (I d) (S d) hr (aF d) (fun xs x v M2 G2 w0 F => bT l d r h1 h2 xs x v M2 G2 w0 F) (hI d)) (by simp) ?_
 rintro v M' G' bR (⟨G1, hp, h3⟩ | ⟨c, G1, hp, h3⟩)
 ·refine ⟨r, G1, by simpa using hp, by rw [h1]; simp, ?_⟩
  rw [h2]; exact cd d M' G1 bR h3
 ·refine ⟨_, G1, by simpa using hp, by simp, ?_⟩
  have := ce d c M' G1 bR h3
  cases c <;> first | exact this | exact this.elim
theorem EV.overI {L : List α} {El : α → Value → Aa → Prop} {l0 : Nat} {r0 : Loop} (bJ : C.b.roundOf = some l0) (gH : (l0, Obj.loop r0) ∈ G) (fN : ev ρ f = some fv) (cC : fn? fv = some (g, first, caps)) (bi : Y5 P g first caps M L El)
  (I : List α → Aa → Own → Prop) (S : Code → Aa → Own → Prop) {t : Nat}
  (aF : ∀ xs M2 M3 G2, M2.le M3 → I xs M2 G2 → I xs M3 G2)
  (hI : I [] M G)
  (bT : ∀ l (r : Loop), r.state = .ready → r.pending = none → ∀ xs x v M2 G2 w0 F, x ∈ L → M.le M2 → I xs M2 G2 → El x v M2 →
   EV (Cx.rnd P l r C.b.fn C.nt w0 F M2 (I (xs ++ [x])) S) V [.code asn, .begins, .code bd] ((t, v) :: ρ) M2 ((l, Obj.loop r) :: G2))
  (cd : ∀ M' G', M.le M' → I L M' G' → EV C V k ρ M' G')
  (ce : ∀ c M' G', M.le M' → S c M' G' → Vz C V k ρ c M' G') :
  EV C V (.code (.rangeF f [t] asn bd) :: k) ρ M G := by
 refine EV.rangeI bJ gH fN cC fun l r hr h1 h2 => ?_
 refine Con.callA (G2 := []) (Mf bi I S hr aF (fun xs x v M2 G2 w0 F => bT l r h1 h2 xs x v M2 G2 w0 F) hI) (by simp) ?_
 rintro v M' G' bR (⟨G1, hp, h3⟩ | ⟨c, G1, hp, h3⟩)
 ·refine ⟨r, G1, by simpa using hp, by rw [h1]; simp, ?_⟩
  rw [h2]; exact cd M' G1 bR h3
 ·refine ⟨_, G1, by simpa using hp, by simp, ?_⟩
  have := ce c M' G1 bR h3
  cases c <;> first | exact this | exact this.elim
end
theorem EV.loopTo {C : Cx P} {V : List Nat} {k : List RItem} {ρ : Env} {M : Aa} {G : Own} {c : RCode} {α : Type} (st : α → Env × Aa × Own) (I : α → Prop) (μ : α → Nat) (x : α) (hM : (st x).2.1 = M) (hI : I x)
  (hρ : ∀ p ∈ (st x).1, get ρ p.1 = some p.2) (hG : (st x).2.2.Sublist G)
  (body : ∀ x, I x → (∀ x', I x' → μ x' < μ x → EV C V (.inLoop c :: k) (st x').1 (st x').2.1 (st x').2.2) → EV C V (.code c :: .inLoop c :: k) (st x).1 (st x).2.1 (st x).2.2) :
  EV C V (.code (.loop c) :: k) ρ M G := by
 subst hM
 exact EV.to (EV.loop st I μ x hI body) hρ hG
end Go.EV

namespace Go.EV
variable {P : Program}
theorem rd.pt {H : Aa} {b off n : Nat} {cs out : List Value} (h : rd H b off n cs) (i k : Nat) (hm : i + k ≤ n) (e : (cs.drop i).take k = out) : rd H b (off + i) k out := e ▸ h.part hm
theorem Jp {α : Type} (f : α → Value) : ∀ (l : List α) {i : Nat} (h : i < l.length), ((l.map f).drop i).take 1 = [f l[i]]
 | x :: l, 0, _ => by simp
 | x :: l, i + 1, h => by
  have := Jp f l (i := i) (by simpa using h)
  simpa using this
section
variable {C : Cx P} {f : FuncId} {args : Array Value} {V : List Nat} {c : RItem} {k : List RItem} {ρ : Env} {M : Aa} {G G2 G3 : Own} {K : Value → Aa → Own → Prop}
theorem Dt.frz (hG : G.Perm (G2 ++ G3)) (h : Dt C f args (M.add G2) G3 K) : Dt C f args M G K :=
 ⟨h.1, fun w hs cs => h.2 w (hs.perm hG).freeze cs⟩
theorem EV.thru (Φ : Env → Aa → Own → Prop) (h1 : ∀ k', (∀ ρ' M' G', Φ ρ' M' G' → EV C V k' ρ' M' G') → EV C V (c :: k') ρ M G) (h2 : ∀ ρ' M' G', Φ ρ' M' G' → EV C V k ρ' M' G') : EV C V (c :: k) ρ M G := h1 k h2
end
theorem Ca {α : Type} {M : Aa} {G : Own} {b : Nat} {T : TypeId} {f : α → Value} {xs : List α} {i : Nat} (hi : i < xs.length) [h : At G b T (xs.map f)] : rd (M.add G) b i 1 [f xs[i]] :=
 Bv h.mem (Jp f xs hi) (by rw [List.length_map]; omega)
theorem V0 {α : Type} {M : Aa} {G : Own} {b : Nat} {T : TypeId} {f : α → Value} {xs : List α} {sp : List Value} {i : Nat} (hi : i < xs.length) [h : At G b T (xs.map f ++ sp)] : rd (M.add G) b i 1 [f xs[i]] := by
 refine Bv h.mem ?_ (by rw [List.length_append, List.length_map]; omega)
 rw [List.drop_append_of_le_length (by rw [List.length_map]; omega), List.take_append_of_le_length (by rw [List.length_drop, List.length_map]; omega), Jp f xs hi]
theorem Ar {α : Type} (f : α → Value) (xs : List α) {i : Nat} (hi : i < xs.length) (x : α) : (xs.map f).take i ++ (f x :: (xs.map f).drop (i + 1)) = (xs.set i x).map f := by
 rw [List.map_set, List.set_eq_take_append_cons_drop, if_pos (by rw [List.length_map]; exact hi)]
abbrev Bg (b n c : Nat) : Value := .slice (some ⟨b, 0, none⟩) n c
class Pull (G : Own) (x : Nat × Obj) (R : outParam Own) : Prop where
 p : G.Perm (x :: R)
instance Pull.here {x : Nat × Obj} {G : Own} : Pull (x :: G) x G := ⟨List.Perm.refl _⟩
instance (priority := low) Pull.there {x y : Nat × Obj} {G R : Own} [h : Pull G x R] : Pull (y :: G) x (y :: R) := ⟨(List.Perm.cons y h.p).trans (List.Perm.swap x y R)⟩
instance (priority := low) Pull.app {x : Nat × Obj} {A G R : Own} [h : Pull G x R] : Pull (A ++ G) x (A ++ R) := ⟨(List.Perm.append_left A h.p).trans List.perm_middle⟩
class PullL (G : Own) (A : Own) (R : outParam Own) : Prop where
 p : G.Perm (A ++ R)
instance PullL.here {A G : Own} : PullL (A ++ G) A G := ⟨List.Perm.refl _⟩
instance (priority := 900) PullL.all {A : Own} : PullL A A [] := ⟨by simp⟩
instance (priority := low) PullL.cons {A G R : Own} {y : Nat × Obj} [h : PullL G A R] : PullL (y :: G) A (y :: R) := ⟨(List.Perm.cons y h.p).trans List.perm_middle.symm⟩
instance (priority := low) PullL.app {A B G R : Own} [h : PullL G A R] : PullL (B ++ G) A (B ++ R) := ⟨(List.Perm.append_left B h.p).trans (by rw [← List.append_assoc, ← List.append_assoc]; exact List.Perm.append_right _ List.perm_append_comm)⟩
class SubS (G G' : Own) (R : outParam Own) : Prop where
 p : G.Perm (G' ++ R)
instance SubS.nil {G : Own} : SubS G [] G := ⟨List.Perm.refl _⟩
instance SubS.cons {G G1 t R : Own} {x : Nat × Obj} [h1 : Pull G x G1] [h2 : SubS G1 t R] : SubS G (x :: t) R := ⟨h1.p.trans (List.Perm.cons x h2.p)⟩
instance (priority := low) SubS.app {G G1 A t R : Own} [h1 : PullL G A G1] [h2 : SubS G1 t R] : SubS G (A ++ t) R := ⟨h1.p.trans ((List.Perm.append_left A h2.p).trans (by simp))⟩
instance (priority := low) SubS.last {G G1 A : Own} [h1 : PullL G A G1] : SubS G A G1 := ⟨h1.p⟩
section
variable {C : Cx P} {f : FuncId} {args : Array Value} {V : List Nat} {k : List RItem} {ρ ρ' : Env} {M : Aa} {G G' R : Own} {K : Value → Aa → Own → Prop} {Φ : Value → Aa → Own → Prop}
theorem EV.toS (h : EV C V k ρ' M G') (hρ : ∀ p ∈ ρ', get ρ p.1 = some p.2) [hG : SubS G G' R] : EV C V k ρ M G :=
 EV.permG (EV.to h hρ (List.sublist_append_left _ _)) hG.p
theorem EV.reS (h : EV C V k ρ M G') [hG : SubS G G' R] : EV C V k ρ M G :=
 EV.permG (EV.weaken h (fun _ _ h => h) (List.sublist_append_left _ _)) hG.p
theorem EV.frz (G' : Own) [hG : SubS G G' R] (h : EV C V k ρ (M.add G') R) : EV C V k ρ M G :=
 EV.permG (EV.freeze h) hG.p
theorem Dt.frzS (G' : Own) [hG : SubS G G' R] (h : Dt C f args (M.add G') R K) : Dt C f args M G K := Dt.frz hG.p h
theorem Con.callS {G1 : Own} (h : Con P f args M G1 Φ) [hG : SubS G G1 R] (hk : ∀ v M' G', M.le M' → Φ v M' G' → K v M' (G' ++ R)) : Dt C f args M G K :=
 ⟨h.1, fun w hs cs => by
  have aV := hs.perm hG.p
  obtain ⟨e, w', fr, ⟨v, he, M', G', h1, h2⟩, r⟩ := h.2 w (aV.part (Aa.le_add _ _)) cs
  exact ⟨e, w', fr, ⟨v, he, M', G' ++ R, aV.callA h1, hk v M' G' h1.base h2⟩, r⟩⟩
theorem Con.callK {G1 : Own} {Mr : Aa} (h : Con P f args Mr G1 Φ) [hG : SubS G G1 R] (jA : Mr.le (M.add R)) (hk : ∀ v M' G', Φ v M' G' → K v M (G' ++ R)) : Dt C f args M G K :=
 ⟨h.1, fun w hs cs => by
  have aV := hs.perm hG.p
  obtain ⟨e, w', fr, ⟨v, he, M', G', h1, h2⟩, r⟩ := h.2 w (aV.part jA) cs
  exact ⟨e, w', fr, ⟨v, he, M, G' ++ R, aV.callB h1, hk v M' G' h2⟩, r⟩⟩
end
section
variable {C : Cx P} {f : FuncId} {l : Nat} {args : Array Value} {V : List Nat} {k : List RItem} {ρ : Env} {M : Aa} {G G1 R : Own} {K : Value → Aa → Own → Prop} {Φ : Value → Aa → Own → Prop}
theorem Dt.keep (G1 : Own) [h : PullL G G1 R] (k : Dt C f args (M.add R) G1 K) : Dt C f args M G K := Dt.frz (h.p.trans List.perm_append_comm) k
theorem EV.keep (G1 : Own) [h : PullL G G1 R] (h' : EV C V k ρ (M.add R) G1) : EV C V k ρ M G := EV.permG (EV.freeze h') (h.p.trans List.perm_append_comm)
theorem EV.keepS (G1 : Own) [h : SubS G G1 R] (h' : EV C V k ρ (M.add R) G1) : EV C V k ρ M G := EV.permG (EV.freeze h') (h.p.trans List.perm_append_comm)
theorem E7.keep (G1 : Own) [h : PullL G G1 R] (k : E7 C l args (M.add R) G1 K) : E7 C l args M G K :=
 fun w hs => k w (hs.perm (h.p.trans List.perm_append_comm)).freeze
theorem Ky.run (h : Ky P l args M G Φ) (hk : ∀ v M' G', M.le M' → Φ v M' G' → K v M' G') : E7 C l args M G K := by
 refine h.callA (G2 := []) (by simp) fun v M' G' hM hv => ?_
 rw [List.nil_append]; exact hk v M' G' hM hv
theorem E7.frzS (G1 : Own) [h : SubS G G1 R] (k : E7 C l args (M.add G1) R K) : E7 C l args M G K := fun w hs => k w (hs.perm h.p).freeze
theorem Ky.callS (h : Ky P l args M G1 Φ) [hG : SubS G G1 R] (hk : ∀ v M' G', M.le M' → Φ v M' G' → K v M' (R ++ G')) : E7 C l args M G K := h.callA hG.p hk
theorem Con.run (h : Con P f args M G Φ) (hk : ∀ v M' G', M.le M' → Φ v M' G' → K v M' G') : Dt C f args M G K := by
 refine h.callA (G2 := []) (by simp) fun v M' G' hM hv => ?_
 rw [List.nil_append]; exact hk v M' G' hM hv
end
theorem Con.callN {C : Cx P} {f : FuncId} {args : Array Value} {M : Aa} {G : Own} {K : Value → Aa → Own → Prop} {Φ : Value → Aa → Own → Prop} (h : Con P f args (M.add G) [] Φ) (hk : ∀ v M' G', Φ v M' G' → K v M (G ++ G')) : Dt C f args M G K :=
 Con.callB (G1 := []) h (Aa.le_refl _) (List.Perm.refl _) hk
section
variable {C : Cx P} {ρ : Env} {Mk M : Aa} {Gk G : Own} {K : Env → Aa → Own → Prop} {KQ : Env → Prop}
theorem Cr1 {t : AT} (e : t = .fin) (h : K ρ M G) : wpA C t ρ Mk Gk M G K := by subst e; exact h
theorem Ey2 {t : AT} (e : t = .no) : wpA C t ρ Mk Gk M G K := by subst e; trivial
theorem Cr2 {t rest : AT} {l : QL} (e : t = .q l rest) (h : ∀ l' t', l' = l → t' = rest → Ka C l' ρ Mk Gk fun ρ' => wpA C t' ρ' Mk Gk M G K) : wpA C t ρ Mk Gk M G K := by subst e; exact h _ _ rfl rfl
theorem Sa {t0 : AT} {i : Nat} {d : Option Nat} {r : ROp} {t more : AT} (e : t0 = .s i d r false t more) (h : ∀ t', t' = t → opW C ρ M G (fun v M' G' => M.le M' ∧ (∀ p ∈ Gk, p ∈ G') ∧ wpA C t' (putE d v ρ) Mk Gk M' G' K) r) (h2 : ∀ t', t' = more → wpA C t' ρ Mk Gk M G K) : wpA C t0 ρ Mk Gk M G K := by
 subst e; simp only [wpA, Bool.false_eq_true, if_false]; exact ⟨h _ rfl, h2 _ rfl⟩
theorem Ec {t0 : AT} {i : Nat} {d : Option Nat} {r : ROp} {t more : AT} (e : t0 = .s i d r true t more) (h : ∀ t', t' = t → opW C ρ M G (fun v M' G' => wpA C t' (putE d v ρ) M' G' M' G' K) r) (h2 : ∀ t', t' = more → wpA C t' ρ Mk Gk M G K) : wpA C t0 ρ Mk Gk M G K := by
 subst e; simp only [wpA, if_true]; exact ⟨h _ rfl, h2 _ rfl⟩
theorem Ad0 {t0 : AT} {s : Nat} {yes nay : AT} {c : Bool} (e : t0 = .br s yes nay) (hc : get ρ s = some (.bool c)) (h1 : ∀ t', t' = yes → c = true → wpA C t' ρ Mk Gk M G K) (h2 : ∀ t', t' = nay → c = false → wpA C t' ρ Mk Gk M G K) : wpA C t0 ρ Mk Gk M G K := by
 subst e; simp only [wpA, hc, Cb, Iy]; exact ⟨h1 _ rfl, h2 _ rfl⟩
theorem Cr3 {t0 : AT} {i : Nat} {d : Option Nat} {rest : AT} (e : t0 = .sk i d rest) (h : ∀ t', t' = rest → wpA C t' ρ Mk Gk M G K) : wpA C t0 ρ Mk Gk M G K := by subst e; exact h rest rfl
theorem Cr4 {l : QL} (e : l = .nil) (h : KQ ρ) : Ka C l ρ M G KQ := by subst e; exact h
theorem Ey3 {l : QL} {i : Nat} {d : Option Nat} {r : ROp} {rest : QL} (e : l = .op i d r rest) (h : ∀ l', l' = rest → qW C ρ M G (fun v => Ka C l' (putE d v ρ) M G KQ) r) : Ka C l ρ M G KQ := by subst e; exact h _ rfl
theorem Mg {l : QL} {s : Nat} {want : Bool} {body : QL} {m d : Nat} {last : A} {rest : QL} {c : Bool} (e0 : l = .g s want body m d last rest) (hc : get ρ s = some (.bool c)) (e : Bool)
  (h1 : ∀ l', l' = body → c = want → Ka C l' ρ M G fun ρ' => onv (ev ρ' last) fun u => onv (Iy u) fun e' => e' = e) (h2 : ∀ l', l' = rest → Ka C l' ((d, .bool (if want then c && e else c || e)) :: ρ) M G KQ) : Ka C l ρ M G KQ := by
 subst e0; simp only [Ka, hc, Cb, Iy]; exact ⟨e, h1 _ rfl, h2 _ rfl⟩
end
theorem Qo {wb wo n c i : Nat} (h2 : n ≤ c) : ∃ ro, (i < n → ro = wo + i) ∧ (if c = i then some (⟨wb, wo, none⟩ : Addr) else some ((⟨wb, wo, none⟩ : Addr).add i)) = some ⟨wb, ro, none⟩ := by
 by_cases h : c = i
 ·exact ⟨wo, fun h3 => by omega, by rw [if_pos h]⟩
 ·refine ⟨wo + i, fun _ => rfl, ?_⟩
  rw [if_neg h]
  simp only [Addr.add]
  split
  ·rename_i h0; rw [h0]; rfl
  ·rfl
theorem At4 {a : Addr} {c : Nat} : (if c = 0 then some a else some (a.add 0)) = some a := by
 split
 ·rfl
 ·simp [Addr.add]
theorem rdS.pre {H : Aa} {a : Option Addr} {n i : Nat} {cs : List Value} (h : rdS H 1 a n cs) (hi : i ≤ n) : rdS H 1 a i (cs.take i) := by
 rcases h with ⟨h0, rfl⟩ | ⟨b, off, e, h⟩
 ·exact .inl ⟨by omega, by simp⟩
 ·refine .inr ⟨b, off, e, ?_⟩
  have := h.part (i := 0) (m := i * 1) (by omega)
  rw [List.drop_zero, Nat.add_zero] at this
  rwa [Nat.mul_one] at this ⊢
theorem rd.suf {H : Aa} {b off n i : Nat} {cs : List Value} (h : rd H b off n cs) (hi : i ≤ n) : rd H b (off + i) (n - i) (cs.drop i) := by
 have := h.part (i := i) (m := n - i) (by omega)
 have hl := h.length
 rwa [List.take_of_length_le (by rw [List.length_drop]; omega)] at this
def SlC {α : Type} (H : Aa) (sz : Nat) (enc : α → List Value) (v : Value) (xs : List α) : Prop :=
 ∃ a c, v = .slice a xs.length c ∧ xs.length ≤ c ∧ rdS H sz a xs.length (xs.flatMap enc)
theorem SlC.sl {α : Type} {H : Aa} {sz : Nat} {enc : α → List Value} {v : Value} {xs : List α} (h : SlC H sz enc v xs) : Sl H sz enc v xs :=
 let ⟨a, c, e, _, h⟩ := h; ⟨a, c, e, h⟩
theorem SlC.mono {α : Type} {H H' : Aa} (hh : H.le H') {sz : Nat} {enc : α → List Value} {v : Value} {xs : List α} (h : SlC H sz enc v xs) : SlC H' sz enc v xs :=
 let ⟨a, c, e, hc, h⟩ := h; ⟨a, c, e, hc, h.mono hh⟩
def C7 {α : Type} (H : Aa) (sz : Nat) (enc : α → List Value) (v : Value) (xss : List (List α)) : Prop :=
 ∃ a c vs, v = .slice a xss.length c ∧ vs.length = xss.length ∧ rdS H 1 a xss.length vs ∧ ∀ i (h : i < vs.length) (h' : i < xss.length), SlC H sz enc vs[i] xss[i]
theorem C7.mono {α : Type} {H H' : Aa} (hh : H.le H') {sz : Nat} {enc : α → List Value} {v : Value} {xss : List (List α)} (h : C7 H sz enc v xss) : C7 H' sz enc v xss :=
 let ⟨a, c, vs, e, hl, h, k⟩ := h; ⟨a, c, vs, e, hl, h.mono hh, fun i h h' => (k i h h').mono hh⟩
theorem C7.sl {α : Type} {H : Aa} {sz : Nat} {enc : α → List Value} {v : Value} {xss : List (List α)} (h : C7 H sz enc v xss) : Em H sz enc v xss :=
 let ⟨a, c, vs, e, hl, h, k⟩ := h; ⟨a, c, vs, e, hl, h, fun i h h' => (k i h h').sl⟩
theorem C7.at {α : Type} {H : Aa} {sz : Nat} {enc : α → List Value} {a : Option Addr} {vs : List Value} {xss : List (List α)} (h : rdS H 1 a xss.length vs) (hl : vs.length = xss.length) (hk : ∀ i (h : i < vs.length) (h' : i < xss.length), SlC H sz enc vs[i] xss[i]) (hn : 0 < xss.length) :
  ∃ b off, a = some ⟨b, off, none⟩ ∧ ∀ i (hi : i < xss.length), ∃ a' c', rd H b (off + i * 1) 1 [.slice a' xss[i].length c'] ∧ xss[i].length ≤ c' ∧ rdS H sz a' xss[i].length (xss[i].flatMap enc) := by
 have h1 : rdS H 1 a vs.length (vs.flatMap fun v => [v]) := by rw [Ip, hl]; exact h
 obtain ⟨b, off, e, hr⟩ := Sl.at (sz := 1) (enc := fun v => [v]) (fun _ => rfl) (by omega) h1 (by omega)
 refine ⟨b, off, e, fun i hi => ?_⟩
 have bj := hr i (by omega)
 obtain ⟨a', c', e', bq, h'⟩ := hk i (by omega) hi
 rw [e'] at bj
 exact ⟨a', c', bj, bq, h'⟩
end Go.EV

namespace Go.EV
section
variable {P : Program} {C : Cx P} {ρ : Env} {Mk M : Aa} {Gk G : Own} {K : Env → Aa → Own → Prop} {KQ : Env → Prop}
theorem zf {t : AT} (h : K ρ M G) (e : t = .fin := by first | with_reducible assumption | rfl) : wpA C t ρ Mk Gk M G K := Cr1 e h
theorem zn {t : AT} (e : t = .no := by first | with_reducible assumption | rfl) : wpA C t ρ Mk Gk M G K := Ey2 e
theorem zq {t rest : AT} {l : QL} (h : ∀ l' t', l' = l → t' = rest → Ka C l' ρ Mk Gk fun ρ' => wpA C t' ρ' Mk Gk M G K) (e : t = .q l rest := by first | with_reducible assumption | rfl) : wpA C t ρ Mk Gk M G K := Cr2 e h
theorem zo {l : QL} {i : Nat} {d : Option Nat} {r : ROp} {rest : QL} (h : ∀ l', l' = rest → qW C ρ M G (fun v => Ka C l' (putE d v ρ) M G KQ) r) (e : l = .op i d r rest := by first | with_reducible assumption | rfl) : Ka C l ρ M G KQ := Ey3 e h
theorem zl {l : QL} (h : KQ ρ) (e : l = .nil := by first | with_reducible assumption | rfl) : Ka C l ρ M G KQ := Cr4 e h
end
end Go.EV

namespace Go.EV
open Go.Proofs
structure Ev where
 op : OpV
 th : Int
 deriving DecidableEq
abbrev A4 (e : Ev) : List Value := [vi e.op.kind, vi e.op.loc, vi e.op.v, vi e.op.w, vi e.op.ord, vi e.th]
abbrev vev (e : Ev) : Value := .agg #[vi e.op.kind, vi e.op.loc, vi e.op.v, vi e.op.w, vi e.op.ord, vi e.th]
def Ev.reads (e : Ev) : Bool := decide (e.op.kind ≠ 1) && decide (e.op.kind ≠ 5)
def Ev.strong (e : Ev) : Bool := decide (e.op.kind = 5) && decide (e.op.ord = 4)
def Ev.acq (e : Ev) : Bool := Ct2 e.op.ord
def Ev.rel (e : Ev) : Bool := Ct3 e.op.ord
instance : Inhabited Ev := ⟨⟨⟨0, 0, 0, 0, 0⟩, 0⟩⟩
def Co : Nat → List (List OpV) → List Ev
 | _, [] => []
 | n, t :: ts => t.map (fun o => ⟨o, n⟩) ++ Co (n + 1) ts
def Al (ts : List (List OpV)) : List Ev := Co 0 (ts.map Ds)
theorem K0 : ∀ (l1 : List (List OpV)) (n : Nat) (l2 : List (List OpV)), Co n (l1 ++ l2) = Co n l1 ++ Co (n + l1.length) l2
 | [], n, l2 => by simp [Co]
 | t :: l1, n, l2 => by simp [Co, K0 l1, Nat.add_assoc, Nat.add_comm 1]
theorem W8 {l : List (List OpV)} {i : Nat} (hi : i < l.length) : Co 0 (l.take (i + 1)) = Co 0 (l.take i) ++ l[i].map (fun o => ⟨o, (i : Int)⟩) := by
 rw [List.take_succ_eq_append_getElem hi, K0]
 have : (l.take i).length = i := by simp; omega
 simp [Co, this]
theorem Hk : ∀ (l : List (List OpV)) (n : Nat), (Co n l).length = l.flatten.length
 | [], n => rfl
 | t :: l, n => by simp [Co, Hk l]
def C5 (q : List (List OpV)) (i j : Nat) : List Ev := Co 0 (q.take i) ++ ((q[i]?.getD []).take j).map (fun o => ⟨o, (i : Int)⟩)
theorem D2 (q : List (List OpV)) (i : Nat) : C5 q i 0 = Co 0 (q.take i) := by simp [C5]
theorem Mh {q : List (List OpV)} {i j : Nat} (hi : i < q.length) (hj : j < q[i].length) : C5 q i (j + 1) = C5 q i j ++ [⟨q[i][j], i⟩] := by
 simp only [C5, List.getElem?_eq_getElem hi, Option.getD_some]
 rw [List.take_succ_eq_append_getElem hj, List.map_append, List.append_assoc]; rfl
theorem Kb {q : List (List OpV)} {i : Nat} (hi : i < q.length) : C5 q i q[i].length = Co 0 (q.take (i + 1)) := by
 simp only [C5, List.getElem?_eq_getElem hi, Option.getD_some]
 rw [List.take_length, W8 hi]
theorem Kc {q : List (List OpV)} {i : Nat} (hi : i < q.length) (j : Nat) : (C5 q i j).length ≤ q.flatten.length := by
 have h : (Co 0 (q.take (i + 1))).length ≤ q.flatten.length := by rw [Hk]; exact Ce q (i + 1)
 rw [← Kb hi] at h
 simp only [C5, List.getElem?_eq_getElem hi, Option.getD_some, List.length_append, List.length_map, List.length_take] at h ⊢
 omega
theorem Ml {q : List (List OpV)} {i : Nat} (hi : i < q.length) : q[i].length ≤ q.flatten.length := by
 have h := Kc hi q[i].length
 simp only [C5, List.getElem?_eq_getElem hi, Option.getD_some, List.length_append, List.length_map, List.length_take] at h
 omega
section
variable {M : Aa}
theorem By (e : Ev) : Aq Tryz.prog 86 #[vev e] M (vb e.reads) := by
 refine Con.enter Q6_ok (args := [vev e]) (by simp [Q6]) fun w0 => ?_
 simp only [Q6, A5]
 repeat' first
   | refine EV.seq ?_
   | refine rg ?_
   | with_reducible assumption
   | (refine A0.merge ?_ (fun hc K' hK => ?_) ?_; rotate_left)
   | refine rt Q6_ok ?_
   | ((first | with_reducible intro b | refine xiA rfl ?_ | fail); try refine nx ?_)
   | exact ⟨⟩
   | fail
 all_goals simp_all [Ev.reads]
theorem Mm (e : Ev) : Aq Tryz.prog 76 #[vev e] M (vb e.strong) := by
 refine Con.enter Q8_ok (args := [vev e]) (by simp [Q8]) fun w0 => ?_
 simp only [Q8, A5]
 repeat' first
   | refine EV.seq ?_
   | refine rg ?_
   | with_reducible assumption
   | (refine A0.merge ?_ (fun hc K' hK => ?_) ?_; rotate_left)
   | refine rt Q8_ok ?_
   | ((first | with_reducible intro b | refine xiA rfl ?_ | fail); try refine nx ?_)
   | exact ⟨⟩
   | fail
 all_goals simp_all [Ev.strong]
theorem V1 (e : Ev) (h : Bs e.op.ord = true) : Aq Tryz.prog 138 #[vev e] M (vb e.acq) := by
 refine Con.enter Q5_ok (args := [vev e]) (by simp [Q5]) fun w0 => ?_
 simp only [Q5, A5]
 repeat' first
   | refine EV.seq ?_
   | refine rg ?_
   | (refine Aq.call (Lr _ h) ?_; try refine nx ?_)
   | refine rt Q5_ok ?_
   | ((first | with_reducible intro b | refine xiA rfl ?_ | fail); try refine nx ?_)
   | exact ⟨⟩
   | fail
 all_goals rfl
theorem V2 (e : Ev) (h : Bs e.op.ord = true) : Aq Tryz.prog 137 #[vev e] M (vb e.rel) := by
 refine Con.enter Q7_ok (args := [vev e]) (by simp [Q7]) fun w0 => ?_
 simp only [Q7, A5]
 repeat' first
   | refine EV.seq ?_
   | refine rg ?_
   | (refine Aq.call (Ls _ h) ?_; try refine nx ?_)
   | refine rt Q7_ok ?_
   | ((first | with_reducible intro b | refine xiA rfl ?_ | fail); try refine nx ?_)
   | exact ⟨⟩
   | fail
 all_goals rfl
theorem Up (ts : List (List OpV)) (s : Value) (hs : Em M 5 Bc s ts) (hb : Sized ts) :
  Con Tryz.prog 33 #[.agg #[s]] M [] fun v M' G' => G' = [] ∧ ((A7 ts ≠ 0 ∧ v = .tuple #[.slice none 0 0, vi (A7 ts)]) ∨ (A7 ts = 0 ∧ ∃ s', v = .tuple #[s', vi 0] ∧ Sl M' 6 A4 s' (Al ts))) := by
 have aI := hs
 obtain ⟨a, c, vs, rfl, hl, aH, hk⟩ := hs
 refine Con.enter Q9_ok (args := [.agg #[.slice a ts.length c]]) (by simp [Q9]) fun w0 => ?_
 simp only [Q9, A5]
 repeat' first
   | refine EV.seq ?_
   | refine rg ?_
   | ((first | with_reducible intro b | refine xrA rfl ?_ | fail); try refine nx ?_)
   | exact ⟨⟩
   | fail
 refine Con.callA (G1 := []) (Md ts _ aI hb) (List.Perm.refl _) ?_
 rintro v M1 G1 ap (⟨hne, rfl⟩ | ⟨aY, s', rfl, bo⟩)
 ·simp only [wpS, wpA, Ka, push_cast, Int.cast_ofNat_Int, reduceIte, Nat.reduceEqDiff, reduceCtorEq, Nat.reduceAdd, Nat.reduceSub, Nat.reduceMul, Int.reduceToNat, Nat.reduceLeDiff]
  repeat' first
    | refine EV.seq ?_
    | refine rg ?_
    | (refine cX (fun h => ?_) (fun h => ?_) <;> try exact Ah h)
    | (with_reducible intro b; try refine nx ?_)
    | (refine xw ?_; refine nx ?_)
    | exact ⟨⟩
    | fail
  refine EV.to (ρ' := [(2, .slice none 0 0), (3, vi (A7 ts))]) (G' := []) ?_ ?env0 (List.nil_sublist _)
  case env0 =>
   exact eE
  (refine rt Q9_ok ?_; try with_reducible exact ⟨⟩)
  exact .inl hne
 ·have oF := Hi aY
  have iM := bo
  obtain ⟨a1, c1, vs1, rfl, gI, eu, cG⟩ := iM
  generalize hq : ts.map Ds = q at *
  have sN : q.flatten.length ≤ 3 * ts.flatten.length := by
   subst hq
   clear aI hb oF hl aH hk bo gI eu cG aY
   induction ts with
   | nil => simp
   | cons t ts ih =>
    have h1 : (Ds t).length ≤ 3 * t.length := by
     clear ih
     induction t with
     | nil => simp [Ds]
     | cons o t ih =>
      have := Jo o
      simp only [Ds, List.flatMap_cons, List.length_append, List.length_cons] at ih ⊢
      omega
    simp only [List.map_cons, List.flatten_cons, List.length_append] at ih ⊢
    omega
  have sO : q.length = ts.length := by subst hq; simp
  (refine nx ?_; try with_reducible exact ⟨⟩)
  repeat' first
    | refine EV.seq ?_
    | refine EV.skip ?_
    | refine EV.block ?_
    | refine rg ?_
    | (refine cX (fun h => ?_) (fun h => ?_) <;> try exact Ah h)
    | ((first | with_reducible intro b | refine xsA rfl ?_ | fail); try refine nx ?_)
    | (refine xw ?_; refine nx ?_)
    | exact ⟨⟩
    | fail
  refine EV.loopTo (fun x : Nat × Vec => ([(6, osv x.2 (Co 0 (q.take x.1)).length), (20, .slice a1 q.length c1), (21, vi q.length), (22, vi x.1)], M1, osg 121 x.2 ((Co 0 (q.take x.1)).flatMap A4)))
   (fun x => x.1 ≤ q.length ∧ E6 6 x.2 (Co 0 (q.take x.1)).length ((Co 0 (q.take x.1)).flatMap A4)) (fun x => q.length - x.1) (0, none) rfl ⟨Nat.zero_le _, rfl, rfl⟩ ?env1 (List.nil_sublist _) ?_
  case env1 =>
   exact eE
  rintro ⟨i, ov⟩ ⟨hi, aP⟩ ih
  dsimp only at hi aP ih ⊢
  repeat' first
    | refine EV.seq ?_
    | refine EV.skip ?_
    | refine EV.block ?_
    | refine rg ?_
    | (refine cX (fun h => ?_) (fun h => ?_) <;> try exact Ah h)
    | (refine EV.exit rfl ?_)
    | exact ⟨⟩
    | fail
  ·have aA : i < q.length := by omega
   obtain ⟨pb, po, rfl, hat⟩ := Em.at eu gI cG (by omega)
   obtain ⟨a', c', aW, aS⟩ := hat i aA
   simp only [Nat.mul_one] at aW
   have aG : ∀ j, (C5 q i j).length ≤ q.flatten.length := fun j => Kc aA j
   have lX : q[i].length ≤ q.flatten.length := Ml aA
   repeat' first
     | refine EV.seq ?_
     | refine EV.block ?_
     | refine rg ?_
     | (refine And.intro (by omega) ?_)
     | (refine xn ?_; try refine nx ?_)
     | exact ⟨⟩
     | fail
   refine EV.loopTo (fun x : Nat × Vec => ([(6, osv x.2 (C5 q i x.1).length), (7, vi i), (20, .slice (some ⟨pb, po, none⟩) q.length c1), (21, vi q.length), (22, vi i), (27, .slice a' q[i].length c'), (28, vi q[i].length), (29, vi x.1)], M1,
     osg 121 x.2 ((C5 q i x.1).flatMap A4)))
    (fun x => x.1 ≤ q[i].length ∧ E6 6 x.2 (C5 q i x.1).length ((C5 q i x.1).flatMap A4))
    (fun x => q[i].length - x.1) (0, ov) rfl ⟨Nat.zero_le _, by rw [D2]; exact aP⟩ ?env2 (by rw [D2]; exact List.Sublist.refl _) ?_
   case env2 =>
    repeat' first
     | (refine List.forall_mem_cons.2 (And.intro ?_ ?_))
     | (intro _ b8; cases b8; done)
     | rfl
     | (simp (disch := omega) only [Am, Au, reduceIte, Nat.reduceEqDiff, Option.some.injEq, Value.int.injEq, w64, Int.natCast_add, Int.natCast_one, Int.cast_ofNat_Int, Int.natCast_zero, D2]; done)
     | fail
   rintro ⟨j, o1⟩ ⟨hj, bF⟩ ih2
   dsimp only at hj bF ih2 ⊢
   repeat' first
     | refine EV.seq ?_
     | refine EV.skip ?_
     | refine EV.block ?_
     | refine EV.inBlock ?_
     | refine rg ?_
     | (refine cX (fun h => ?_) (fun h => ?_) <;> try exact Ah h)
     | (refine EV.exit rfl ?_)
     | exact ⟨⟩
     | fail
   ·have aM : j < q[i].length := by omega
    have lY := aG j
    obtain ⟨qb, qo, rfl, aL⟩ := Sl.at (enc := Bc) (fun _ => rfl) (by omega) aS (by omega)
    have cu := aL j aM
    repeat' first
      | refine rg ?_
      | (with_reducible intro b; try refine nx ?_)
      | (refine And.intro (by omega) ?_)
      | ((first | refine xm ?_ | refine xrA rfl ?_ | fail); try refine nx ?_)
      | (refine xw ?_; refine nx ?_)
      | exact ⟨⟩
      | fail
    refine ⟨A4 ⟨q[i][j], i⟩, Or.inr ⟨b, 0, rfl, Ap 0 rfl rfl (by simp)⟩, by simp [B2, Ct, Value.oneCell'], Or.inl ⟨o1, _, rfl, _, bF, _, Cc [[_, _], osg 121 o1 _] 1 (by simp), ?_, ?_, ?_⟩⟩
    ·simp only [maxLen]; omega
    ·omega
    intro o2 bD _
    simp only [List.eraseIdx_cons_succ, List.eraseIdx_cons_zero, List.getElem_cons_succ, List.getElem_cons_zero, List.insertIdx_zero, List.insertIdx_succ_cons, Dy, Dx, Dw, List.nil_append, List.cons_append, List.append_assoc, List.append_nil]
    repeat' first
      | refine EV.inBlock ?_
      | refine rg ?_
      | exact ⟨⟩
      | fail
    have e := Mh aA aM
    have ih3 := ih2 (j + 1, o2) ⟨by dsimp only; omega, by rw [e, List.length_append, List.flatMap_append]; exact bD⟩ (by dsimp only; omega)
    dsimp only at ih3
    rw [e, List.length_append, List.flatMap_append] at ih3
    refine EV.to ih3 ?_ eS
    exact eE
   ·have aM : j = q[i].length := by omega
    subst aM
    rw [Kb aA] at bF ⊢
    refine EV.to (ih (i + 1, o1) ⟨by dsimp only; omega, bF⟩ (by dsimp only; omega)) ?_ eS
    exact eE
  ·have bk : i = q.length := by omega
   subst bk
   rw [List.take_length] at aP ⊢
   rw [← List.append_nil (osg _ _ _)]
   refine EV.freeze ?_
   refine EV.to (ρ' := [(2, osv ov (Co 0 q).length), (3, vi 0)]) (G' := []) ?_ ?env3 (List.nil_sublist _)
   case env3 =>
    exact eE
   (refine rt Q9_ok ?_; try with_reducible exact ⟨⟩)
   subst hq
   exact .inr ⟨aY, _, rfl, _, _, rfl, D9 aP (fun p hp => hp)⟩
end
end Go.EV

namespace Go.EV
open Go.Proofs
abbrev ei (x : Int) : List Value := [vi x]
abbrev eb (b : Bool) : List Value := [vb b]
theorem Ax (xs : List Int) : xs.flatMap ei = xs.map vi := by induction xs <;> simp_all
theorem H8 (xs : List Bool) : xs.flatMap eb = xs.map vb := by induction xs <;> simp_all
theorem Y6 (xs : List Int) : ok1 (xs.map vi) := by
 intro v hv; obtain ⟨x, _, rfl⟩ := List.mem_map.1 hv; rfl
theorem Cr5 (xs : List Bool) : ok1 (xs.map vb) := by
 intro v hv; obtain ⟨x, _, rfl⟩ := List.mem_map.1 hv; rfl
def evAt (p : List Ev) (i : Nat) : Ev := p[i]?.getD default
theorem B8 {p : List Ev} {i : Nat} (h : i < p.length) : evAt p i = p[i] := by simp [evAt, h]
def Cy (n : Nat) (f : Nat → Bool) : List Int := ((List.range n).filter f).map (fun (i : Nat) => (i : Int))
theorem H9 (n : Nat) (f : Nat → Bool) : Cy (n + 1) f = Cy n f ++ if f n then [(n : Int)] else [] := by
 simp only [Cy, List.range_succ, List.filter_append, List.map_append]
 congr 1
 by_cases h : f n <;> simp [h]
theorem Bz (n : Nat) (f : Nat → Bool) : (Cy n f).length ≤ n := by
 simp only [Cy, List.length_map]
 exact Nat.le_trans (List.length_filter_le _ _) (by simp)
theorem Dm {n : Nat} {f : Nat → Bool} {x : Int} : x ∈ Cy n f ↔ ∃ i : Nat, i < n ∧ f i = true ∧ x = i := by
 simp only [Cy, List.mem_map, List.mem_filter, List.mem_range]
 constructor
 ·rintro ⟨i, ⟨h1, h2⟩, rfl⟩; exact ⟨i, h1, h2, rfl⟩
 ·rintro ⟨i, h1, h2, rfl⟩; exact ⟨i, ⟨h1, h2⟩, rfl⟩
def Av (p : List Ev) (dn : List Bool) (loc : Int) : List Int :=
 Cy p.length fun i => decide ((evAt p i).op.kind ≠ 5) && (dn[i]?.getD false) && decide ((evAt p i).op.loc = loc)
section
variable {M : Aa}
def Ah7 (xs : List Int) (v : Value) (_ : Aa) (G' : Own) : Prop := ∃ ov : Vec, v = osv ov xs.length ∧ E6 1 ov xs.length (xs.map vi) ∧ G' = osg 3 ov (xs.map vi)
theorem Jq (p : List Ev) (s : Value) (hs : Sl M 6 A4 s p) (hb : p.length < 1000000) (g : Nat) (caps : Array Value) (f : Nat → Bool)
  (hf : ∀ M', M.le M' → ∀ i : Nat, i < p.length → Aq Tryz.prog g (#[vi i] ++ caps) M' (vb (f i))) :
  Con Tryz.prog 74 #[s, .func (.func g) #[] caps] M [] (Ah7 (Cy p.length f)) := by
 obtain ⟨a, c, rfl, aH⟩ := hs
 refine Con.enter Q34_ok (args := [.slice a p.length c, .func (.func g) #[] caps]) (by simp [Q34]) fun w0 => ?_
 simp only [Q34, A5]
 repeat' first
   | refine EV.seq ?_
   | refine EV.block ?_
   | refine rg ?_
   | exact ⟨⟩
   | fail
 refine EV.loopTo (fun x : Nat × Vec => ([(1, .func (.func g) #[] caps), (5, osv x.2 (Cy x.1 f).length), (8, vi p.length), (9, vi x.1)], M, osg 3 x.2 ((Cy x.1 f).map vi)))
  (fun x => x.1 ≤ p.length ∧ E6 1 x.2 (Cy x.1 f).length ((Cy x.1 f).map vi)) (fun x => p.length - x.1) (0, none) rfl ⟨Nat.zero_le _, rfl, rfl⟩ ?env1 (List.nil_sublist _) ?_
 case env1 =>
  exact eE
 rintro ⟨i, ov⟩ ⟨hi, aP⟩ ih
 dsimp only at hi aP ih ⊢
 repeat' first
   | refine EV.seq ?_
   | refine EV.skip ?_
   | refine EV.block ?_
   | refine rg ?_
   | (refine cX (fun h => ?_) (fun h => ?_) <;> try exact Ah h)
   | (refine EV.exit rfl ?_)
   | exact ⟨⟩
   | fail
 ·have aA : i < p.length := by omega
  have jj := Bz i f
  repeat' first
    | refine EV.skip ?_
    | refine EV.inBlock ?_
    | refine rg ?_
    | (refine Aq.call (hf _ (Aa.le_add _ _) i aA) ?_; try refine nx ?_)
    | (refine cX (fun h => ?_) (fun h => ?_) <;> try exact Ah h)
    | (with_reducible intro b; try refine nx ?_)
    | exact ⟨⟩
    | fail
  ·refine ⟨[vi i], Or.inr ⟨b, 0, rfl, Ap 0 rfl rfl (by simp)⟩, by simp [B2, Ct, Value.oneCell'], Or.inl ⟨ov, _, rfl, _, aP, _, Cc [[_], osg 3 ov _] 1 (by simp), ?_, ?_, ?_⟩⟩
   ·simp only [maxLen]; omega
   ·omega
   intro o2 bD _
   simp only [List.eraseIdx_cons_succ, List.eraseIdx_cons_zero, List.getElem_cons_succ, List.getElem_cons_zero, List.insertIdx_zero, List.insertIdx_succ_cons, Dy, Dx, Dw, List.nil_append, List.cons_append, List.append_assoc, List.append_nil]
   repeat' first
     | refine EV.inBlock ?_
     | refine rg ?_
     | exact ⟨⟩
     | fail
   have e : Cy (i + 1) f = Cy i f ++ [(i : Int)] := by rw [H9, if_pos (by assumption)]
   have ih3 := ih (i + 1, o2) ⟨by dsimp only; omega, by rw [e, List.length_append, List.map_append]; exact bD⟩ (by dsimp only; omega)
   dsimp only at ih3
   rw [e, List.length_append, List.map_append] at ih3
   refine EV.to ih3 ?_ eS
   exact eE
  ·have e : Cy (i + 1) f = Cy i f := by rw [H9, if_neg (by simp_all), List.append_nil]
   have ih3 := ih (i + 1, ov) ⟨by dsimp only; omega, by rw [e]; exact aP⟩ (by dsimp only; omega)
   dsimp only at ih3
   rw [e] at ih3
   refine EV.to ih3 ?_ eS
   exact eE
 ·have bk : i = p.length := by omega
  subst bk
  (refine rt Q34_ok ?_; try with_reducible exact ⟨⟩)
  exact ⟨ov, rfl, aP, rfl⟩
end
end Go.EV

namespace Go.EV
open Go.Proofs
section
variable {M : Aa}
theorem Mn (p : List Ev) (dn : List Bool) (loc : Int) {pb po pc db do' dc b1 b2 b3 : Nat} (h1 : rd M b1 0 1 [.slice (some ⟨pb, po, none⟩) p.length pc]) (h2 : rd M b2 0 1 [.slice (some ⟨db, do', none⟩) dn.length dc]) (h3 : rd M b3 0 1 [vi loc])
  (i : Nat) (hi : i < p.length) (hl : dn.length = p.length) (hp : rd M pb (po + i * 6) 6 (A4 (evAt p i))) (hd : rd M db (do' + i) 1 [vb (dn[i]?.getD false)]) :
  Aq Tryz.prog 139 #[vi i, pv b1 0, pv b2 0, pv b3 0] M (vb (decide ((evAt p i).op.kind ≠ 5) && (dn[i]?.getD false) && decide ((evAt p i).op.loc = loc))) := by
 have jk := hp.pt 0 1 (by omega) rfl
 have nF := hp.pt 1 1 (by omega) rfl
 have aA : (i : Int) < p.length := by omega
 have jC : (i : Int) < dn.length := by omega
 refine Con.enter Q42_ok (args := [vi i, pv b1 0, pv b2 0, pv b3 0]) (by simp [Q42]) fun w0 => ?_
 simp only [Q42, A5]
 repeat' first
   | refine EV.seq ?_
   | ((first | refine EV.reg ?_ | refine EV.any _ (List.Sublist.refl _) ?_ | fail); (conv => (arg 2; whnf)); refine nx ?_)
   | (refine Qh.mk ?_ (fun hc => ?_) ?_; rotate_left; (try simp only [decide_eq_true_eq, decide_eq_false_iff_not, Bool.not_eq_true', Bool.not_eq_false', Bool.and_eq_true, Bool.or_eq_true, Bool.and_eq_false_iff, Bool.or_eq_false_iff] at hc))
   | (with_reducible rfl)
   | refine rt Q42_ok ?_
   | (refine And.intro (by omega) ?_)
   | ((first | refine xm ?_ | refine xn ?_ | fail); try refine nx ?_)
   | exact ⟨⟩
   | fail
 all_goals simp_all
theorem Sl.evAt {p : List Ev} {pb po : Nat} (hat : ∀ i (hi : i < p.length), rd M pb (po + i * 6) 6 (A4 p[i])) (i : Nat) (hi : i < p.length) : rd M pb (po + i * 6) 6 (A4 (evAt p i)) := by
 rw [B8 hi]; exact hat i hi
theorem K1 (p : List Ev) (s : Value) (hs : Sl M 6 A4 s p) (hb : p.length < 1000000) (dn : List Bool) (d : Value) (hd : Sl M 1 eb d dn) (hl : dn.length = p.length) (loc : Int) :
  Con Tryz.prog 110 #[s, d, vi loc] M [] fun v M' G' => ∃ G0, Ah7 (Av p dn loc) v M' G0 ∧ G' = G0 := by
 obtain ⟨a, c, rfl, aH⟩ := hs
 obtain ⟨da, dc, rfl, dD⟩ := hd
 refine Con.enter Q41_ok (args := [.slice a p.length c, .slice da dn.length dc, vi loc]) (by simp [Q41]) fun w0 => ?_
 simp only [Q41, A5]
 repeat' first
   | refine EV.seq ?_
   | refine rg ?_
   | ((first | with_reducible intro b | refine xsA rfl ?_ | fail); try refine nx ?_)
   | exact ⟨⟩
   | fail
 rename_i b1 b2
 refine Dt.frz (G3 := []) (by rw [List.append_nil]) ?_
 generalize hN : M.add _ = N
 have aC : M.le N := hN ▸ Aa.le_add _ _
 have aW : rd N b1 0 1 [.slice a p.length c] := hN ▸ Ap 2 rfl rfl (by simp)
 have aS : rd N b2 0 1 [.slice da dn.length dc] := hN ▸ Ap 1 rfl rfl (by simp)
 have cu : rd N b 0 1 [vi loc] := hN ▸ Ap 0 rfl rfl (by simp)
 clear hN
 refine Con.callA (G1 := []) (Jq p _ ⟨_, _, rfl, aH.mono aC⟩ hb _ _ (fun i => decide ((evAt p i).op.kind ≠ 5) && (dn[i]?.getD false) && decide ((evAt p i).op.loc = loc)) ?_) (List.Perm.refl _) ?_
 ·intro M' bR i hi
  have h0 : 0 < p.length := by omega
  obtain ⟨pb, po, rfl, hat⟩ := Sl.at (enc := A4) (fun _ => rfl) (by omega) aH h0
  obtain ⟨db, do', rfl, aL⟩ := Sl.at (sz := 1) (enc := eb) (fun _ => rfl) (by decide) dD (by rw [hl]; exact h0)
  have aj := Aa.le_trans aC bR
  have q2 := aL i (by omega)
  rw [Nat.mul_one] at q2
  refine Mn p dn loc (aW.mono bR) (aS.mono bR) (cu.mono bR) i hi hl ((Sl.evAt hat i hi).mono aj) ?_
  have : dn[i]?.getD false = dn[i] := by rw [List.getElem?_eq_getElem (by omega)]; rfl
  rw [this]; exact q2.mono aj
 ·rintro v M' G' bR hv
  obtain ⟨ov, rfl, aP, rfl⟩ := hv
  (refine nx ?_; try with_reducible exact ⟨⟩)
  repeat' first
    | fail
  (refine rt Q41_ok ?_; try with_reducible exact ⟨⟩)
  exact ⟨_, ⟨ov, rfl, aP, rfl⟩, rfl⟩
end
end Go.EV

namespace Go.EV
open Go.Proofs
structure Wd where
 r : List Int
 w : List Int
 k : List Bool
 t : List Bool
def B5 (p : List Ev) (f : List Int) (s : Wd) (i : Nat) : Wd :=
 if (evAt p i).reads && decide (f[i]?.getD 0 = -1) then { s with k := s.k.set i true }
 else if (evAt p i).reads && (s.t[(f[i]?.getD 0).toNat]?.getD false) then { s with r := s.r.set i (s.w[(f[i]?.getD 0).toNat]?.getD 0), k := s.k.set i true } else s
def Cg (p : List Ev) (s : Wd) (i : Nat) : Wd :=
 if (evAt p i).op.kind = 1 then { s with w := s.w.set i (evAt p i).op.v, t := s.t.set i true }
 else if (evAt p i).op.kind = 2 then { s with w := s.w.set i (IntKind.i64.wrap (s.r[i]?.getD 0 + (evAt p i).op.v)), t := s.t.set i (s.k[i]?.getD false) }
 else if (evAt p i).op.kind = 3 ∨ (evAt p i).op.kind = 4 then { s with w := s.w.set i (evAt p i).op.w, t := s.t.set i true } else s
def Y7 (p : List Ev) (f : List Int) (s : Wd) (i : Nat) : Wd := Cg p (B5 p f s i) i
def Cu (p : List Ev) (f : List Int) (s : Wd) : Nat → Wd
 | 0 => s
 | n + 1 => Y7 p f (Cu p f s n) n
def wd0 (n : Nat) : Wd := ⟨List.replicate n 0, List.replicate n 0, List.replicate n false, List.replicate n false⟩
def Be (p : List Ev) (f : List Int) : Nat → Wd
 | 0 => wd0 p.length
 | k + 1 => Cu p f (Be p f k) p.length
def An (p : List Ev) (f : List Int) : Wd := Be p f (p.length + 1)
structure Wd.Len (s : Wd) (n : Nat) : Prop where
 r : s.r.length = n
 w : s.w.length = n
 k : s.k.length = n
 t : s.t.length = n
theorem Pg {p : List Ev} {f : List Int} {s : Wd} {i n : Nat} (h : s.Len n) : (B5 p f s i).Len n := by
 unfold B5
 split
 ·exact ⟨h.r, h.w, by simp [h.k], h.t⟩
 ·split
  ·exact ⟨by simp [h.r], h.w, by simp [h.k], h.t⟩
  ·exact h
theorem Uq {p : List Ev} {s : Wd} {i n : Nat} (h : s.Len n) : (Cg p s i).Len n := by
 unfold Cg
 split
 ·exact ⟨h.r, by simp [h.w], h.k, by simp [h.t]⟩
 ·split
  ·exact ⟨h.r, by simp [h.w], h.k, by simp [h.t]⟩
  ·split
   ·exact ⟨h.r, by simp [h.w], h.k, by simp [h.t]⟩
   ·exact h
theorem W9 {p : List Ev} {f : List Int} {s : Wd} {i n : Nat} (h : s.Len n) : (Y7 p f s i).Len n := Uq (Pg h)
theorem Y8 (n : Nat) : (wd0 n).Len n := by constructor <;> simp [wd0]
theorem Mo {p : List Ev} {f : List Int} {s : Wd} {n : Nat} (h : s.Len n) : ∀ i, (Cu p f s i).Len n
 | 0 => h
 | i + 1 => W9 (Mo h i)
theorem E2 (p : List Ev) (f : List Int) : ∀ k, (Be p f k).Len p.length
 | 0 => Y8 _
 | k + 1 => Mo (E2 p f k) _
def Cr (p : List Ev) (f : List Int) : Prop := f.length = p.length ∧ ∀ i, i < p.length → (evAt p i).reads = true → f[i]?.getD 0 = -1 ∨ (0 ≤ f[i]?.getD 0 ∧ f[i]?.getD 0 < p.length)
abbrev wdG (s : Wd) (xb rb wb kb tb : Nat) (f d o n : Value) : Own :=
 [(tb, Cl 4 (s.t.map vb)), (rb, Cl 3 (s.r.map vi)), (wb, Cl 3 (s.w.map vi)), (kb, Cl 4 (s.k.map vb)), (xb, Cl 45 [f, d, o, n])]
section
variable {M : Aa}
theorem A3 {α : Type} (n : Nat) (v : α) : (List.replicate n [v]).flatten = List.replicate n v := by simp
set_option maxHeartbeats 4000000 in
theorem Kd (p : List Ev) (s : Value) (hs : Sl M 6 A4 s p) (hb : p.length < 1000000) (fr : List Int) (f d o n : Value) (hf : Sl M 1 ei f fr) (jl : Cr p fr) :
  Con Tryz.prog 85 #[s, .agg #[f, d, o, n]] M [] fun v M' _ => ∃ rv wv kv, v = .tuple #[rv, wv, kv] ∧ Sl M' 1 ei rv (An p fr).r ∧ Sl M' 1 ei wv (An p fr).w ∧ Sl M' 1 eb kv (An p fr).k := by
 obtain ⟨a, c, rfl, aH⟩ := hs
 obtain ⟨fa, fc, rfl, bU⟩ := hf
 obtain ⟨az, jl⟩ := jl
 refine Con.enter Q40_ok (args := [.slice a p.length c, .agg #[.slice fa fr.length fc, d, o, n]]) (by simp [Q40]) fun w0 => ?_
 simp only [Q40, A5]
 refine EV.seq (EV.reg ?_)
 (repeat first | refine nx ?_ | simp only [Bt7])
 intro xb
 refine EV.seq (EV.thru (fun ρ' M' G' => ∃ rb wb kb, M' = M ∧ get ρ' 0 = some (.slice a p.length c) ∧ get ρ' 3 = some (pv xb 0) ∧ get ρ' 4 = some (Bg rb p.length p.length) ∧ get ρ' 5 = some (Bg wb p.length p.length) ∧ get ρ' 6 = some (Bg kb p.length p.length) ∧
  G' = [(rb, Cl 3 (List.replicate p.length (vi 0))), (wb, Cl 3 (List.replicate p.length (vi 0))), (kb, Cl 4 (List.replicate p.length (vb false))), (xb, Cl 45 [.slice fa fr.length fc, d, o, n])]) ?_ ?_)
 ·intro k' key
  repeat' first
    | (refine EV.any _ (List.Sublist.refl _) ?_; (conv => (arg 2; whnf)); (repeat first | refine nx ?_ | simp only [A3]))
    | (with_reducible intro b; (repeat first | refine nx ?_ | simp only [A3]))
    | (refine And.intro (by omega) ?_)
    | (refine And.intro (Aa.le_refl _) (And.intro (fun p hp => List.mem_cons_of_mem _ hp) ?_))
    | (refine And.intro (Aa.le_refl _) (And.intro (fun p hp => List.mem_cons_of_mem _ (List.mem_cons_of_mem _ hp)) ?_))
    | (refine And.intro (Aa.le_refl _) (And.intro (A8 ?_) ?_); focus ((repeat' first | exact List.Sublist.refl _ | exact List.nil_sublist _ | exact List.sublist_append_left _ _ | refine List.Sublist.cons_cons _ ?_ | refine List.Sublist.append_left ?_ _ | refine List.sublist_append_of_sublist_right ?_ | refine List.Sublist.cons _ ?_); done); (repeat first | refine nx ?_ | simp only [A3]))
    | refine And.intro ?_ ?_
    | fail
  all_goals exact EV.reS (key _ _ _ ⟨_, _, _, rfl, rfl, rfl, rfl, rfl, rfl, rfl⟩)
 rintro ρ1 M1 G1 ⟨rb, wb, kb, rfl, e0, e3, e4, e5, e6, rfl⟩
 refine EV.toS (ρ' := [(0, .slice a p.length c), (3, pv xb 0), (4, Bg rb p.length p.length), (5, Bg wb p.length p.length), (6, Bg kb p.length p.length)])
  (G' := [(rb, Cl 3 (List.replicate p.length (vi 0))), (wb, Cl 3 (List.replicate p.length (vi 0))), (kb, Cl 4 (List.replicate p.length (vb false))), (xb, Cl 45 [.slice fa fr.length fc, d, o, n])]) ?_
  (by simp only [List.forall_mem_cons]; exact ⟨e0, e3, e4, e5, e6, fun _ h => nomatch h⟩)
 clear e0 e3 e4 e5 e6
 repeat' first
   | refine EV.seq ?_
   | refine EV.block ?_
   | (refine EV.reg ?_; (conv => (arg 2; whnf)); (repeat first | refine nx ?_ | simp only [A3]))
   | (with_reducible intro b; (repeat first | refine nx ?_ | simp only [A3]))
   | (refine And.intro (by omega) ?_)
   | fail
 rename Nat => tb
 have aq : IntKind.i64.wrap ((p.length : Int) + 1) = (p.length : Int) + 1 := w64 (by omega) (by omega)
 rw [aq]
 refine EV.loopTo (fun x : Nat => ([(0, .slice a p.length c), (3, pv xb 0), (4, Bg rb p.length p.length), (5, Bg wb p.length p.length), (6, Bg kb p.length p.length), (7, Bg tb p.length p.length), (25, vi ((p.length : Int) + 1)), (26, vi x)], M1,
   wdG (Be p fr x) xb rb wb kb tb (.slice fa fr.length fc) d o n))
  (fun x => x ≤ p.length + 1) (fun x => p.length + 1 - x) 0 rfl (Nat.zero_le _) ?env1 ?sub1 ?_
 case env1 =>
  exact eE
 case sub1 =>
  simp only [wdG, Be, wd0, List.map_replicate]
  exact List.Sublist.refl _
 intro x hx ih
 dsimp only at hx ih ⊢
 repeat' first
   | refine EV.seq ?_
   | refine EV.skip ?_
   | refine EV.block ?_
   | refine rg ?_
   | (refine cX (fun h => ?_) (fun h => ?_) <;> try exact Ah h)
   | (refine EV.exit rfl ?_)
   | exact ⟨⟩
   | fail
 ·generalize kj : Be p fr x = sx at *
  have iN : sx.Len p.length := kj ▸ E2 p fr x
  refine EV.loopTo (fun i : Nat => ([(0, .slice a p.length c), (3, pv xb 0), (4, Bg rb p.length p.length), (5, Bg wb p.length p.length), (6, Bg kb p.length p.length), (7, Bg tb p.length p.length), (25, vi ((p.length : Int) + 1)), (26, vi x), (28, .slice a p.length c), (29, vi p.length), (30, vi i)], M1,
    wdG (Cu p fr sx i) xb rb wb kb tb (.slice fa fr.length fc) d o n))
   (fun i => i ≤ p.length) (fun i => p.length - i) 0 rfl (Nat.zero_le _) ?env2 (List.Sublist.refl _) ?_
  case env2 =>
   exact eE
  intro i hi ih2
  dsimp only at hi ih2 ⊢
  repeat' first
    | refine EV.seq ?_
    | refine EV.skip ?_
    | refine EV.block ?_
    | refine EV.inBlock ?_
    | refine rg ?_
    | (refine cX (fun h => ?_) (fun h => ?_) <;> try exact Ah h)
    | (refine EV.exit rfl ?_)
    | exact ⟨⟩
    | fail
  ·have aA : i < p.length := by omega
   obtain ⟨pb, po, rfl, hat⟩ := Sl.at (enc := A4) (fun _ => rfl) (by omega) aH (by omega)
   obtain ⟨fb, fo, rfl, aL⟩ := Sl.at (sz := 1) (enc := ei) (fun _ => rfl) (by decide) bU (by omega)
   have eC := Sl.evAt hat i aA
   have iE : rd M1 fb (fo + i) 1 [vi (fr[i]?.getD 0)] := by
    have := aL i (by omega)
    rw [Nat.mul_one] at this
    rwa [List.getElem?_eq_getElem (by omega : i < fr.length)]
   have gJ := jl i aA
   have uU : (i : Int) < fr.length := by omega
   generalize jm : Cu p fr sx i = s at *
   have cM : s.Len p.length := jm ▸ Mo iN i
   have bH : Cu p fr sx (i + 1) = Cg p (B5 p fr s i) i := by simp only [Cu, jm, Y7]
   have bY := cM.r
   have fk := cM.w
   have dP := cM.k
   have aZ := cM.t
   have eX : i < s.r.length := by omega
   have nG : i < s.k.length := by omega
   have ih3 := ih2 (i + 1) (by omega) (by omega)
   rw [bH] at ih3
   clear ih ih2 hat aL aH bU
   repeat' first
     | (with_reducible intro b; try refine nx ?_)
     | (refine And.intro (by omega) ?_)
     | (refine xm ?_; try refine nx ?_)
     | (refine xw ?_; refine nx ?_)
     | exact ⟨⟩
     | fail
   rename Nat => eb0
   refine EV.seq (EV.thru (fun ρ' M' G' => M' = M1 ∧ (∀ q ∈ [(0, .slice (some ⟨pb, po, none⟩) p.length c), (3, pv xb 0), (4, Bg rb p.length p.length), (5, Bg wb p.length p.length), (6, Bg kb p.length p.length), (7, Bg tb p.length p.length), (8, vi i), (9, pv eb0 0), (25, vi ((p.length : Int) + 1)), (26, vi x), (28, .slice (some ⟨pb, po, none⟩) p.length c), (29, vi p.length), (30, vi i)], get ρ' q.1 = some q.2) ∧
    G' = (eb0, Cl 121 (A4 (evAt p i))) :: wdG (B5 p fr s i) xb rb wb kb tb (.slice (some ⟨fb, fo, none⟩) fr.length fc) d o n) ?_ ?_)
   ·intro k' key
    clear ih3
    cases hre : (evAt p i).reads with
    | false =>
     have e1 : B5 p fr s i = s := by simp [B5, hre]
     rw [e1] at key
     repeat' first
       | refine EV.seq ?_
       | refine EV.skip ?_
       | refine EV.block ?_
       | refine EV.inBlock ?_
       | (refine EV.reg ?_; (conv => (arg 2; whnf)); (repeat first | refine nx ?_ | simp only [hre, Bool.false_and, Bool.true_and]))
       | (refine Aq.call (By (evAt p i)) ?_; (repeat first | refine nx ?_ | simp only [hre, Bool.false_and, Bool.true_and]))
       | with_reducible assumption
       | (refine A0.merge ?_ (fun hc K' hK => ?_) ?_; rotate_left)
       | (refine cX (fun h => ?_) (fun h => ?_) <;> try exact Ah h)
       | (refine And.intro (by omega) ?_)
       | ((first | refine xm ?_ | refine xrA rfl ?_ | refine xsA rfl ?_ | fail); (repeat first | refine nx ?_ | simp only [hre, Bool.false_and, Bool.true_and]))
       | (exfalso; simp at hc; done)
       | exact false
       | fail
     refine key _ _ _ ⟨rfl, ?_, rfl⟩
     exact eE
    | true =>
     have gJ := gJ hre
     by_cases gG : fr[i]?.getD 0 = -1
     ·have e1 : B5 p fr s i = { s with k := s.k.set i true } := by simp [B5, hre, gG]
      rw [e1] at key
      repeat' first
        | refine EV.seq ?_
        | refine EV.block ?_
        | refine EV.inBlock ?_
        | (refine EV.reg ?_; (conv => (arg 2; whnf)); (repeat first | refine nx ?_ | simp only [hre, Bool.false_and, Bool.true_and, Ar, List.length_map, bY, fk, dP, aZ, aA]))
        | (refine Aq.call (By (evAt p i)) ?_; (repeat first | refine nx ?_ | simp only [hre, Bool.false_and, Bool.true_and, Ar, List.length_map, bY, fk, dP, aZ, aA]))
        | with_reducible assumption
        | (refine A0.merge ?_ (fun hc K' hK => ?_) ?_; rotate_left)
        | (refine cX (fun h => ?_) (fun h => ?_) <;> try exact Ah h)
        | (refine And.intro (by omega) ?_)
        | ((first | refine xm ?_ | refine xrA rfl ?_ | refine xsA rfl ?_ | fail); (repeat first | refine nx ?_ | simp only [hre, Bool.false_and, Bool.true_and, Ar, List.length_map, bY, fk, dP, aZ, aA]))
        | (refine xw ?_; (repeat first | refine nx ?_ | simp only [hre, Bool.false_and, Bool.true_and, Ar, List.length_map, bY, fk, dP, aZ, aA]))
        | fail
      refine key _ _ _ ⟨rfl, ?_, rfl⟩
      exact eE
     ·have dJ := gJ.resolve_left gG
      have qy : (fr[i]?.getD 0).toNat < s.t.length := by omega
      have nH : (fr[i]?.getD 0).toNat < s.w.length := by omega
      have et : s.t[(fr[i]?.getD 0).toNat]?.getD false = s.t[(fr[i]?.getD 0).toNat] := by rw [List.getElem?_eq_getElem qy]; rfl
      have ew : s.w[(fr[i]?.getD 0).toNat]?.getD 0 = s.w[(fr[i]?.getD 0).toNat] := by rw [List.getElem?_eq_getElem nH]; rfl
      have e1 : B5 p fr s i = if s.t[(fr[i]?.getD 0).toNat] = true then { s with r := s.r.set i (s.w[(fr[i]?.getD 0).toNat]), k := s.k.set i true } else s := by
       simp only [B5, hre, gG, et, ew]; simp
      rw [e1] at key
      clear et ew e1
      repeat' first
        | refine EV.seq ?_
        | refine EV.skip ?_
        | refine EV.block ?_
        | refine EV.inBlock ?_
        | (refine EV.reg ?_; (conv => (arg 2; whnf)); (repeat first | refine nx ?_ | simp only [hre, Bool.false_and, Bool.true_and, Ar, List.length_map, bY, fk, dP, aZ, aA]))
        | ((first | refine Exists.intro _ (And.intro (Ca (f := vi) nH) ?_) | refine Exists.intro _ (And.intro (Ca (f := vb) qy) ?_) | refine Aq.call (By (evAt p i)) ?_ | fail); (repeat first | refine nx ?_ | simp only [hre, Bool.false_and, Bool.true_and, Ar, List.length_map, bY, fk, dP, aZ, aA]))
        | with_reducible assumption
        | (refine A0.merge ?_ (fun hc K' hK => ?_) ?_; rotate_left)
        | (refine cX (fun h => ?_) (fun h => ?_) <;> try exact Ah h)
        | (refine And.intro (by omega) ?_)
        | ((first | refine xm ?_ | refine xrA rfl ?_ | refine xsA rfl ?_ | fail); (repeat first | refine nx ?_ | simp only [hre, Bool.false_and, Bool.true_and, Ar, List.length_map, bY, fk, dP, aZ, aA]))
        | (refine xw ?_; (repeat first | refine nx ?_ | simp only [hre, Bool.false_and, Bool.true_and, Ar, List.length_map, bY, fk, dP, aZ, aA]))
        | fail
      ·rw [if_pos (by assumption)] at key
       refine key _ _ _ ⟨rfl, ?_, rfl⟩
       exact eE
      ·rw [if_neg (by simp_all)] at key
       refine key _ _ _ ⟨rfl, ?_, rfl⟩
       exact eE
   rintro ρ2 M2 G2 ⟨rfl, hq, rfl⟩
   refine EV.toS (G' := (eb0, Cl 121 (A4 (evAt p i))) :: wdG (B5 p fr s i) xb rb wb kb tb (.slice (some ⟨fb, fo, none⟩) fr.length fc) d o n) ?_ hq
   clear hq
   have iO : (B5 p fr s i).Len p.length := Pg cM
   generalize B5 p fr s i = s2 at *
   have eD := iO.r
   have eG := iO.w
   have eH := iO.k
   have eI := iO.t
   have ez : i < s2.r.length := by omega
   have fA : i < s2.k.length := by omega
   have er : s2.r[i]?.getD 0 = s2.r[i] := by rw [List.getElem?_eq_getElem ez]; rfl
   have ek : s2.k[i]?.getD false = s2.k[i] := by rw [List.getElem?_eq_getElem fA]; rfl
   have e1 : Cg p s2 i = if (evAt p i).op.kind = 1 then { s2 with w := s2.w.set i (evAt p i).op.v, t := s2.t.set i true }
    else if (evAt p i).op.kind = 2 then { s2 with w := s2.w.set i (IntKind.i64.wrap (s2.r[i] + (evAt p i).op.v)), t := s2.t.set i s2.k[i] }
    else if (evAt p i).op.kind = 3 ∨ (evAt p i).op.kind = 4 then { s2 with w := s2.w.set i (evAt p i).op.w, t := s2.t.set i true } else s2 := by simp only [Cg, er, ek]
   rw [e1] at ih3
   clear er ek e1 gJ iE jl
   repeat' first
     | refine EV.seq ?_
     | refine EV.skip ?_
     | refine EV.block ?_
     | refine EV.inBlock ?_
     | (refine EV.reg ?_; (conv => (arg 2; whnf)); (repeat first | refine nx ?_ | simp only [Ar, List.length_map, eD, eG, eH, eI, aA]))
     | (refine cX (fun h => ?_) (fun h => ?_) <;> try exact Ah h)
     | (refine And.intro (by omega) ?_)
     | (refine xiA rfl ?_; (repeat first | refine nx ?_ | simp only [Ar, List.length_map, eD, eG, eH, eI, aA]))
     | (refine xw ?_; (repeat first | refine nx ?_ | simp only [Ar, List.length_map, eD, eG, eH, eI, aA]))
     | fail
   rotate_left
   ·refine EV.any (t := Yz) [(eb0, Cl 121 (A4 (evAt p i))), (rb, Cl 3 (s2.r.map vi)), (kb, Cl 4 (s2.k.map vb))] eS ?_
    (repeat first | refine nx ?_ | simp only [Yz])
    repeat' first
      | refine EV.inBlock ?_
      | (refine EV.reg ?_; (conv => (arg 2; whnf)); (repeat first | refine nx ?_ | simp only [Ar, List.length_map, eD, eG, eH, eI, aA]))
      | ((first | refine Exists.intro _ (And.intro (Ca (f := vb) (i := i) fA) ?_) | refine Exists.intro _ (And.intro (Ca (f := vi) (i := i) ez) ?_) | fail); (repeat first | refine nx ?_ | simp only [Ar, List.length_map, eD, eG, eH, eI, aA]))
      | (refine And.intro (by omega) ?_)
      | (refine xiA rfl ?_; (repeat first | refine nx ?_ | simp only [Ar, List.length_map, eD, eG, eH, eI, aA]))
      | (refine xw ?_; (repeat first | refine nx ?_ | simp only [Ar, List.length_map, eD, eG, eH, eI, aA]))
      | (refine And.intro (Aa.le_refl _) (And.intro (A8 ?_) ?_); focus ((repeat' first | exact List.Sublist.refl _ | exact List.nil_sublist _ | exact List.sublist_append_left _ _ | refine List.Sublist.cons_cons _ ?_ | refine List.Sublist.append_left ?_ _ | refine List.sublist_append_of_sublist_right ?_ | refine List.Sublist.cons _ ?_); done); (repeat first | refine nx ?_ | simp only [Ar, List.length_map, eD, eG, eH, eI, aA]))
      | fail
    rw [if_neg (show ¬ (evAt p i).op.kind = 1 by assumption), if_pos (show (evAt p i).op.kind = 2 by assumption)] at ih3
    refine EV.toS ih3 ?_
    exact eE
   all_goals
    first
     | rw [if_pos (show (evAt p i).op.kind = 1 by assumption)] at ih3
     | rw [if_neg (show ¬ (evAt p i).op.kind = 1 by assumption), if_pos (show (evAt p i).op.kind = 2 by assumption)] at ih3
     | rw [if_neg (show ¬ (evAt p i).op.kind = 1 by assumption), if_neg (show ¬ (evAt p i).op.kind = 2 by assumption), if_pos (show (evAt p i).op.kind = 3 ∨ (evAt p i).op.kind = 4 by omega)] at ih3
     | rw [if_neg (show ¬ (evAt p i).op.kind = 1 by assumption), if_neg (show ¬ (evAt p i).op.kind = 2 by assumption), if_neg (show ¬ ((evAt p i).op.kind = 3 ∨ (evAt p i).op.kind = 4) by omega)] at ih3
    refine EV.toS ih3 ?_
    exact eE
  ·have bk : i = p.length := by omega
   subst bk
   have ih3 := ih (x + 1) (by omega) (by omega)
   simp only [Be, kj] at ih3
   refine EV.toS ih3 ?_
   exact eE
 ·have cv : x = p.length + 1 := by omega
  subst cv
  have iN := E2 p fr (p.length + 1)
  refine EV.frz (wdG (Be p fr (p.length + 1)) xb rb wb kb tb (.slice fa fr.length fc) d o n) ?_
  (refine rt Q40_ok ?_; try with_reducible exact ⟨⟩)
  have er := iN.r
  have ew := iN.w
  have ek := iN.k
  refine ⟨Bg rb p.length p.length, Bg wb p.length p.length, Bg kb p.length p.length, rfl, ⟨some ⟨rb, 0, none⟩, p.length, by rw [An, er], Or.inr ⟨rb, 0, rfl, ?_⟩⟩, ⟨some ⟨wb, 0, none⟩, p.length, by rw [An, ew], Or.inr ⟨wb, 0, rfl, ?_⟩⟩, ⟨some ⟨kb, 0, none⟩, p.length, by rw [An, ek], Or.inr ⟨kb, 0, rfl, ?_⟩⟩⟩
  ·exact Ap 1 rfl (by rw [Ax, An, Nat.mul_one, List.drop_zero, List.take_of_length_le (by rw [List.length_map]; exact Nat.le_refl _)]) (by rw [List.length_map, An]; omega)
  ·exact Ap 2 rfl (by rw [Ax, An, Nat.mul_one, List.drop_zero, List.take_of_length_le (by rw [List.length_map]; exact Nat.le_refl _)]) (by rw [List.length_map, An]; omega)
  ·exact Ap 3 rfl (by rw [H8, An, Nat.mul_one, List.drop_zero, List.take_of_length_le (by rw [List.length_map]; exact Nat.le_refl _)]) (by rw [List.length_map, An]; omega)
end
end Go.EV

namespace Go.EV
open Go.Proofs
abbrev vu (n : Nat) : Value := .int .u32 n
abbrev Rel := List Nat
def A1 (r : Rel) (a b : Nat) : Bool := (r[a]?.getD 0).testBit b
def orR (r : Rel) (a m : Nat) : Rel := r.set a (r[a]?.getD 0 ||| m)
def Lv (r : Rel) (a b : Nat) : Rel := orR r a (2 ^ b)
def closeRow (r : Rel) (k : Nat) : Nat → Rel
 | 0 => r
 | a + 1 => if A1 (closeRow r k a) a k then orR (closeRow r k a) a ((closeRow r k a)[k]?.getD 0) else closeRow r k a
def closeGo (r : Rel) : Nat → Rel
 | 0 => r
 | k + 1 => closeRow (closeGo r k) k r.length
def Ch (r : Rel) : Rel := closeGo r r.length
def Bp (r : Rel) : Bool := (List.range r.length).any fun a => A1 r a a
structure RelOk (n : Nat) (r : Rel) : Prop where
 len : r.length = n
 lt : ∀ a : Nat, r[a]?.getD 0 < 2 ^ n
theorem RelOk.or {n : Nat} {r : Rel} (h : RelOk n r) (a : Nat) {m : Nat} (hm : m < 2 ^ n) : RelOk n (orR r a m) := by
 refine ⟨by simp [orR, h.len], fun b => ?_⟩
 simp only [orR, List.getElem?_set]
 split
 ·split
  ·simp only [Option.getD_some]; exact Nat.or_lt_two_pow (h.lt a) hm
  ·simp only [Option.getD_none]; exact Nat.two_pow_pos n
 ·exact h.lt b
theorem RelOk.put {n : Nat} {r : Rel} (h : RelOk n r) (a : Nat) {b : Nat} (hb : b < n) : RelOk n (Lv r a b) := h.or a (Nat.pow_lt_pow_right (by decide) hb)
theorem RelOk.zero (n : Nat) : RelOk n (List.replicate n 0) := by
 refine ⟨by simp, fun a => ?_⟩
 rw [List.getElem?_replicate]
 split <;> simp [Nat.two_pow_pos]
theorem RelOk.closeRow {n : Nat} {r : Rel} (h : RelOk n r) (k : Nat) : ∀ a, RelOk n (closeRow r k a)
 | 0 => h
 | a + 1 => by
  simp only [EV.closeRow]
  split
  ·exact (RelOk.closeRow h k a).or a ((RelOk.closeRow h k a).lt k)
  ·exact RelOk.closeRow h k a
theorem RelOk.closeGo {n : Nat} {r : Rel} (h : RelOk n r) : ∀ k, RelOk n (closeGo r k)
 | 0 => h
 | k + 1 => RelOk.closeRow (RelOk.closeGo h k) k _
theorem RelOk.close {n : Nat} {r : Rel} (h : RelOk n r) : RelOk n (Ch r) := RelOk.closeGo h _
theorem Y9 {x : Nat} (h : x < 2 ^ 32) : BitVec.ofInt IntKind.u32.bits (x : Int) = (BitVec.ofNat 32 x : BitVec IntKind.u32.bits) := BitVec.ofInt_natCast 32 x
theorem Qp {x : Nat} (h : x < 2 ^ 32) : IntKind.u32.wrap (x : Int) = x := by
 have e : (2 : Int) ^ IntKind.u32.bits = 4294967296 := rfl
 have e3 : IntKind.u32.signed = false := rfl
 have h' : x < 4294967296 := h
 simp only [IntKind.wrap, e, e3, Bool.false_and]
 simp only [Bool.false_eq_true, if_false]
 omega
theorem Ph {x y : Nat} (hx : x < 2 ^ 32) (hy : y < 2 ^ 32) : IntKind.u32.wrap ((BitVec.ofInt IntKind.u32.bits (x : Int) ||| BitVec.ofInt IntKind.u32.bits (y : Int)).toNat : Int) = ((x ||| y : Nat) : Int) := by
 rw [Y9 hx, Y9 hy]
 have e : (BitVec.ofNat 32 x ||| BitVec.ofNat 32 y).toNat = x ||| y := by
  rw [BitVec.toNat_or, BitVec.toNat_ofNat, BitVec.toNat_ofNat, Nat.mod_eq_of_lt hx, Nat.mod_eq_of_lt hy]
 show IntKind.u32.wrap ((BitVec.ofNat 32 x ||| BitVec.ofNat 32 y).toNat : Int) = _
 rw [e]
 exact Qp (Nat.or_lt_two_pow hx hy)
theorem C0 {b : Nat} (hb : b < 32) : IntKind.u32.wrap (1 * 2 ^ min b IntKind.u32.bits) = ((2 ^ b : Nat) : Int) := by
 rw [show IntKind.u32.bits = 32 from rfl, Nat.min_eq_left (by omega), Int.one_mul]
 rw [show ((2 : Int) ^ b) = ((2 ^ b : Nat) : Int) from by simp]
 exact Qp (Nat.pow_lt_pow_right (by decide) hb)
theorem Iz {x b : Nat} (hx : x < 2 ^ 32) (hb : b < 32) : IntKind.u32.wrap ((BitVec.ofInt IntKind.u32.bits (x : Int) ||| BitVec.ofInt IntKind.u32.bits (2 ^ b)).toNat : Int) = ((x ||| 2 ^ b : Nat) : Int) := by
 have := Ph (y := 2 ^ b) hx (Nat.pow_lt_pow_right (by decide) hb)
 rwa [show ((2 ^ b : Nat) : Int) = 2 ^ b from by simp] at this
theorem Za {x b : Nat} (hx : x < 2 ^ 32) (hb : b < 32) : decide (IntKind.u32.wrap ((BitVec.ofInt IntKind.u32.bits ((x : Int).fdiv (2 ^ min b IntKind.u32.bits)) &&& BitVec.ofInt IntKind.u32.bits 1).toNat : Int) = 1) = x.testBit b := by
 have e0 : min b IntKind.u32.bits = b := Nat.min_eq_left (show b ≤ 32 by omega)
 rw [e0]
 have e1 : (x : Int).fdiv (2 ^ b) = ((x / 2 ^ b : Nat) : Int) := by
  rw [Int.fdiv_eq_ediv_of_nonneg _ (by exact_mod_cast Nat.zero_le _)]; simp
 have hd : x / 2 ^ b < 2 ^ 32 := Nat.lt_of_le_of_lt (Nat.div_le_self _ _) hx
 rw [e1, Y9 hd]
 have e : (BitVec.ofNat 32 (x / 2 ^ b) &&& BitVec.ofInt 32 1).toNat = (x / 2 ^ b) % 2 := by
  rw [BitVec.toNat_and, BitVec.toNat_ofNat, Nat.mod_eq_of_lt hd]
  show (x / 2 ^ b) &&& 1 = _
  exact Nat.and_one_is_mod _
 show decide (IntKind.u32.wrap ((BitVec.ofNat 32 (x / 2 ^ b) &&& BitVec.ofInt 32 1).toNat : Int) = 1) = _
 rw [e, Qp (by omega)]
 rw [Nat.testBit_eq_decide_div_mod_eq]
 simp only [decide_eq_decide]
 omega
section
variable {M : Aa}
theorem Jr (s : Value) (p : List Ev) (hs : Sl M 6 A4 s p) (hb : p.length ≤ 32) : Con Tryz.prog 136 #[s] M [] fun v _ G' => ∃ b, v = Bg b p.length p.length ∧ G' = [(b, Cl 144 ((List.replicate p.length 0).map vu))] := by
 obtain ⟨a, c, rfl, aH⟩ := hs
 refine Con.enter Q36_ok (args := [.slice a p.length c]) (by simp [Q36]) fun w0 => ?_
 simp only [Q36, A5]
 repeat' first
   | refine EV.seq ?_
   | (refine EV.reg ?_; (conv => (arg 2; whnf)); (repeat first | refine nx ?_ | simp only [A3]))
   | (with_reducible intro b; (repeat first | refine nx ?_ | simp only [A3]))
   | (refine And.intro (by omega) ?_)
   | fail
 (refine rt Q36_ok ?_; try with_reducible exact ⟨⟩)
 exact ⟨b, rfl, by simp⟩
theorem Js {b n a j c x : Nat} (h : rd M b a 1 [vu x]) (ha : a < n) (hn : n < 1000000) (hj : j < 32) (hx : x < 2 ^ 32) : Aq Tryz.prog 68 #[Bg b n c, vi a, vi j] M (vb (x.testBit j)) := by
 refine Con.enter Q45_ok (args := [Bg b n c, vi a, vi j]) (by simp [Q45]) fun w0 => ?_
 simp only [Q45, A5]
 have aT : (a : Int) < n := by omega
 have iP : ¬ ((j : Int) < 0) := by omega
 repeat' first
   | refine EV.seq ?_
   | (refine EV.reg ?_; (conv => (arg 2; whnf)); (repeat first | refine nx ?_ | simp only [iP]))
   | (refine EV.ret Q45_ok ?_; (repeat first | refine nx ?_ | simp only [iP, Q45]))
   | (refine And.intro (by omega) ?_)
   | (refine xm ?_; (repeat first | refine nx ?_ | simp only [iP]))
   | fail
 rw [Za hx hj]
theorem Ad1 {b n a j c : Nat} {r : Rel} (hr : RelOk n r) (hn : n ≤ 32) (ha : a < n) (hj : j < n) : Con Tryz.prog 121 #[Bg b n c, vi a, vi j] M [(b, Cl 144 (r.map vu))] fun _ _ G' => G' = [(b, Cl 144 ((Lv r a j).map vu))] := by
 refine Con.enter Q46_ok (args := [Bg b n c, vi a, vi j]) (by simp [Q46]) fun w0 => ?_
 simp only [Q46, A5]
 have aT : (a : Int) < n := by omega
 have iP : ¬ ((j : Int) < 0) := by omega
 have cg : a < r.length := by rw [hr.len]; exact ha
 have hx : r[a] < 2 ^ 32 := by
  have := hr.lt a
  rw [List.getElem?_eq_getElem cg] at this
  exact Nat.lt_of_lt_of_le this (Nat.pow_le_pow_right (by decide) hn)
 have h2 : 2 ^ j < 2 ^ 32 := Nat.pow_lt_pow_right (by decide) (by omega)
 repeat' first
   | (refine EV.any _ (List.Sublist.refl _) ?_; (conv => (arg 2; whnf)); (repeat first | refine nx ?_ | simp only [iP, Ar, cg, ha, List.length_map, hr.len, C0 (show j < 32 by omega), Iz hx (show j < 32 by omega)]))
   | (refine Exists.intro _ (And.intro (Ca (f := vu) cg) ?_); (repeat first | refine nx ?_ | simp only [iP, Ar, cg, ha, List.length_map, hr.len, C0 (show j < 32 by omega), Iz hx (show j < 32 by omega)]))
   | (refine And.intro (by omega) ?_)
   | (refine xw ?_; (repeat first | refine nx ?_ | simp only [iP, Ar, cg, ha, List.length_map, hr.len, C0 (show j < 32 by omega), Iz hx (show j < 32 by omega)]))
   | fail
 refine EV.done Q46_ok ?_
 (repeat first | refine nx ?_ | simp only [Q46])
 simp only [Lv, orR, List.getElem?_eq_getElem cg, Option.getD_some]
theorem Fv {b n c : Nat} {a j : Int} {r : Rel} (hr : RelOk n r) (hn : n ≤ 32) (sP : 0 ≤ a) (ha : a < n) (qm : 0 ≤ j) (hj : j < n) : Con Tryz.prog 121 #[Bg b n c, vi a, vi j] M [(b, Cl 144 (r.map vu))] fun _ _ G' => G' = [(b, Cl 144 ((Lv r a.toNat j.toNat).map vu))] := by
 obtain ⟨a', rfl⟩ := Int.eq_ofNat_of_zero_le sP
 obtain ⟨j', rfl⟩ := Int.eq_ofNat_of_zero_le qm
 simp only [Int.toNat_natCast]
 exact Ad1 hr hn (by omega) (by omega)
theorem RelOk.at {n : Nat} {r : Rel} (h : RelOk n r) (hn : n ≤ 32) (a : Nat) : r[a]?.getD 0 < 2 ^ 32 := Nat.lt_of_lt_of_le (h.lt a) (Nat.pow_le_pow_right (by decide) hn)
theorem RelOk.get {n : Nat} {r : Rel} (h : RelOk n r) {a : Nat} (ha : a < n) : ∃ h' : a < r.length, r[a]?.getD 0 = r[a] := by
 have h' : a < r.length := by rw [h.len]; exact ha
 exact ⟨h', by rw [List.getElem?_eq_getElem h']; rfl⟩
theorem Ke {b n c : Nat} {r : Rel} (hr : RelOk n r) (hn : n ≤ 32) : Con Tryz.prog 106 #[Bg b n c] M [(b, Cl 144 (r.map vu))] fun v _ G' => v = Bg b n c ∧ G' = [(b, Cl 144 ((Ch r).map vu))] := by
 refine Con.enter Q44_ok (args := [Bg b n c]) (by simp [Q44]) fun w0 => ?_
 simp only [Q44, A5]
 repeat' first
   | refine EV.seq ?_
   | refine EV.block ?_
   | refine rg ?_
   | exact ⟨⟩
   | fail
 refine EV.loopTo (fun k : Nat => ([(0, Bg b n c), (6, vi n), (7, vi k)], M, [(b, Cl 144 ((closeGo r k).map vu))])) (fun k => k ≤ n) (fun k => n - k) 0 rfl (Nat.zero_le _) ?env1 (List.Sublist.refl _) ?_
 case env1 =>
  exact eE
 intro k hk ih
 dsimp only at hk ih ⊢
 have sQ := RelOk.closeGo hr k
 repeat' first
   | refine EV.seq ?_
   | refine EV.skip ?_
   | refine EV.block ?_
   | refine rg ?_
   | (refine cX (fun h => ?_) (fun h => ?_) <;> try exact Ah h)
   | (refine EV.exit rfl ?_)
   | exact ⟨⟩
   | fail
 ·refine EV.loopTo (fun a : Nat => ([(0, Bg b n c), (3, vi k), (6, vi n), (7, vi k), (11, vi n), (12, vi a)], M, [(b, Cl 144 ((closeRow (closeGo r k) k a).map vu))])) (fun a => a ≤ n) (fun a => n - a) 0 rfl (Nat.zero_le _) ?env2 (List.Sublist.refl _) ?_
  case env2 =>
   exact eE
  intro a ha ih2
  dsimp only at ha ih2 ⊢
  have kk := RelOk.closeRow sQ k a
  repeat' first
    | refine EV.seq ?_
    | refine EV.skip ?_
    | refine EV.block ?_
    | refine EV.inBlock ?_
    | refine rg ?_
    | (refine cX (fun h => ?_) (fun h => ?_) <;> try exact Ah h)
    | (refine EV.exit rfl ?_)
    | exact ⟨⟩
    | fail
  ·have aT : a < n := by omega
   have a8 : k < n := by omega
   have ih3 := ih2 (a + 1) (by omega) (by omega)
   have hs : closeRow (closeGo r k) k (a + 1) = if A1 (closeRow (closeGo r k) k a) a k then orR (closeRow (closeGo r k) k a) a ((closeRow (closeGo r k) k a)[k]?.getD 0) else closeRow (closeGo r k) k a := rfl
   rw [hs] at ih3
   clear hs ih ih2
   generalize closeRow (closeGo r k) k a = q at *
   obtain ⟨cg, ea⟩ := kk.get aT
   obtain ⟨fi, ek⟩ := kk.get a8
   have cR := kk.at (by omega) a
   have gK := kk.at (by omega) k
   simp only [A1, orR, ea, ek] at ih3 cR gK
   have jn := kk.len
   repeat' first
     | refine EV.skip ?_
     | refine EV.inBlock ?_
     | ((first | refine EV.reg ?_ | refine EV.any _ (List.Sublist.refl _) ?_ | fail); (conv => (arg 2; whnf)); (repeat first | refine nx ?_ | simp only [Ar, aT, List.length_map, Ph cR gK, jn]))
     | ((first | refine Exists.intro _ (And.intro (Ca (f := vu) fi) ?_) | refine Exists.intro _ (And.intro (Ca (f := vu) cg) ?_) | refine Aq.call (Js (j := k) (Ca (f := vu) cg) aT (by omega) (by omega) cR) ?_ | fail); (repeat first | refine nx ?_ | simp only [Ar, aT, List.length_map, Ph cR gK, jn]))
     | (refine cX (fun h => ?_) (fun h => ?_) <;> try exact Ah h)
     | (refine And.intro (by omega) ?_)
     | (refine xw ?_; (repeat first | refine nx ?_ | simp only [Ar, aT, List.length_map, Ph cR gK, jn]))
     | fail
   ·rw [if_pos (by assumption)] at ih3
    refine EV.toS ih3 ?_
    exact eE
   ·rw [if_neg (by simp_all)] at ih3
    refine EV.toS ih3 ?_
    exact eE
  ·have bk : a = n := by omega
   subst bk
   have ih3 := ih (k + 1) (by omega) (by omega)
   have e : closeGo r (k + 1) = closeRow (closeGo r k) k a := by rw [closeGo, hr.len]
   rw [e] at ih3
   refine EV.toS ih3 ?_
   exact eE
 ·have bk : k = n := by omega
  subst bk
  (refine rt Q44_ok ?_; try with_reducible exact ⟨⟩)
  simp only [Ch, hr.len]
theorem Sb {r : Rel} {i : Nat} (h : ∀ a, a < i → A1 r a a = false) (hi : r.length ≤ i) : Bp r = false := by
 simp only [Bp, List.any_eq_false, List.mem_range]
 intro a ha
 rw [h a (by omega)]; simp
theorem Mp {b n c : Nat} {r : Rel} (hr : RelOk n r) (hn : n ≤ 32) (sR : rd M b 0 n (r.map vu)) : Aq Tryz.prog 122 #[Bg b n c] M (vb (Bp r)) := by
 refine Con.enter Q43_ok (args := [Bg b n c]) (by simp [Q43]) fun w0 => ?_
 simp only [Q43, A5]
 repeat' first
   | refine EV.seq ?_
   | refine EV.block ?_
   | refine rg ?_
   | exact ⟨⟩
   | fail
 refine EV.loopTo (fun k : Nat => ([(0, Bg b n c), (5, vi n), (6, vi k)], M, [])) (fun k => k ≤ n ∧ ∀ a, a < k → A1 r a a = false) (fun k => n - k) 0 rfl ⟨Nat.zero_le _, fun a ha => absurd ha (Nat.not_lt_zero _)⟩ ?env1 (List.Sublist.refl _) ?_
 case env1 =>
  exact eE
 rintro k ⟨hk, aK⟩ ih
 dsimp only at hk aK ih ⊢
 repeat' first
   | refine EV.seq ?_
   | refine EV.skip ?_
   | refine EV.block ?_
   | refine rg ?_
   | (refine cX (fun h => ?_) (fun h => ?_) <;> try exact Ah h)
   | (refine EV.exit rfl ?_)
   | exact ⟨⟩
   | fail
 ·have a8 : k < n := by omega
  obtain ⟨fi, ek⟩ := hr.get a8
  have gK := hr.at (by omega) k
  have hq : rd M b k 1 [vu r[k]] := by
   have := sR.pt k 1 (by omega) (Jp vu r fi)
   rwa [Nat.zero_add] at this
  rw [ek] at gK
  repeat' first
    | refine EV.seq ?_
    | refine EV.skip ?_
    | refine EV.inBlock ?_
    | refine rg ?_
    | (refine Aq.call (Js (j := k) (Ak1 hq) a8 (by omega) (by omega) gK) ?_; try refine nx ?_)
    | (refine cX (fun h => ?_) (fun h => ?_) <;> try exact Ah h)
    | exact ⟨⟩
    | fail
  ·(refine rt Q43_ok ?_; try with_reducible exact ⟨⟩)
   have : Bp r = true := by
    simp only [Bp, List.any_eq_true, List.mem_range]
    exact ⟨k, fi, by simp only [A1, ek]; assumption⟩
   rw [this]
  ·refine EV.toS (ih (k + 1) ⟨by omega, fun a ha => ?_⟩ (by omega)) ?_
   ·by_cases e : a = k
    ·subst e; simp only [A1, ek]; assumption
    ·exact aK a (by omega)
   ·exact eE
 ·(refine rt Q43_ok ?_; try with_reducible exact ⟨⟩)
  rw [Sb aK (by rw [hr.len]; omega)]
end
end Go.EV

namespace Go.EV
open Go.Proofs
def Xa (p : List Ev) : Prop := ∀ i, i < p.length → Bs (evAt p i).op.ord = true
def Ex (p : List Ev) (w : Nat) : Nat → Nat → Nat
 | 0, s => s
 | a + 1, s => if (evAt p a).th = (evAt p w).th then Ex p w a (if (evAt p a).op.kind = 5 ∧ (evAt p a).rel = true then s ||| 2 ^ a else s) else s
def Fa (p : List Ev) (w : Nat) : Nat := Ex p w w (if (evAt p w).rel then 2 ^ w else 0)
def Jt (p : List Ev) (r : Nat) : Nat → Nat → Nat → Nat
 | 0, _, s => s
 | f + 1, b, s => if (evAt p b).th = (evAt p r).th then Jt p r f (b + 1) (if (evAt p b).op.kind = 5 ∧ (evAt p b).acq = true then s ||| 2 ^ b else s) else s
def I0 (p : List Ev) (r : Nat) : Nat := Jt p r (p.length - (r + 1)) (r + 1) (if (evAt p r).acq then 2 ^ r else 0)
theorem Mq {p : List Ev} {w n : Nat} : ∀ (a s : Nat), a ≤ n → s < 2 ^ n → Ex p w a s < 2 ^ n
 | 0, s, _, h => h
 | a + 1, s, ha, h => by
  simp only [Ex]
  split
  ·refine Mq a _ (by omega) ?_
   split
   ·exact Nat.or_lt_two_pow h (Nat.pow_lt_pow_right (by decide) (by omega))
   ·exact h
  ·exact h
theorem Pi {p : List Ev} {w : Nat} (hw : w < p.length) : Fa p w < 2 ^ p.length := by
 refine Mq _ _ (by omega) ?_
 split
 ·exact Nat.pow_lt_pow_right (by decide) hw
 ·exact Nat.two_pow_pos _
theorem Sc {p : List Ev} {r n : Nat} : ∀ (f b s : Nat), b + f ≤ n → s < 2 ^ n → Jt p r f b s < 2 ^ n
 | 0, _, s, _, h => h
 | f + 1, b, s, hb, h => by
  simp only [Jt]
  split
  ·refine Sc f _ _ (by omega) ?_
   split
   ·exact Nat.or_lt_two_pow h (Nat.pow_lt_pow_right (by decide) (by omega))
   ·exact h
  ·exact h
theorem V3 {p : List Ev} {r : Nat} (hr : r < p.length) : I0 p r < 2 ^ p.length := by
 refine Sc _ _ _ (by omega) ?_
 split
 ·exact Nat.pow_lt_pow_right (by decide) hr
 ·exact Nat.two_pow_pos _
theorem Xb {s n : Nat} (h : s < 2 ^ n) (hn : n ≤ 32) : s < 2 ^ 32 := Nat.lt_of_lt_of_le h (Nat.pow_le_pow_right (by decide) hn)
def C6 (p : List Ev) : Nat → Rel
 | 0 => List.replicate p.length 0
 | i + 1 => if (evAt p (i + 1)).th = (evAt p i).th then Lv (C6 p i) i (i + 1) else C6 p i
def Hd (r : Rel) (fen : List Int) : Nat → Rel
 | 0 => r
 | k + 1 => Lv (Hd r fen k) (fen[k]?.getD 0).toNat (fen[k + 1]?.getD 0).toNat
def Hl (p : List Ev) (fen : List Int) : Rel := Hd (C6 p (p.length - 1)) fen (fen.length - 1)
def Hm (p : List Ev) (l : List Int) : Prop := ∀ x ∈ l, 0 ≤ x ∧ x < p.length
theorem Hm.at {p : List Ev} {l : List Int} (h : Hm p l) {k : Nat} (hk : k < l.length) : 0 ≤ l[k]?.getD 0 ∧ l[k]?.getD 0 < p.length := by
 rw [List.getElem?_eq_getElem hk]; exact h _ (List.getElem_mem hk)
theorem stepsA_ok (p : List Ev) : ∀ i, i ≤ p.length - 1 → RelOk p.length (C6 p i)
 | 0, _ => RelOk.zero _
 | i + 1, h => by
  simp only [C6]
  split
  ·exact (stepsA_ok p i (by omega)).put i (by omega)
  ·exact stepsA_ok p i (by omega)
theorem stepsB_ok {p : List Ev} {r : Rel} (hr : RelOk p.length r) {fen : List Int} (hf : Hm p fen) : ∀ k, k ≤ fen.length - 1 → RelOk p.length (Hd r fen k)
 | 0, _ => hr
 | k + 1, h => by
  have := hf.at (k := k + 1) (by omega)
  exact (stepsB_ok hr hf k (by omega)).put _ (by omega)
theorem stepsP_ok {p : List Ev} {fen : List Int} (hf : Hm p fen) : RelOk p.length (Hl p fen) := stepsB_ok (stepsA_ok p _ (Nat.le_refl _)) hf _ (Nat.le_refl _)
section
variable {M : Aa}
theorem Ot (p : List Ev) (s : Value) (hs : Sl M 6 A4 s p) (hb : p.length < 1000000) (f d o n : Value) (dn : List Bool) (hd : Sl M 1 eb d dn) (w : Nat) (hw : w < p.length) (hl : dn.length = p.length) :
  Aq Tryz.prog 104 #[s, .agg #[f, d, o, n], vi w] M (vb ((evAt p w).reads && (dn[w]?.getD false))) := by
 obtain ⟨a, c, rfl, aH⟩ := hs
 obtain ⟨da, dc, rfl, dD⟩ := hd
 obtain ⟨pb, po, rfl, hat⟩ := Sl.at (enc := A4) (fun _ => rfl) (by decide) aH (by omega)
 obtain ⟨db, do', rfl, aL⟩ := Sl.at (sz := 1) (enc := eb) (fun _ => rfl) (by decide) dD (by omega)
 have gd := Sl.evAt hat w hw
 have jo : rd M db (do' + w) 1 [vb (dn[w]?.getD false)] := by
  have := aL w (by omega)
  rw [Nat.mul_one] at this
  rwa [List.getElem?_eq_getElem (by omega : w < dn.length)]
 have aq : (w : Int) < p.length := by omega
 have dM : (w : Int) < dn.length := by omega
 refine Con.enter Q17_ok (args := [.slice (some ⟨pb, po, none⟩) p.length c, .agg #[f, .slice (some ⟨db, do', none⟩) dn.length dc, o, n], vi w]) (by simp [Q17]) fun w0 => ?_
 simp only [Q17, A5]
 repeat' first
   | refine EV.seq ?_
   | refine rg ?_
   | (refine Aq.call (By (evAt p w)) ?_; try refine nx ?_)
   | with_reducible assumption
   | (refine A0.merge ?_ (fun hc K' hK => ?_) ?_; rotate_left)
   | refine rt Q17_ok ?_
   | (with_reducible intro b; try refine nx ?_)
   | (refine And.intro (by omega) ?_)
   | ((first | refine xm ?_ | refine xsA rfl ?_ | fail); try refine nx ?_)
   | exact ⟨⟩
   | fail
 all_goals simp_all
theorem Ur (p : List Ev) (s : Value) (hs : Sl M 6 A4 s p) (hb : p.length ≤ 32) (ho : Xa p) (w : Nat) (hw : w < p.length) :
  Aq Tryz.prog 103 #[s, vi w] M (vu (Fa p w)) := by
 obtain ⟨a, c, rfl, aH⟩ := hs
 obtain ⟨pb, po, rfl, hat⟩ := Sl.at (enc := A4) (fun _ => rfl) (by decide) aH (by omega)
 have hat := Sl.evAt hat
 have gd := hat w hw
 have oG := gd.pt 5 1 (by omega) rfl
 have aq : (w : Int) < p.length := by omega
 have dE : ¬ ((w : Int) < 0) := by omega
 refine Con.enter Q38_ok (args := [.slice (some ⟨pb, po, none⟩) p.length c, vi w]) (by simp [Q38]) fun w0 => ?_
 simp only [Q38, A5]
 refine EV.seq (EV.reg ?_)
 (repeat first | refine nx ?_ | simp only [Ce7])
 refine EV.seq (EV.reg ?_)
 (repeat first | refine nx ?_ | simp only [Ce8])
 refine EV.seq (EV.thru (fun ρ' M' G' => M' = M ∧ (∀ q ∈ [(0, .slice (some ⟨pb, po, none⟩) p.length c), (1, vi w), (5, vu (if (evAt p w).rel then 2 ^ w else 0))], get ρ' q.1 = some q.2) ∧ G' = []) ?_ ?_)
 ·intro k' key
  have h0 : IntKind.u32.wrap ((BitVec.ofInt IntKind.u32.bits (0 : Int) ||| BitVec.ofInt IntKind.u32.bits (2 ^ w)).toNat : Int) = ((2 ^ w : Nat) : Int) := by
   have := Iz (x := 0) (b := w) (by decide) (by omega)
   simpa using this
  repeat' first
    | refine EV.seq ?_
    | refine EV.skip ?_
    | (refine EV.reg ?_; (conv => (arg 2; whnf)); (repeat first | refine nx ?_ | simp only [dE, C0 (show w < 32 by omega), h0]))
    | (refine Aq.call (V2 (evAt p w) (ho w hw)) ?_; (repeat first | refine nx ?_ | simp only [dE, C0 (show w < 32 by omega), h0]))
    | (refine cX (fun h => ?_) (fun h => ?_) <;> try exact Ah h)
    | (refine And.intro (by omega) ?_)
    | (refine xm ?_; (repeat first | refine nx ?_ | simp only [dE, C0 (show w < 32 by omega), h0]))
    | fail
  all_goals
   refine key _ _ _ ⟨rfl, ?_, rfl⟩
   simp only [*, Bool.false_eq_true, if_true, if_false]
   exact eE
 rintro ρ2 M2 G2 ⟨rfl, hq, rfl⟩
 refine EV.to (G' := []) ?_ hq (List.Sublist.refl _)
 clear hq
 generalize aI : (if (evAt p w).rel then 2 ^ w else 0) = s0
 have jp : s0 < 2 ^ p.length := by
  rw [← aI]; split
  ·exact Nat.pow_lt_pow_right (by decide) hw
  ·exact Nat.two_pow_pos _
 have fS : IntKind.i64.wrap ((w : Int) - 1) = (w : Int) - 1 := w64 (by omega) (by omega)
 repeat' first
   | refine EV.seq ?_
   | refine EV.block ?_
   | (refine EV.reg ?_; (conv => (arg 2; whnf)); (repeat first | refine nx ?_ | simp only [fS]))
   | fail
 refine EV.loopTo (fun x : Nat × Nat => ([(0, .slice (some ⟨pb, po, none⟩) p.length c), (1, vi w), (5, vu x.2), (6, vi ((x.1 : Int) - 1))], M2, [])) (fun x => x.1 ≤ w ∧ x.2 < 2 ^ p.length ∧ Ex p w x.1 x.2 = Fa p w) (fun x => x.1) (w, s0) rfl ⟨Nat.le_refl _, jp, by rw [← aI]; rfl⟩ ?env1 (List.Sublist.refl _) ?_
 case env1 =>
  exact eE
 rintro ⟨x, s⟩ ⟨hx, bK, aX⟩ ih
 dsimp only at hx bK aX ih ⊢
 cases x with
 | zero =>
  have e0 : decide (0 ≤ ((0 : Nat) : Int) - 1) = false := by decide
  repeat' first
    | refine EV.seq ?_
    | ((first | refine EV.reg ?_ | refine EV.any _ (List.Sublist.refl _) ?_ | fail); (conv => (arg 2; whnf)); (repeat first | refine nx ?_ | simp only [e0]))
    | (refine Qh.mk ?_ (fun hc => ?_) ?_; rotate_left; (try simp only [decide_eq_true_eq, decide_eq_false_iff_not, Bool.not_eq_true', Bool.not_eq_false', Bool.and_eq_true, Bool.or_eq_true, Bool.and_eq_false_iff, Bool.or_eq_false_iff] at hc))
    | (refine cX (fun h => ?_) (fun h => ?_) <;> try exact Ah h)
    | (refine EV.exit rfl ?_)
    | (refine And.intro (by omega) ?_)
    | (exfalso; simp at hc; done)
    | exact false
    | fail
  (refine rt Q38_ok ?_; try with_reducible exact ⟨⟩)
  rw [← aX]; rfl
 | succ a =>
  have ea : ((a + 1 : Nat) : Int) - 1 = a := by omega
  have dJ : decide ((a : Int) ≥ 0) = true := by simp
  have jq : decide (0 ≤ (a : Int)) = true := by simp
  have jF := hat a (by omega)
  have oH := jF.pt 5 1 (by omega) rfl
  have jr := jF.pt 0 1 (by omega) rfl
  have sS : (a : Int) < p.length := by omega
  have cN : ¬ ((a : Int) < 0) := by omega
  have ew : IntKind.i64.wrap ((a : Int) - 1) = (a : Int) - 1 := w64 (by omega) (by omega)
  have ai := Iz (x := s) (b := a) (Xb bK hb) (by omega)
  rw [ea]
  simp only [Ex] at aX
  repeat' first
    | refine EV.seq ?_
    | refine EV.skip ?_
    | refine EV.block ?_
    | refine EV.inBlock ?_
    | ((first | refine EV.reg ?_ | refine EV.any _ (List.Sublist.refl _) ?_ | fail); (conv => (arg 2; whnf)); (repeat first | refine nx ?_ | simp only [dJ, jq, cN, C0 (show a < 32 by omega), ai, ew]))
    | (refine Aq.call (V2 (evAt p a) (ho a (by omega))) ?_; (repeat first | refine nx ?_ | simp only [dJ, jq, cN, C0 (show a < 32 by omega), ai, ew]))
    | with_reducible assumption
    | (refine A0.merge ?_ (fun hc K' hK => ?_) ?_; rotate_left)
    | (refine Qh.mk ?_ (fun hc => ?_) ?_; rotate_left; (try simp only [decide_eq_true_eq, decide_eq_false_iff_not, Bool.not_eq_true', Bool.not_eq_false', Bool.and_eq_true, Bool.or_eq_true, Bool.and_eq_false_iff, Bool.or_eq_false_iff] at hc))
    | (with_reducible rfl)
    | (refine cX (fun h => ?_) (fun h => ?_) <;> try exact Ah h)
    | (refine EV.exit rfl ?_)
    | (refine And.intro (by omega) ?_)
    | (refine xm ?_; (repeat first | refine nx ?_ | simp only [dJ, jq, cN, C0 (show a < 32 by omega), ai, ew]))
    | fail
  ·rw [if_pos (by simp_all), if_pos (by simp_all)] at aX
   refine EV.to (ih (a, s ||| 2 ^ a) ⟨by dsimp only; omega, Nat.or_lt_two_pow bK (Nat.pow_lt_pow_right (by decide) (by omega)), aX⟩ (by dsimp only; omega)) ?_ (List.Sublist.refl _)
   exact eE
  ·rw [if_pos (by simp_all), if_neg (by grind)] at aX
   refine EV.to (ih (a, s) ⟨by dsimp only; omega, bK, aX⟩ (by dsimp only; omega)) ?_ (List.Sublist.refl _)
   exact eE
  ·rw [if_neg (by simp_all)] at aX
   (refine rt Q38_ok ?_; try with_reducible exact ⟨⟩)
   rw [← aX]
theorem Zb (p : List Ev) (s : Value) (hs : Sl M 6 A4 s p) (hb : p.length ≤ 32) (ho : Xa p) (w : Nat) (hw : w < p.length) :
  Aq Tryz.prog 105 #[s, vi w] M (vu (I0 p w)) := by
 obtain ⟨a, c, rfl, aH⟩ := hs
 obtain ⟨pb, po, rfl, hat⟩ := Sl.at (enc := A4) (fun _ => rfl) (by decide) aH (by omega)
 have hat := Sl.evAt hat
 have gd := hat w hw
 have oG := gd.pt 5 1 (by omega) rfl
 have aq : (w : Int) < p.length := by omega
 have dE : ¬ ((w : Int) < 0) := by omega
 refine Con.enter Q16_ok (args := [.slice (some ⟨pb, po, none⟩) p.length c, vi w]) (by simp [Q16]) fun w0 => ?_
 simp only [Q16, A5]
 refine EV.seq (EV.reg ?_)
 (repeat first | refine nx ?_ | simp only [Cf0])
 refine EV.seq (EV.reg ?_)
 (repeat first | refine nx ?_ | simp only [Cf1])
 refine EV.seq (EV.thru (fun ρ' M' G' => M' = M ∧ (∀ q ∈ [(0, .slice (some ⟨pb, po, none⟩) p.length c), (1, vi w), (5, vu (if (evAt p w).acq then 2 ^ w else 0))], get ρ' q.1 = some q.2) ∧ G' = []) ?_ ?_)
 ·intro k' key
  have h0 : IntKind.u32.wrap ((BitVec.ofInt IntKind.u32.bits (0 : Int) ||| BitVec.ofInt IntKind.u32.bits (2 ^ w)).toNat : Int) = ((2 ^ w : Nat) : Int) := by
   have := Iz (x := 0) (b := w) (by decide) (by omega)
   simpa using this
  repeat' first
    | refine EV.seq ?_
    | refine EV.skip ?_
    | (refine EV.reg ?_; (conv => (arg 2; whnf)); (repeat first | refine nx ?_ | simp only [dE, C0 (show w < 32 by omega), h0]))
    | (refine Aq.call (V1 (evAt p w) (ho w hw)) ?_; (repeat first | refine nx ?_ | simp only [dE, C0 (show w < 32 by omega), h0]))
    | (refine cX (fun h => ?_) (fun h => ?_) <;> try exact Ah h)
    | (refine And.intro (by omega) ?_)
    | (refine xm ?_; (repeat first | refine nx ?_ | simp only [dE, C0 (show w < 32 by omega), h0]))
    | fail
  all_goals
   refine key _ _ _ ⟨rfl, ?_, rfl⟩
   simp only [*, Bool.false_eq_true, if_true, if_false]
   exact eE
 rintro ρ2 M2 G2 ⟨rfl, hq, rfl⟩
 refine EV.to (G' := []) ?_ hq (List.Sublist.refl _)
 clear hq
 generalize aI : (if (evAt p w).acq then 2 ^ w else 0) = s0
 have jp : s0 < 2 ^ p.length := by
  rw [← aI]; split
  ·exact Nat.pow_lt_pow_right (by decide) hw
  ·exact Nat.two_pow_pos _
 have fS : IntKind.i64.wrap ((w : Int) + 1) = ((w + 1 : Nat) : Int) := w64 (by omega) (by omega)
 repeat' first
   | refine EV.seq ?_
   | refine EV.block ?_
   | refine rg ?_
   | exact ⟨⟩
   | fail
 rw [fS]
 refine EV.loopTo (fun x : Nat × Nat => ([(0, .slice (some ⟨pb, po, none⟩) p.length c), (1, vi w), (5, vu x.2), (6, vi x.1)], M2, [])) (fun x => x.1 ≤ p.length ∧ x.2 < 2 ^ p.length ∧ Jt p w (p.length - x.1) x.1 x.2 = I0 p w) (fun x => p.length - x.1) (w + 1, s0) rfl ⟨hw, jp, by rw [← aI]; rfl⟩ ?env1 (List.Sublist.refl _) ?_
 case env1 =>
  exact eE
 rintro ⟨a, s⟩ ⟨hx, bK, aX⟩ ih
 dsimp only at hx bK aX ih ⊢
 by_cases ha : a < p.length
 ·have aZ : decide ((a : Int) < p.length) = true := by simpa using ha
  have jF := hat a (by omega)
  have oH := jF.pt 5 1 (by omega) rfl
  have jr := jF.pt 0 1 (by omega) rfl
  have sS : (a : Int) < p.length := by omega
  have cN : ¬ ((a : Int) < 0) := by omega
  have ai := Iz (x := s) (b := a) (Xb bK hb) (by omega)
  have ef : p.length - a = (p.length - (a + 1)) + 1 := by omega
  rw [ef] at aX
  simp only [Jt] at aX
  repeat' first
    | refine EV.seq ?_
    | refine EV.skip ?_
    | refine EV.block ?_
    | refine EV.inBlock ?_
    | ((first | refine EV.reg ?_ | refine EV.any _ (List.Sublist.refl _) ?_ | fail); (conv => (arg 2; whnf)); (repeat first | refine nx ?_ | simp only [aZ, cN, C0 (show a < 32 by omega), ai]))
    | (refine Aq.call (V1 (evAt p a) (ho a (by omega))) ?_; (repeat first | refine nx ?_ | simp only [aZ, cN, C0 (show a < 32 by omega), ai]))
    | with_reducible assumption
    | (refine A0.merge ?_ (fun hc K' hK => ?_) ?_; rotate_left)
    | (refine Qh.mk ?_ (fun hc => ?_) ?_; rotate_left; (try simp only [decide_eq_true_eq, decide_eq_false_iff_not, Bool.not_eq_true', Bool.not_eq_false', Bool.and_eq_true, Bool.or_eq_true, Bool.and_eq_false_iff, Bool.or_eq_false_iff] at hc))
    | (with_reducible rfl)
    | (refine cX (fun h => ?_) (fun h => ?_) <;> try exact Ah h)
    | (refine EV.exit rfl ?_)
    | (refine And.intro (by omega) ?_)
    | (refine xm ?_; (repeat first | refine nx ?_ | simp only [aZ, cN, C0 (show a < 32 by omega), ai]))
    | fail
  ·rw [if_pos (by simp_all), if_pos (by simp_all)] at aX
   refine EV.to (ih (a + 1, s ||| 2 ^ a) ⟨by dsimp only; omega, Nat.or_lt_two_pow bK (Nat.pow_lt_pow_right (by decide) (by omega)), aX⟩ (by dsimp only; omega)) ?_ (List.Sublist.refl _)
   exact eE
  ·rw [if_pos (by simp_all), if_neg (by grind)] at aX
   refine EV.to (ih (a + 1, s) ⟨by dsimp only; omega, bK, aX⟩ (by dsimp only; omega)) ?_ (List.Sublist.refl _)
   exact eE
  ·rw [if_neg (by simp_all)] at aX
   (refine rt Q16_ok ?_; try with_reducible exact ⟨⟩)
   rw [← aX]
 ·have e0 : decide ((a : Int) < p.length) = false := by simp; omega
  have ea : p.length - a = 0 := by omega
  rw [ea] at aX
  repeat' first
    | refine EV.seq ?_
    | ((first | refine EV.reg ?_ | refine EV.any _ (List.Sublist.refl _) ?_ | fail); (conv => (arg 2; whnf)); (repeat first | refine nx ?_ | simp only [e0]))
    | (refine Qh.mk ?_ (fun hc => ?_) ?_; rotate_left; (try simp only [decide_eq_true_eq, decide_eq_false_iff_not, Bool.not_eq_true', Bool.not_eq_false', Bool.and_eq_true, Bool.or_eq_true, Bool.and_eq_false_iff, Bool.or_eq_false_iff] at hc))
    | (refine cX (fun h => ?_) (fun h => ?_) <;> try exact Ah h)
    | (refine EV.exit rfl ?_)
    | (refine And.intro (by omega) ?_)
    | (exfalso; simp at hc; done)
    | exact false
    | fail
  (refine rt Q16_ok ?_; try with_reducible exact ⟨⟩)
  rw [← aX]; rfl
theorem Pj (p : List Ev) (s : Value) (hs : Sl M 6 A4 s p) (hb : p.length ≤ 32) (f d o n : Value) (fen : List Int) (hn : Sl M 1 ei n fen) (hin : Hm p fen) (az : fen.length < 1000000) :
  Con Tryz.prog 102 #[s, .agg #[f, d, o, n]] M [] fun v _ G' => ∃ b, v = Bg b p.length p.length ∧ G' = [(b, Cl 144 ((Hl p fen).map vu))] := by
 have aI := hs
 obtain ⟨a, c, rfl, aH⟩ := hs
 obtain ⟨na, nc, rfl, iQ⟩ := hn
 refine Con.enter Q39_ok (args := [.slice a p.length c, .agg #[f, d, o, .slice na fen.length nc]]) (by simp [Q39]) fun w0 => ?_
 simp only [Q39, A5]
 repeat' first
   | refine EV.seq ?_
   | refine rg ?_
   | (with_reducible intro b; try refine nx ?_)
   | exact ⟨⟩
   | fail
 rename Nat => xb
 refine Con.callB (G1 := []) (Jr _ p (aI.mono (Aa.le_add _ _)) hb) (Aa.le_refl _) (List.Perm.refl _) ?_
 rintro v M' G' ⟨rb, rfl, rfl⟩
 (refine nx ?_; try with_reducible exact ⟨⟩)
 repeat' first
   | refine EV.seq ?_
   | refine EV.block ?_
   | refine rg ?_
   | exact ⟨⟩
   | fail
 refine EV.loopTo (fun x : Nat => ([(0, .slice a p.length c), (3, pv xb 0), (5, Bg rb p.length p.length), (6, vi ((x : Int) + 1))], M, [(xb, Cl 45 [f, d, o, .slice na fen.length nc]), (rb, Cl 144 ((C6 p x).map vu))]))
  (fun x => x ≤ p.length - 1) (fun x => p.length - x) 0 rfl (Nat.zero_le _) ?env1 (List.Sublist.refl _) ?_
 case env1 =>
  exact eE
 intro x hx ih
 dsimp only at hx ih ⊢
 have ht : ((x : Int) + 1).toNat = x + 1 := by omega
 have aq : IntKind.i64.wrap ((x : Int) + 1 - 1) = x := w64 (by omega) (by omega) |>.trans (by omega)
 repeat' first
   | refine EV.seq ?_
   | refine EV.skip ?_
   | refine EV.block ?_
   | ((first | refine EV.reg ?_ | refine EV.any _ (List.Sublist.refl _) ?_ | fail); (conv => (arg 2; whnf)); (repeat first | refine nx ?_ | simp only [ht, aq]))
   | (refine cX (fun h => ?_) (fun h => ?_) <;> try exact Ah h)
   | (refine EV.exit rfl ?_)
   | fail
 ·have dh : x + 1 < p.length := by omega
  obtain ⟨pb, po, rfl, hat⟩ := Sl.at (enc := A4) (fun _ => rfl) (by decide) aH (by omega)
  have hat := Sl.evAt hat
  have nF := (hat (x + 1) (by omega)).pt 5 1 (by omega) rfl
  have jk := (hat x (by omega)).pt 5 1 (by omega) rfl
  have ih3 := ih (x + 1) (by omega) (by omega)
  rw [show C6 p (x + 1) = if (evAt p (x + 1)).th = (evAt p x).th then Lv (C6 p x) x (x + 1) else C6 p x from rfl] at ih3
  have ae := stepsA_ok p x (by omega)
  clear ih
  repeat' first
    | refine EV.skip ?_
    | refine EV.inBlock ?_
    | (refine EV.reg ?_; (conv => (arg 2; whnf)); (repeat first | refine nx ?_ | simp only [ht, aq]))
    | (refine cX (fun h => ?_) (fun h => ?_) <;> try exact Ah h)
    | (refine And.intro (by omega) ?_)
    | (refine xm ?_; (repeat first | refine nx ?_ | simp only [ht, aq]))
    | fail
  ·refine Con.callK (Fv ae hb (by omega) (by omega) (by omega) (by omega)) (Aa.le_add _ _) ?_
   rintro v M' G' rfl
   rw [if_pos h] at ih3
   simp only [Int.toNat_natCast, ht]
   (refine nx ?_; try with_reducible exact ⟨⟩)
   repeat' first
     | refine EV.inBlock ?_
     | refine rg ?_
     | exact ⟨⟩
     | fail
   refine EV.toS ih3 ?_
   exact eE
  ·rw [if_neg (by simp_all)] at ih3
   refine EV.toS ih3 ?_
   exact eE
 ·have hZ : x = p.length - 1 := by omega
  subst hZ
  clear ih
  have ae := stepsA_ok p (p.length - 1) (Nat.le_refl _)
  repeat' first
    | fail
  refine EV.loopTo (fun x : Nat => ([(0, .slice a p.length c), (3, pv xb 0), (5, Bg rb p.length p.length), (7, vi ((x : Int) + 1))], M, [(xb, Cl 45 [f, d, o, .slice na fen.length nc]), (rb, Cl 144 ((Hd (C6 p (p.length - 1)) fen x).map vu))]))
   (fun x => x ≤ fen.length - 1) (fun x => fen.length - x) 0 rfl (Nat.zero_le _) ?env2 (List.Sublist.refl _) ?_
  case env2 =>
   exact eE
  intro x hx ih
  dsimp only at hx ih ⊢
  have ht : ((x : Int) + 1).toNat = x + 1 := by omega
  have aq : IntKind.i64.wrap ((x : Int) + 1 - 1) = x := w64 (by omega) (by omega) |>.trans (by omega)
  repeat' first
    | refine EV.seq ?_
    | refine EV.skip ?_
    | refine EV.block ?_
    | (refine EV.reg ?_; (conv => (arg 2; whnf)); (repeat first | refine nx ?_ | simp only [ht, aq]))
    | (refine cX (fun h => ?_) (fun h => ?_) <;> try exact Ah h)
    | (refine EV.exit rfl ?_)
    | (refine xsA rfl ?_; (repeat first | refine nx ?_ | simp only [ht, aq]))
    | fail
  ·have dh : x + 1 < fen.length := by omega
   obtain ⟨pb, po, rfl, hat⟩ := Sl.at (sz := 1) (enc := ei) (fun _ => rfl) (by decide) iQ (by omega)
   have nF := hat (x + 1) (by omega)
   have jk := hat x (by omega)
   have q1 := hin.at (k := x + 1) dh
   have q0 := hin.at (k := x) (by omega)
   rw [Nat.mul_one] at nF jk
   rw [← show fen[x + 1]?.getD 0 = fen[x + 1] from by rw [List.getElem?_eq_getElem dh]; rfl] at nF
   rw [← show fen[x]?.getD 0 = fen[x] from by rw [List.getElem?_eq_getElem]; rfl] at jk
   have ih3 := ih (x + 1) (by omega) (by omega)
   rw [show Hd (C6 p (p.length - 1)) fen (x + 1) = Lv (Hd (C6 p (p.length - 1)) fen x) (fen[x]?.getD 0).toNat (fen[x + 1]?.getD 0).toNat from rfl] at ih3
   have oK := stepsB_ok ae hin x (by omega)
   generalize fen[x]?.getD 0 = ea at *
   generalize fen[x + 1]?.getD 0 = eb2 at *
   clear ih
   refine EV.any (t := Aq2) _ (List.Sublist.refl _) ?_
   (repeat first | refine nx ?_ | simp only [Aq2])
   repeat' first
     | (refine And.intro (by omega) ?_)
     | ((first | refine xm ?_ | refine xsA rfl ?_ | fail); (repeat first | refine nx ?_ | simp only [ht, aq]))
     | fail
   refine Con.callK (Fv oK hb (by omega) (by omega) (by omega) (by omega)) (Aa.le_add _ _) ?_
   rintro v M' G' rfl
   (refine nx ?_; try with_reducible exact ⟨⟩)
   repeat' first
     | refine EV.inBlock ?_
     | (refine EV.reg ?_; (conv => (arg 2; whnf)); (repeat first | refine nx ?_ | simp only [ht, aq]))
     | fail
   refine EV.toS ih3 ?_
   exact eE
  ·have hZ : x = fen.length - 1 := by omega
   subst hZ
   refine EV.toS (ρ' := [(4, Bg rb p.length p.length)]) (G' := [(rb, Cl 144 ((Hd (C6 p (p.length - 1)) fen (fen.length - 1)).map vu))]) ?_ ?env3
   case env3 =>
    exact eE
   (refine rt Q39_ok ?_; try with_reducible exact ⟨⟩)
   exact ⟨rb, rfl, rfl⟩
end
end Go.EV

namespace Go.EV
open Go.Proofs
structure Exec where
 frm : List Int
 dn : List Bool
 ord : List (List Int)
 fen : List Int
structure POk (p : List Ev) : Prop where
 len : p.length ≤ 32
 ord : Xa p
 loc : ∀ i, i < p.length → 0 ≤ (evAt p i).op.loc ∧ (evAt p i).op.loc < 3
structure XOk (p : List Ev) (e : Exec) : Prop where
 fl : e.frm.length = p.length
 dl : e.dn.length = p.length
 ol : e.ord.length = 3
 fr : ∀ i : Nat, i < p.length → e.frm[i]?.getD 0 < p.length ∧ ((evAt p i).reads = true → -1 ≤ e.frm[i]?.getD 0)
 oin : ∀ l ∈ e.ord, Hm p l ∧ l.length ≤ p.length
 fin : Hm p e.fen ∧ e.fen.length ≤ p.length
theorem XOk.fromOk {p : List Ev} {e : Exec} (h : XOk p e) : Cr p e.frm := ⟨h.fl, fun i hi hr => by
 have := h.fr i hi
 have h2 := this.2 hr
 omega⟩
def IsX (M : Aa) (v : Value) (e : Exec) : Prop := ∃ f d o n, v = .agg #[f, d, o, n] ∧ Sl M 1 ei f e.frm ∧ Sl M 1 eb d e.dn ∧ C7 M 1 ei o e.ord ∧ Sl M 1 ei n e.fen
theorem IsX.mono {M M' : Aa} (hM : M.le M') {v : Value} {e : Exec} (h : IsX M v e) : IsX M' v e := by
 obtain ⟨f, d, o, n, rfl, h1, h2, h3, h4⟩ := h
 exact ⟨f, d, o, n, rfl, h1.mono hM, h2.mono hM, h3.mono hM, h4.mono hM⟩
def Ms (p : List Ev) (e : Exec) (w : Nat) : Bool := (evAt p w).reads && (e.dn[w]?.getD false)
def Ae (e : Exec) (i : Nat) : Int := e.frm[i]?.getD 0
def C1 (p : List Ev) (e : Exec) : Nat → Nat → Nat → Nat
 | 0, _, s => s
 | k + 1, w, s => if Ms p e w = true ∧ 0 ≤ Ae e w then C1 p e k (Ae e w).toNat (s ||| Fa p w) else s ||| Fa p w
def Ed (p : List Ev) (e : Exec) (r : Nat) : Nat := C1 p e p.length (Ae e r).toNat 0
def Il (q : Rel) (set to : Nat) : Nat → Rel
 | 0 => q
 | a + 1 => if set.testBit a then orR (Il q set to a) a to else Il q set to a
def Hn (p : List Ev) (e : Exec) : Nat → Rel
 | 0 => Hl p e.fen
 | r + 1 => if (evAt p r).reads = true ∧ 0 ≤ Ae e r then Il (Hn p e r) (Ed p e r) (I0 p r) p.length else Hn p e r
def Ek (p : List Ev) (e : Exec) : Rel := Ch (Hn p e p.length)
theorem Pk {p : List Ev} {e : Exec} (hx : XOk p e) : ∀ (k w s : Nat), w < p.length → s < 2 ^ p.length → C1 p e k w s < 2 ^ p.length
 | 0, _, _, _, h => h
 | k + 1, w, s, hw, h => by
  have hs : s ||| Fa p w < 2 ^ p.length := Nat.or_lt_two_pow h (Pi hw)
  simp only [C1]
  split
  ·rename_i hc
   have := (hx.fr w hw).1
   exact Pk hx k _ _ (by simp only [Ae] at hc ⊢; omega) hs
  ·exact hs
theorem orAll_ok {n : Nat} {q : Rel} (hq : RelOk n q) {set to : Nat} (ht : to < 2 ^ n) : ∀ a, RelOk n (Il q set to a)
 | 0 => hq
 | a + 1 => by
  simp only [Il]
  split
  ·exact (orAll_ok hq ht a).or a ht
  ·exact orAll_ok hq ht a
theorem befGo_ok {p : List Ev} {e : Exec} (hx : XOk p e) : ∀ r, r ≤ p.length → RelOk p.length (Hn p e r)
 | 0, _ => stepsP_ok hx.fin.1
 | r + 1, h => by
  simp only [Hn]
  split
  ·exact orAll_ok (befGo_ok hx r (by omega)) (V3 (by omega)) _
  ·exact befGo_ok hx r (by omega)
section
variable {M : Aa}
set_option maxHeartbeats 4000000 in
theorem Mt (p : List Ev) (s : Value) (hs : Sl M 6 A4 s p) (hp : POk p) (e : Exec) (v : Value) (hv : IsX M v e) (hx : XOk p e) :
  Con Tryz.prog 67 #[s, v] M [] fun v _ G' => ∃ b, v = Bg b p.length p.length ∧ G' = [(b, Cl 144 ((Ek p e).map vu))] := by
 have aI := hs
 have hb := hp.len
 obtain ⟨a, c, rfl, aH⟩ := hs
 obtain ⟨f, d, o, n, rfl, hf, hd, ho, hn⟩ := hv
 have lZ := hd
 obtain ⟨fa, fc, rfl, bU⟩ := hf
 obtain ⟨da, dc, rfl, l5⟩ := hd
 have az := hx.fl
 refine Con.enter Q10_ok (args := [.slice a p.length c, .agg #[.slice fa e.frm.length fc, .slice da e.dn.length dc, o, n]]) (by simp [Q10]) fun w0 => ?_
 simp only [Q10, A5]
 repeat' first
   | refine EV.seq ?_
   | refine rg ?_
   | ((first | with_reducible intro b | refine xrA rfl ?_ | fail); try refine nx ?_)
   | exact ⟨⟩
   | fail
 rename Nat => xb
 have nI := hx.fin.2
 refine Con.callB (G1 := []) (Pj p _ (aI.mono (Aa.le_add _ _)) hb _ _ _ _ e.fen (hn.mono (Aa.le_add _ _)) hx.fin.1 (by omega)) (Aa.le_refl _) (List.Perm.refl _) ?_
 rintro v M' G' ⟨rb, rfl, rfl⟩
 (refine nx ?_; try with_reducible exact ⟨⟩)
 repeat' first
   | refine EV.seq ?_
   | refine EV.block ?_
   | refine rg ?_
   | exact ⟨⟩
   | fail
 refine EV.loopTo (fun r : Nat => ([(0, .slice a p.length c), (3, pv xb 0), (5, Bg rb p.length p.length), (15, vi p.length), (16, vi r)], M, [(xb, Cl 45 [.slice fa e.frm.length fc, .slice da e.dn.length dc, o, n]), (rb, Cl 144 ((Hn p e r).map vu))]))
  (fun r => r ≤ p.length) (fun r => p.length - r) 0 rfl (Nat.zero_le _) ?env1 (List.Sublist.refl _) ?_
 case env1 =>
  exact eE
 intro r hr ih
 dsimp only at hr ih ⊢
 repeat' first
   | refine EV.seq ?_
   | refine EV.skip ?_
   | refine EV.block ?_
   | refine rg ?_
   | (refine cX (fun h => ?_) (fun h => ?_) <;> try exact Ah h)
   | (refine EV.exit rfl ?_)
   | exact ⟨⟩
   | fail
 ·have bj : r < p.length := by omega
  obtain ⟨pb, po, rfl, hat⟩ := Sl.at (enc := A4) (fun _ => rfl) (by decide) aH (by omega)
  obtain ⟨fb, fo, rfl, aL⟩ := Sl.at (sz := 1) (enc := ei) (fun _ => rfl) (by decide) bU (by omega)
  have hat := Sl.evAt hat
  have ge : ∀ i, i < p.length → rd M fb (fo + i) 1 [vi (Ae e i)] := by
   intro i hi
   have := aL i (by omega)
   rw [Nat.mul_one] at this
   simp only [Ae]
   rwa [List.getElem?_eq_getElem (by omega : i < e.frm.length)]
  have am := hat r bj
  have dt := ge r bj
  have aZ : ∀ i, i < p.length → Ae e i < p.length := fun i hi => (hx.fr i hi).1
  have fm := aZ r bj
  have uV : (r : Int) < e.frm.length := by omega
  have ih3 := ih (r + 1) (by omega) (by omega)
  rw [show Hn p e (r + 1) = if (evAt p r).reads = true ∧ 0 ≤ Ae e r then Il (Hn p e r) (Ed p e r) (I0 p r) p.length else Hn p e r from rfl] at ih3
  have ae := befGo_ok hx r (by omega)
  generalize Hn p e r = q at *
  clear ih aL
  repeat' first
    | refine EV.skip ?_
    | refine rg ?_
    | with_reducible assumption
    | (refine Aq.call (By (evAt p r)) ?_; try refine nx ?_)
    | (refine A0.merge ?_ (fun hc K' hK => ?_) ?_; rotate_left)
    | (refine cX (fun h => ?_) (fun h => ?_) <;> try exact Ah h)
    | (refine EV.exit rfl ?_)
    | (refine And.intro (by omega) ?_)
    | ((first | refine xm ?_ | refine xsA rfl ?_ | fail); try refine nx ?_)
    | exact ⟨⟩
    | fail
  ·rw [if_neg (by grind)] at ih3
   refine EV.toS ih3 ?_
   exact eE
  ·obtain ⟨hre, dJ⟩ := h
   have dJ : 0 ≤ Ae e r := by omega
   rw [if_pos ⟨hre, dJ⟩] at ih3
   obtain ⟨w0', k8⟩ := Int.eq_ofNat_of_zero_le dJ
   refine EV.seq ?_
   repeat' first
     | refine rg ?_
     | exact ⟨⟩
     | fail
   refine EV.seq ?_
   repeat' first
     | refine rg ?_
     | (refine And.intro (by omega) ?_)
     | ((first | refine xm ?_ | refine xsA rfl ?_ | fail); try refine nx ?_)
     | exact ⟨⟩
     | fail
   refine EV.seq (EV.thru (fun ρ' M' G' => M' = M ∧ (∀ q ∈ [(0, .slice (some ⟨pb, po, none⟩) p.length c), (3, pv xb 0), (5, Bg rb p.length p.length), (6, vi r), (7, vu (Ed p e r)), (15, vi p.length), (16, vi r)], get ρ' q.1 = some q.2) ∧
    G' = [(xb, Cl 45 [.slice (some ⟨fb, fo, none⟩) e.frm.length fc, .slice da e.dn.length dc, o, n]), (rb, Cl 144 (q.map vu))]) ?_ ?_)
   ·intro k' key
    clear ih3
    repeat' first
      | refine EV.seq ?_
      | refine EV.block ?_
      | refine rg ?_
      | exact ⟨⟩
      | fail
    refine EV.loopTo (fun x : Nat × Nat × Nat => ([(0, .slice (some ⟨pb, po, none⟩) p.length c), (3, pv xb 0), (5, Bg rb p.length p.length), (6, vi r), (7, vu x.2.2), (8, vi x.2.1), (15, vi p.length), (16, vi r), (39, vi p.length), (40, vi x.1)], M, [(xb, Cl 45 [.slice (some ⟨fb, fo, none⟩) e.frm.length fc, .slice da e.dn.length dc, o, n]), (rb, Cl 144 (q.map vu))]))
     (fun x => x.1 ≤ p.length ∧ x.2.1 < p.length ∧ x.2.2 < 2 ^ p.length ∧ C1 p e (p.length - x.1) x.2.1 x.2.2 = Ed p e r) (fun x => p.length - x.1) (0, w0', 0) rfl ⟨Nat.zero_le _, by dsimp only; omega, Nat.two_pow_pos _, by simp only [Ed, k8, Nat.sub_zero, Int.toNat_natCast]⟩ ?env2 (List.Sublist.refl _) ?_
    case env2 =>
     repeat' first
      | (refine List.forall_mem_cons.2 (And.intro ?_ ?_))
      | (intro _ b8; cases b8; done)
      | rfl
      | (simp (disch := omega) only [Am, Au, reduceIte, Nat.reduceEqDiff, Option.some.injEq, Value.int.injEq, w64, Int.natCast_add, Int.natCast_one, Int.cast_ofNat_Int, Int.natCast_zero, k8]; done)
      | fail
    rintro ⟨j, w, s⟩ ⟨hj, hw, hs, aX⟩ ih
    dsimp only at hj hw hs aX ih ⊢
    repeat' first
      | refine EV.seq ?_
      | refine EV.skip ?_
      | refine EV.block ?_
      | refine rg ?_
      | (refine cX (fun h => ?_) (fun h => ?_) <;> try exact Ah h)
      | (refine EV.exit rfl ?_)
      | exact ⟨⟩
      | fail
    ·have bK := Pi hw
     have ai := Ph (Xb hs hb) (Xb bK hb)
     have nH := ge w hw
     have sT := aZ w hw
     have qz : (w : Int) < e.frm.length := by omega
     have ef : p.length - j = (p.length - (j + 1)) + 1 := by omega
     rw [ef] at aX
     simp only [C1] at aX
     repeat' first
       | refine EV.seq ?_
       | refine EV.skip ?_
       | refine EV.inBlock ?_
       | (refine EV.reg ?_; (conv => (arg 2; whnf)); (repeat first | refine nx ?_ | simp only [ai]))
       | ((first | refine Aq.call (Ot p _ (aI.mono (Aa.le_add _ _)) (by omega) _ _ _ _ e.dn (lZ.mono (Aa.le_add _ _)) w hw hx.dl) ?_ | refine Aq.call (Ur p _ (aI.mono (Aa.le_add _ _)) hb hp.ord w hw) ?_ | fail); (repeat first | refine nx ?_ | simp only [ai]))
       | with_reducible assumption
       | (refine A0.merge ?_ (fun hc K' hK => ?_) ?_; rotate_left)
       | (refine cX (fun h => ?_) (fun h => ?_) <;> try exact Ah h)
       | (refine EV.exit rfl ?_)
       | (refine And.intro (by omega) ?_)
       | ((first | refine xm ?_ | refine xrA rfl ?_ | refine xsA rfl ?_ | fail); (repeat first | refine nx ?_ | simp only [ai]))
       | fail
     ·rw [if_neg (show ¬ (Ms p e w = true ∧ 0 ≤ Ae e w) by simp only [Ms]; grind)] at aX
      refine key _ _ _ ⟨rfl, ?_, rfl⟩
      simp only [aX]
      exact eE
     ·rw [if_pos (show Ms p e w = true ∧ 0 ≤ Ae e w by simp only [Ms]; grind)] at aX
      obtain ⟨w1, aq⟩ := Int.eq_ofNat_of_zero_le (show 0 ≤ Ae e w by omega)
      rw [aq, Int.toNat_natCast] at aX
      refine EV.toS (ih (j + 1, w1, s ||| Fa p w) ⟨by dsimp only; omega, by dsimp only; omega, Nat.or_lt_two_pow hs bK, aX⟩ (by dsimp only; omega)) ?_
      simp only [aq]
      exact eE
    ·have : p.length - j = 0 := by omega
     rw [this] at aX
     simp only [C1] at aX
     refine key _ _ _ ⟨rfl, ?_, rfl⟩
     repeat' first
      | (refine List.forall_mem_cons.2 (And.intro ?_ ?_))
      | (intro _ b8; cases b8; done)
      | rfl
      | (simp (disch := omega) only [Am, Au, reduceIte, Nat.reduceEqDiff, Option.some.injEq, Value.int.injEq, w64, Int.natCast_add, Int.natCast_one, Int.cast_ofNat_Int, Int.natCast_zero, aX]; done)
      | fail
   rintro ρ2 M2 G2 ⟨rfl, hq, rfl⟩
   refine EV.to ?_ hq (List.Sublist.refl _)
   clear hq
   have hh : Ed p e r < 2 ^ p.length := Pk hx _ _ _ (by omega) (Nat.two_pow_pos _)
   have he := V3 bj
   repeat' first
     | refine EV.seq ?_
     | refine EV.block ?_
     | refine rg ?_
     | (refine Aq.call (Zb p _ (aI.mono (Aa.le_add _ _)) hb hp.ord r bj) ?_; try refine nx ?_)
     | exact ⟨⟩
     | fail
   refine EV.loopTo (fun x : Nat => ([(0, .slice (some ⟨pb, po, none⟩) p.length c), (3, pv xb 0), (5, Bg rb p.length p.length), (6, vi r), (7, vu (Ed p e r)), (9, vu (I0 p r)), (15, vi p.length), (16, vi r), (70, vi p.length), (71, vi x)], M2, [(xb, Cl 45 [.slice (some ⟨fb, fo, none⟩) e.frm.length fc, .slice da e.dn.length dc, o, n]), (rb, Cl 144 ((Il q (Ed p e r) (I0 p r) x).map vu))]))
    (fun x => x ≤ p.length) (fun x => p.length - x) 0 rfl (Nat.zero_le _) ?env3 (List.Sublist.refl _) ?_
   case env3 =>
    exact eE
   intro x gN ih
   dsimp only at gN ih ⊢
   have fh := orAll_ok (set := Ed p e r) ae he x
   by_cases dh : x < p.length
   ·have uW : (x : Int) < p.length := by omega
    have ih4 := ih (x + 1) (by omega) (by omega)
    rw [show Il q (Ed p e r) (I0 p r) (x + 1) = if (Ed p e r).testBit x then orR (Il q (Ed p e r) (I0 p r) x) x (I0 p r) else Il q (Ed p e r) (I0 p r) x from rfl] at ih4
    generalize Il q (Ed p e r) (I0 p r) x = q2 at *
    generalize Ed p e r = uX at *
    generalize I0 p r = ee2 at *
    obtain ⟨cg, ea⟩ := fh.get dh
    have cR := fh.at hb x
    simp only [orR, ea] at ih4 cR
    have jn := fh.len
    have an := Za (b := x) (Xb hh hb) (by omega)
    have ai := Ph cR (Xb he hb)
    have di : ¬ ((x : Int) < 0) := by omega
    clear ih ih3
    repeat' first
      | refine EV.seq ?_
      | refine EV.skip ?_
      | refine EV.block ?_
      | refine EV.inBlock ?_
      | (refine EV.reg ?_; (conv => (arg 2; whnf)); (repeat first | refine nx ?_ | simp only [an, ai, di, Ar, dh, List.length_map, jn]))
      | (refine Exists.intro _ (And.intro (Ca (f := vu) cg) ?_); (repeat first | refine nx ?_ | simp only [an, ai, di, Ar, dh, List.length_map, jn]))
      | (refine cX (fun h => ?_) (fun h => ?_) <;> try exact Ah h)
      | (refine And.intro (by omega) ?_)
      | (refine xw ?_; (repeat first | refine nx ?_ | simp only [an, ai, di, Ar, dh, List.length_map, jn]))
      | fail
    ·rw [if_pos (by assumption)] at ih4
     refine EV.toS ih4 ?_
     exact eE
    ·rw [if_neg (by simp_all)] at ih4
     refine EV.toS ih4 ?_
     exact eE
   ·have hZ : x = p.length := by omega
    subst hZ
    repeat' first
      | refine EV.seq ?_
      | refine EV.inBlock ?_
      | refine rg ?_
      | (refine cX (fun h => ?_) (fun h => ?_) <;> try exact Ah h)
      | (refine EV.exit rfl ?_)
      | exact ⟨⟩
      | fail
    refine EV.toS ih3 ?_
    exact eE
 ·have hZ : r = p.length := by omega
  subst hZ
  have ae := befGo_ok hx p.length (Nat.le_refl _)
  refine Con.callK (Ke ae hb) (Aa.le_add _ _) ?_
  rintro v M' G' ⟨rfl, rfl⟩
  (refine nx ?_; try with_reducible exact ⟨⟩)
  repeat' first
    | fail
  refine EV.toS (ρ' := [(4, Bg rb p.length p.length)]) (G' := [(rb, Cl 144 ((Ch (Hn p e p.length)).map vu))]) ?_ ?env4
  case env4 =>
   exact eE
  (refine rt Q10_ok ?_; try with_reducible exact ⟨⟩)
  exact ⟨rb, rfl, rfl⟩
end
end Go.EV

namespace Go.EV
open Go.Proofs
def Ad (l : List Int) (i : Nat) : Int := l[i]?.getD 0
def Ab0 (q : Rel) (l : List Int) (i : Nat) : Nat → Rel
 | 0 => q
 | j + 1 => Lv (Ab0 q l i j) (Ad l i).toNat (Ad l (i + 1 + j)).toNat
def Zc (q : Rel) (l : List Int) : Nat → Rel
 | 0 => q
 | i + 1 => Ab0 (Zc q l i) l i (l.length - (i + 1))
def X5 (q : Rel) (ord : List (List Int)) : Nat → Rel
 | 0 => q
 | k + 1 => Zc (X5 q ord k) (ord[k]?.getD []) (ord[k]?.getD []).length
def Qr (q : Rel) (r : Nat) (fr : Int) (l : List Int) : Nat → Rel × Bool
 | 0 => (q, decide (fr = -1))
 | i + 1 => (if (Qr q r fr l i).2 = true ∧ Ad l i ≠ r then Lv (Qr q r fr l i).1 r (Ad l i).toNat else (Qr q r fr l i).1, (Qr q r fr l i).2 || decide (Ad l i = fr))
def Kf (p : List Ev) (e : Exec) (r : Nat) : List Int := e.ord[(evAt p r).op.loc.toNat]?.getD []
def Mu (q : Rel) (e : Exec) (r : Nat) : Rel := if 0 ≤ Ae e r then Lv q (Ae e r).toNat r else q
def Ou (p : List Ev) (e : Exec) : Nat → Rel
 | 0 => X5 (List.replicate p.length 0) e.ord e.ord.length
 | r + 1 => if (evAt p r).reads = true then (Qr (Mu (Ou p e r) e r) r (Ae e r) (Kf p e r) (Kf p e r).length).1 else Ou p e r
def At5 (p : List Ev) (e : Exec) : Rel := Ch (Ou p e p.length)
theorem D5 {p : List Ev} {l : List Int} (h : Hm p l) {k : Nat} (hk : k < l.length) : 0 ≤ Ad l k ∧ Ad l k < p.length := h.at hk
theorem comC_ok {p : List Ev} {q : Rel} (hq : RelOk p.length q) {l : List Int} (hl : Hm p l) (i : Nat) : ∀ j, i + 1 + j ≤ l.length → RelOk p.length (Ab0 q l i j)
 | 0, _ => hq
 | j + 1, h => by
  have := D5 hl (k := i + 1 + j) (by omega)
  exact (comC_ok hq hl i j (by omega)).put _ (by omega)
theorem comB_ok {p : List Ev} {q : Rel} (hq : RelOk p.length q) {l : List Int} (hl : Hm p l) : ∀ i, i ≤ l.length → RelOk p.length (Zc q l i)
 | 0, _ => hq
 | i + 1, h => comC_ok (comB_ok hq hl i (by omega)) hl i _ (by omega)
theorem comA_ok {p : List Ev} {q : Rel} (hq : RelOk p.length q) {ord : List (List Int)} (ho : ∀ l ∈ ord, Hm p l ∧ l.length ≤ p.length) : ∀ k, k ≤ ord.length → RelOk p.length (X5 q ord k)
 | 0, _ => hq
 | k + 1, h => by
  have hk : k < ord.length := by omega
  have e : ord[k]?.getD [] = ord[k] := by rw [List.getElem?_eq_getElem hk]; rfl
  simp only [X5, e]
  exact comB_ok (comA_ok hq ho k (by omega)) (ho _ (List.getElem_mem hk)).1 _ (Nat.le_refl _)
theorem comE_ok {p : List Ev} {q : Rel} (hq : RelOk p.length q) {r : Nat} {fr : Int} {l : List Int} (hl : Hm p l) : ∀ i, i ≤ l.length → RelOk p.length (Qr q r fr l i).1
 | 0, _ => hq
 | i + 1, h => by
  have := D5 hl (k := i) (by omega)
  simp only [Qr]
  split
  ·exact (comE_ok hq hl i (by omega)).put _ (by omega)
  ·exact comE_ok hq hl i (by omega)
theorem comD1_ok {p : List Ev} {q : Rel} (hq : RelOk p.length q) {e : Exec} {r : Nat} (hr : r < p.length) : RelOk p.length (Mu q e r) := by
 simp only [Mu]; split
 ·exact hq.put _ hr
 ·exact hq
theorem Qs {p : List Ev} (hp : POk p) {e : Exec} (hx : XOk p e) {r : Nat} (hr : r < p.length) : ∃ h : (evAt p r).op.loc.toNat < e.ord.length, Kf p e r = e.ord[(evAt p r).op.loc.toNat] ∧ Hm p (Kf p e r) ∧ (Kf p e r).length ≤ p.length := by
 have := hp.loc r hr
 have hl : (evAt p r).op.loc.toNat < e.ord.length := by rw [hx.ol]; omega
 have e1 : Kf p e r = e.ord[(evAt p r).op.loc.toNat] := by simp only [Kf]; rw [List.getElem?_eq_getElem hl]; rfl
 have := hx.oin _ (List.getElem_mem hl)
 exact ⟨hl, e1, by rw [e1]; exact this.1, by rw [e1]; exact this.2⟩
theorem comD_ok {p : List Ev} (hp : POk p) {e : Exec} (hx : XOk p e) : ∀ r, r ≤ p.length → RelOk p.length (Ou p e r)
 | 0, _ => comA_ok (RelOk.zero _) hx.oin _ (Nat.le_refl _)
 | r + 1, h => by
  simp only [Ou]
  split
  ·exact comE_ok (comD1_ok (comD_ok hp hx r (by omega)) (by omega)) (Qs hp hx (by omega)).choose_spec.2.1 _ (Nat.le_refl _)
  ·exact comD_ok hp hx r (by omega)
theorem B6 {M : Aa} {wb wo : Nat} {l : List Int} (hat : ∀ i (hi : i < l.length), rd M wb (wo + i * 1) 1 (ei l[i])) (i : Nat) (hi : i < l.length) : rd M wb (wo + i) 1 [vi (Ad l i)] := by
 have := hat i hi
 rw [Nat.mul_one] at this
 simp only [Ad]
 rwa [List.getElem?_eq_getElem hi]
section
variable {M : Aa}
set_option maxHeartbeats 4000000 in
theorem Ad2 (p : List Ev) (s : Value) (hs : Sl M 6 A4 s p) (hp : POk p) (e : Exec) (v : Value) (hv : IsX M v e) (hx : XOk p e) :
  Con Tryz.prog 123 #[s, v] M [] fun v _ G' => ∃ b, v = Bg b p.length p.length ∧ G' = [(b, Cl 144 ((At5 p e).map vu))] := by
 have aI := hs
 have hb := hp.len
 obtain ⟨a, c, rfl, aH⟩ := hs
 obtain ⟨f, d, o, n, rfl, hf, hd, ho, hn⟩ := hv
 obtain ⟨fa, fc, rfl, bU⟩ := hf
 obtain ⟨oa, oc, ovs, rfl, bG, bJ, bu⟩ := ho
 have az := hx.fl
 have dX := hx.ol
 obtain ⟨ob, oo, rfl, bA⟩ := C7.at bJ bG bu (by omega)
 refine Con.enter Q12_ok (args := [.slice a p.length c, .agg #[.slice fa e.frm.length fc, d, .slice (some ⟨ob, oo, none⟩) e.ord.length oc, n]]) (by simp [Q12]) fun w0 => ?_
 simp only [Q12, A5]
 repeat' first
   | refine EV.seq ?_
   | refine rg ?_
   | (with_reducible intro b; try refine nx ?_)
   | exact ⟨⟩
   | fail
 rename Nat => xb
 refine Con.callB (G1 := []) (Jr _ p (aI.mono (Aa.le_add _ _)) hb) (Aa.le_refl _) (List.Perm.refl _) ?_
 rintro v M' G' ⟨rb, rfl, rfl⟩
 (refine nx ?_; try with_reducible exact ⟨⟩)
 repeat' first
   | refine EV.seq ?_
   | refine EV.block ?_
   | refine rg ?_
   | (refine xsA rfl ?_; try refine nx ?_)
   | exact ⟨⟩
   | fail
 refine EV.loopTo (fun k : Nat => ([(0, .slice a p.length c), (3, pv xb 0), (5, Bg rb p.length p.length), (20, .slice (some ⟨ob, oo, none⟩) e.ord.length oc), (21, vi e.ord.length), (22, vi k)], M,
   [(xb, Cl 45 [.slice fa e.frm.length fc, d, .slice (some ⟨ob, oo, none⟩) e.ord.length oc, n]), (rb, Cl 144 ((X5 (List.replicate p.length 0) e.ord k).map vu))]))
  (fun k => k ≤ e.ord.length) (fun k => e.ord.length - k) 0 rfl (Nat.zero_le _) ?env1 (List.Sublist.refl _) ?_
 case env1 =>
  exact eE
 intro k hk ih
 dsimp only at hk ih ⊢
 repeat' first
   | refine EV.seq ?_
   | refine EV.skip ?_
   | refine EV.block ?_
   | refine rg ?_
   | (refine cX (fun h => ?_) (fun h => ?_) <;> try exact Ah h)
   | (refine EV.exit rfl ?_)
   | (refine And.intro (by omega) ?_)
   | (refine xsA rfl ?_; try refine nx ?_)
   | exact ⟨⟩
   | fail
 ·have a8 : k < e.ord.length := by omega
  obtain ⟨la, lc, aW, cE, aS⟩ := bA k a8
  rw [Nat.mul_one] at aW
  obtain ⟨hin, jj⟩ := hx.oin _ (List.getElem_mem a8)
  have oL := comA_ok (RelOk.zero p.length) hx.oin k (by omega)
  have ih1 := ih (k + 1) (by omega) (by omega)
  have eo : e.ord[k]?.getD [] = e.ord[k] := by rw [List.getElem?_eq_getElem a8]; rfl
  simp only [X5, eo] at ih1
  generalize e.ord[k] = l at *
  generalize X5 (List.replicate p.length 0) e.ord k = q at *
  clear ih
  repeat' first
    | refine EV.seq ?_
    | refine EV.block ?_
    | refine rg ?_
    | (refine xn ?_; try refine nx ?_)
    | exact ⟨⟩
    | fail
  refine EV.loopTo (fun i : Nat => ([(0, .slice a p.length c), (3, pv xb 0), (5, Bg rb p.length p.length), (7, .slice la l.length lc), (20, .slice (some ⟨ob, oo, none⟩) e.ord.length oc), (21, vi e.ord.length), (22, vi k), (26, .slice la l.length lc), (27, vi l.length), (28, vi i)], M,
    [(xb, Cl 45 [.slice fa e.frm.length fc, d, .slice (some ⟨ob, oo, none⟩) e.ord.length oc, n]), (rb, Cl 144 ((Zc q l i).map vu))]))
   (fun i => i ≤ l.length) (fun i => l.length - i) 0 rfl (Nat.zero_le _) ?env2 (List.Sublist.refl _) ?_
  case env2 =>
   exact eE
  intro i hi ih
  dsimp only at hi ih ⊢
  repeat' first
    | refine EV.seq ?_
    | refine EV.skip ?_
    | refine EV.block ?_
    | refine EV.inBlock ?_
    | refine rg ?_
    | (refine cX (fun h => ?_) (fun h => ?_) <;> try exact Ah h)
    | (refine EV.exit rfl ?_)
    | exact ⟨⟩
    | fail
  ·have aA : i < l.length := by omega
   obtain ⟨wb, wo, rfl, ay⟩ := Sl.at (sz := 1) (enc := ei) (fun _ => rfl) (by decide) aS (by omega)
   have ay := B6 ay
   have js := ay i aA
   have eJ := D5 hin aA
   have fp := comB_ok oL hin i hi
   have ih2 := ih (i + 1) (by omega) (by omega)
   simp only [Zc] at ih2
   generalize Zc q l i = q2 at *
   clear ih
   have aq : IntKind.i64.wrap ((i : Int) + 1) = ((i + 1 : Nat) : Int) := w64 (by omega) (by omega)
   repeat' first
     | refine EV.seq ?_
     | (refine EV.reg ?_; (conv => (arg 2; whnf)); (repeat first | refine nx ?_ | simp only [aq]))
     | (refine And.intro (by omega) ?_)
     | (refine xm ?_; (repeat first | refine nx ?_ | simp only [aq]))
     | fail
   simp only [Option.map_some, Cb]
   refine ⟨i + 1, by simp, by omega, cE, Or.inr rfl, ?_⟩
   obtain ⟨ro, jt, ero⟩ := Qo (wb := wb) (wo := wo) (n := l.length) (c := lc) (i := i + 1) cE
   rw [ero]
   have uY : (((l.length - (i + 1) : Nat)) : Int) = ((l.length - (i + 1) : Nat) : Int) := rfl
   generalize hm : l.length - (i + 1) = m at *
   refine EV.block ?_
   refine EV.loopTo (fun j : Nat => ([(0, .slice a p.length c), (3, pv xb 0), (5, Bg rb p.length p.length), (7, .slice (some ⟨wb, wo, none⟩) l.length lc), (8, vi i), (9, vi (Ad l i)), (20, .slice (some ⟨ob, oo, none⟩) e.ord.length oc), (21, vi e.ord.length), (22, vi k), (26, .slice (some ⟨wb, wo, none⟩) l.length lc), (27, vi l.length), (28, vi i),
     (36, .slice (some ⟨wb, ro, none⟩) m (lc - (i + 1))), (37, vi m), (38, vi j)], M,
     [(xb, Cl 45 [.slice fa e.frm.length fc, d, .slice (some ⟨ob, oo, none⟩) e.ord.length oc, n]), (rb, Cl 144 ((Ab0 q2 l i j).map vu))]))
    (fun j => j ≤ m) (fun j => m - j) 0 rfl (Nat.zero_le _) ?env3 (List.Sublist.refl _) ?_
   case env3 =>
    exact eE
   intro j hj ih
   dsimp only at hj ih ⊢
   repeat' first
     | refine EV.seq ?_
     | refine EV.skip ?_
     | refine EV.block ?_
     | refine EV.inBlock ?_
     | refine rg ?_
     | (refine cX (fun h => ?_) (fun h => ?_) <;> try exact Ah h)
     | (refine EV.exit rfl ?_)
     | (refine And.intro (by omega) ?_)
     | exact ⟨⟩
     | fail
   ·have aM : j < m := by omega
    have ju := jt (by omega)
    subst ju
    have lY := ay (i + 1 + j) (by omega)
    rw [← Nat.add_assoc] at lY
    have l6 := D5 hin (k := i + 1 + j) (by omega)
    have iR := comC_ok fp hin i j (by omega)
    have ih3 := ih (j + 1) (by omega) (by omega)
    simp only [Ab0] at ih3
    clear ih
    repeat' first
      | refine rg ?_
      | (refine xm ?_; try refine nx ?_)
      | exact ⟨⟩
      | fail
    refine Con.callK (Fv iR hb eJ.1 eJ.2 l6.1 l6.2) (Aa.le_add _ _) ?_
    rintro v M'' G' rfl
    (refine nx ?_; try with_reducible exact ⟨⟩)
    repeat' first
      | refine EV.inBlock ?_
      | refine rg ?_
      | exact ⟨⟩
      | fail
    refine EV.toS ih3 ?_
    exact eE
   ·have kl : j = m := by omega
    subst kl
    refine EV.toS ih2 ?_
    exact eE
  ·have bM : i = l.length := by omega
   subst bM
   refine EV.toS ih1 ?_
   exact eE
 ·have dY : k = e.ord.length := by omega
  subst dY
  clear ih
  repeat' first
    | fail
  refine EV.loopTo (fun r : Nat => ([(0, .slice a p.length c), (3, pv xb 0), (5, Bg rb p.length p.length), (50, .slice fa e.frm.length fc), (51, vi e.frm.length), (52, vi r)], M,
    [(xb, Cl 45 [.slice fa e.frm.length fc, d, .slice (some ⟨ob, oo, none⟩) e.ord.length oc, n]), (rb, Cl 144 ((Ou p e r).map vu))]))
   (fun r => r ≤ e.frm.length) (fun r => e.frm.length - r) 0 rfl (Nat.zero_le _) ?env4 (List.Sublist.refl _) ?_
  case env4 =>
   exact eE
  intro r hr ih
  dsimp only at hr ih ⊢
  repeat' first
    | refine EV.seq ?_
    | refine EV.skip ?_
    | refine EV.block ?_
    | refine rg ?_
    | (refine cX (fun h => ?_) (fun h => ?_) <;> try exact Ah h)
    | (refine EV.exit rfl ?_)
    | exact ⟨⟩
    | fail
  ·have bj : r < p.length := by omega
   obtain ⟨pb, po, rfl, hat⟩ := Sl.at (enc := A4) (fun _ => rfl) (by decide) aH (by omega)
   obtain ⟨fb, fo, rfl, aL⟩ := Sl.at (sz := 1) (enc := ei) (fun _ => rfl) (by decide) bU (by omega)
   have am := Sl.evAt hat r bj
   have sU := am.pt 1 1 (by omega) rfl
   have dt : rd M fb (fo + r) 1 [vi (Ae e r)] := B6 aL r (by omega)
   obtain ⟨fm, hlo⟩ := hx.fr r bj
   obtain ⟨cE, eo, hin, jj⟩ := Qs hp hx bj
   have bX := hp.loc r bj
   obtain ⟨la, lc, aW, _, aS⟩ := bA _ cE
   rw [← eo] at aW aS
   rw [Nat.mul_one] at aW
   have rA : (evAt p r).op.loc < (e.ord.length : Int) := by omega
   have l7 := comD_ok hp hx r (by omega)
   have ih1 := ih (r + 1) (by omega) (by omega)
   simp only [Ou] at ih1
   have l8 := comD1_ok (e := e) l7 bj
   have rB : Mu (Ou p e r) e r = if 0 ≤ Ae e r then Lv (Ou p e r) (Ae e r).toNat r else Ou p e r := rfl
   generalize Ou p e r = q at *
   generalize Kf p e r = l at *
   change Ae e r < _ at fm
   clear ih hat aL eo
   cases hre : (evAt p r).reads with
   | false =>
    rw [if_neg (by rw [hre]; simp)] at ih1
    repeat' first
      | refine EV.seq ?_
      | (refine EV.reg ?_; (conv => (arg 2; whnf)); (repeat first | refine nx ?_ | simp only [hre]))
      | (refine Aq.call (By (evAt p r)) ?_; (repeat first | refine nx ?_ | simp only [hre]))
      | (refine cX (fun h => ?_) (fun h => ?_) <;> try exact Ah h)
      | (refine EV.exit rfl ?_)
      | (refine And.intro (by omega) ?_)
      | (refine xm ?_; (repeat first | refine nx ?_ | simp only [hre]))
      | fail
    refine EV.toS ih1 ?_
    exact eE
   | true =>
    rw [if_pos hre] at ih1
    repeat' first
      | (refine And.intro (by omega) ?_)
      | (refine xm ?_; try refine nx ?_)
      | exact ⟨⟩
      | fail
    refine EV.seq ?_
    refine EV.seq ?_
    repeat' first
      | refine EV.skip ?_
      | (refine EV.reg ?_; (conv => (arg 2; whnf)); (repeat first | refine nx ?_ | simp only [hre]))
      | (refine Aq.call (By (evAt p r)) ?_; (repeat first | refine nx ?_ | simp only [hre]))
      | (refine cX (fun h => ?_) (fun h => ?_) <;> try exact Ah h)
      | (refine And.intro (by omega) ?_)
      | (refine xm ?_; (repeat first | refine nx ?_ | simp only [hre]))
      | fail
    refine EV.seq (EV.thru (fun ρ' M' G' => M' = M ∧ (∀ q ∈ [(0, .slice (some ⟨pb, po, none⟩) p.length c), (3, pv xb 0), (5, Bg rb p.length p.length), (12, vi r), (13, vi (Ae e r)), (50, .slice (some ⟨fb, fo, none⟩) e.frm.length fc), (51, vi e.frm.length), (52, vi r)], get ρ' q.1 = some q.2) ∧
     G' = [(xb, Cl 45 [.slice (some ⟨fb, fo, none⟩) e.frm.length fc, d, .slice (some ⟨ob, oo, none⟩) e.ord.length oc, n]), (rb, Cl 144 ((Mu q e r).map vu))]) ?_ ?_)
    ·intro k' key
     clear ih1
     rw [rB] at key
     repeat' first
       | refine EV.seq ?_
       | refine EV.skip ?_
       | refine rg ?_
       | (refine cX (fun h => ?_) (fun h => ?_) <;> try exact Ah h)
       | exact ⟨⟩
       | fail
     ·refine Con.callK (Fv l7 hb (by omega) fm (by omega) (by omega)) (Aa.le_add _ _) ?_
      rintro v M'' G' rfl
      (refine nx ?_; try with_reducible exact ⟨⟩)
      repeat' first
        | fail
      rw [if_pos (by omega)] at key
      refine EV.reS (key _ _ _ ⟨rfl, ?_, rfl⟩)
      exact eE
     ·rw [if_neg (by omega)] at key
      refine EV.reS (key _ _ _ ⟨rfl, ?_, rfl⟩)
      exact eE
    rintro ρ2 M2 G2 ⟨rfl, hq, rfl⟩
    refine EV.to ?_ hq (List.Sublist.refl _)
    clear hq rB
    generalize Mu q e r = q1 at *
    repeat' first
      | refine EV.seq ?_
      | refine EV.block ?_
      | ((first | refine EV.reg ?_ | refine EV.any _ (List.Sublist.refl _) ?_ | fail); (conv => (arg 2; whnf)); refine nx ?_)
      | (refine And.intro (by omega) ?_)
      | ((first | refine xm ?_ | refine xn ?_ | refine xsA rfl ?_ | fail); try refine nx ?_)
      | exact ⟨⟩
      | fail
    refine EV.loopTo (fun i : Nat => ([(0, .slice (some ⟨pb, po, none⟩) p.length c), (3, pv xb 0), (5, Bg rb p.length p.length), (12, vi r), (13, vi (Ae e r)), (14, vb (Qr q1 r (Ae e r) l i).2), (50, .slice (some ⟨fb, fo, none⟩) e.frm.length fc), (51, vi e.frm.length), (52, vi r), (80, .slice la l.length lc), (81, vi l.length), (82, vi i)], M2,
      [(xb, Cl 45 [.slice (some ⟨fb, fo, none⟩) e.frm.length fc, d, .slice (some ⟨ob, oo, none⟩) e.ord.length oc, n]), (rb, Cl 144 ((Qr q1 r (Ae e r) l i).1.map vu))]))
     (fun i => i ≤ l.length) (fun i => l.length - i) 0 rfl (Nat.zero_le _) ?env5 (List.Sublist.refl _) ?_
    case env5 =>
     exact eE
    intro i hi ih
    dsimp only at hi ih ⊢
    repeat' first
      | refine EV.seq ?_
      | refine EV.skip ?_
      | refine EV.block ?_
      | refine EV.inBlock ?_
      | refine rg ?_
      | (refine cX (fun h => ?_) (fun h => ?_) <;> try exact Ah h)
      | (refine EV.exit rfl ?_)
      | exact ⟨⟩
      | fail
    ·have aA : i < l.length := by omega
     obtain ⟨wb, wo, rfl, ay⟩ := Sl.at (sz := 1) (enc := ei) (fun _ => rfl) (by decide) aS (by omega)
     have js := B6 ay i aA
     have eJ := D5 hin aA
     have l9 := comE_ok (r := r) (fr := Ae e r) l8 hin i hi
     have ih2 := ih (i + 1) (by omega) (by omega)
     simp only [Qr] at ih2
     generalize Qr q1 r (Ae e r) l i = qe at *
     obtain ⟨qe1, qe2⟩ := qe
     dsimp only at l9 ih2 ⊢
     clear ih ih1 ay
     repeat' first
       | refine EV.seq ?_
       | refine EV.skip ?_
       | refine EV.inBlock ?_
       | refine rg ?_
       | with_reducible assumption
       | (refine A0.merge ?_ (fun hc K' hK => ?_) ?_; rotate_left)
       | (refine cX (fun h => ?_) (fun h => ?_) <;> try exact Ah h)
       | (refine And.intro (by omega) ?_)
       | (refine xm ?_; try refine nx ?_)
       | exact ⟨⟩
       | fail
     ·refine Con.callK (Fv l9 hb (by omega) (by omega) eJ.1 eJ.2) (Aa.le_add _ _) ?_
      rintro v M'' G' rfl
      (refine nx ?_; try with_reducible exact ⟨⟩)
      rw [if_pos (by simp_all)] at ih2
      repeat' first
        | refine EV.inBlock ?_
        | refine rg ?_
        | with_reducible assumption
        | (refine A0.merge ?_ (fun hc K' hK => ?_) ?_; rotate_left)
        | exact ⟨⟩
        | fail
      refine EV.toS ih2 ?_
      exact eE
     ·rw [if_neg (by grind)] at ih2
      refine EV.toS ih2 ?_
      exact eE
    ·have bM : i = l.length := by omega
     subst bM
     refine EV.toS ih1 ?_
     exact eE
  ·have hre : r = e.frm.length := by omega
   subst hre
   have ae := comD_ok hp hx p.length (Nat.le_refl _)
   rw [az]
   refine Con.callK (Ke ae hb) (Aa.le_add _ _) ?_
   rintro v M' G' ⟨rfl, rfl⟩
   (refine nx ?_; try with_reducible exact ⟨⟩)
   repeat' first
     | fail
   refine EV.toS (ρ' := [(4, Bg rb p.length p.length)]) (G' := [(rb, Cl 144 ((Ch (Ou p e p.length)).map vu))]) ?_ ?env6
   case env6 =>
    exact eE
   (refine rt Q12_ok ?_; try with_reducible exact ⟨⟩)
   exact ⟨rb, rfl, rfl⟩
end
end Go.EV

namespace Go.EV
open Go.Proofs
def Dn (q : Rel) (e : Exec) : Nat → Rel
 | 0 => q
 | r + 1 => if 0 ≤ Ae e r then Lv (Dn q e r) (Ae e r).toNat r else Dn q e r
def Sd (p : List Ev) (e : Exec) : Rel := Ch (Dn (Hl p e.fen) e p.length)
def Mv (p : List Ev) (e : Exec) : Bool := (List.range p.length).any fun a => (List.range p.length).any fun b => A1 (Ek p e) a b && A1 (At5 p e) b a
def Fl (l : List Int) : Nat → Int
 | 0 => -1
 | i + 1 => Ad l i
def Qt (p : List Ev) (e : Exec) (l : List Int) (i : Nat) : Bool := (evAt p (Ad l i).toNat).reads && decide (Ae e (Ad l i).toNat ≠ Fl l i)
def Ci (p : List Ev) (e : Exec) (l : List Int) : Bool := (List.range l.length).any (Qt p e l)
def Cv (p : List Ev) (e : Exec) : Int :=
 if Bp (Sd p e) then 2 else if Bp (Ek p e) || Mv p e then 3 else if e.ord.any (Ci p e) then 4 else 0
theorem roundGo_ok {p : List Ev} {q : Rel} (hq : RelOk p.length q) {e : Exec} (hx : XOk p e) : ∀ r, r ≤ p.length → RelOk p.length (Dn q e r)
 | 0, _ => hq
 | r + 1, h => by
  simp only [Dn]
  split
  ·exact (roundGo_ok hq hx r (by omega)).put _ (by omega)
  ·exact roundGo_ok hq hx r (by omega)
theorem beforeP_ok {p : List Ev} {e : Exec} (hx : XOk p e) : RelOk p.length (Ek p e) := (befGo_ok hx _ (Nat.le_refl _)).close
theorem comP_ok {p : List Ev} (hp : POk p) {e : Exec} (hx : XOk p e) : RelOk p.length (At5 p e) := (comD_ok hp hx _ (Nat.le_refl _)).close
theorem Fd {M : Aa} {G : Own} {α : Type} {b n : Nat} {T : TypeId} {f : α → Value} {xs : List α} [h : At G b T (xs.map f)] (hn : xs.length = n) : rd (M.add G) b 0 n (xs.map f) :=
 Bv h.mem (by rw [List.drop_zero, List.take_of_length_le (by rw [List.length_map]; omega)]) (by rw [List.length_map]; omega)
theorem Fe {n : Nat} {f : Nat → Bool} (h : ∀ a, a < n → f a = false) : (List.range n).any f = false := by
 simp only [List.any_eq_false, List.mem_range]
 intro a ha; rw [h a ha]; simp
theorem Ey {n : Nat} {f : Nat → Bool} {a : Nat} (ha : a < n) (h : f a = true) : (List.range n).any f = true := by
 simp only [List.any_eq_true, List.mem_range]; exact ⟨a, ha, h⟩
section
variable {M : Aa}
set_option maxHeartbeats 4000000 in
theorem I1 (p : List Ev) (s : Value) (hs : Sl M 6 A4 s p) (hp : POk p) (e : Exec) (v : Value) (hv : IsX M v e) (hx : XOk p e) :
  Aq Tryz.prog 83 #[s, v] M (vi (Cv p e)) := by
 have aI := hs
 have aQ := hv
 have hb := hp.len
 obtain ⟨a, c, rfl, aH⟩ := hs
 obtain ⟨f, d, o, n, rfl, hf, hd, ho, hn⟩ := hv
 have gP := hn
 obtain ⟨fa, fc, rfl, bU⟩ := hf
 obtain ⟨oa, oc, ovs, rfl, bG, bJ, bu⟩ := ho
 have az := hx.fl
 have dX := hx.ol
 have bO := hx.fin.2
 obtain ⟨ob, oo, rfl, bA⟩ := C7.at bJ bG bu (by omega)
 refine Con.enter Q11_ok (args := [.slice a p.length c, .agg #[.slice fa e.frm.length fc, d, .slice (some ⟨ob, oo, none⟩) e.ord.length oc, n]]) (by simp [Q11]) fun w0 => ?_
 simp only [Q11, A5]
 repeat' first
   | refine EV.seq ?_
   | refine rg ?_
   | ((first | with_reducible intro b | refine xrA rfl ?_ | fail); try refine nx ?_)
   | exact ⟨⟩
   | fail
 rename Nat => xb
 refine Con.callB (G1 := []) (Pj p _ (aI.mono (Aa.le_add _ _)) hb _ _ _ _ e.fen (gP.mono (Aa.le_add _ _)) hx.fin.1 (by omega)) (Aa.le_refl _) (List.Perm.refl _) ?_
 rintro v M' G' ⟨rb, rfl, rfl⟩
 (refine nx ?_; try with_reducible exact ⟨⟩)
 repeat' first
   | refine EV.seq ?_
   | refine EV.block ?_
   | refine rg ?_
   | (refine xsA rfl ?_; try refine nx ?_)
   | exact ⟨⟩
   | fail
 refine EV.loopTo (fun r : Nat => ([(0, .slice a p.length c), (3, pv xb 0), (5, Bg rb p.length p.length), (21, .slice fa e.frm.length fc), (22, vi e.frm.length), (23, vi r)], M,
   [(xb, Cl 45 [.slice fa e.frm.length fc, d, .slice (some ⟨ob, oo, none⟩) e.ord.length oc, n]), (rb, Cl 144 ((Dn (Hl p e.fen) e r).map vu))]))
  (fun r => r ≤ e.frm.length) (fun r => e.frm.length - r) 0 rfl (Nat.zero_le _) ?env1 (List.Sublist.refl _) ?_
 case env1 =>
  exact eE
 intro r hr ih
 dsimp only at hr ih ⊢
 have iS := roundGo_ok (stepsP_ok hx.fin.1) hx r (by omega)
 repeat' first
   | refine EV.seq ?_
   | refine EV.skip ?_
   | refine EV.block ?_
   | refine rg ?_
   | (refine cX (fun h => ?_) (fun h => ?_) <;> try exact Ah h)
   | (refine EV.exit rfl ?_)
   | exact ⟨⟩
   | fail
 ·have bj : r < p.length := by omega
  obtain ⟨fb, fo, rfl, aL⟩ := Sl.at (sz := 1) (enc := ei) (fun _ => rfl) (by decide) bU (by omega)
  have dt : rd M fb (fo + r) 1 [vi (Ae e r)] := B6 aL r (by omega)
  obtain ⟨fm, hlo⟩ := hx.fr r bj
  change Ae e r < _ at fm
  have ih1 := ih (r + 1) (by omega) (by omega)
  simp only [Dn] at ih1
  generalize Dn (Hl p e.fen) e r = q at *
  clear ih aL
  repeat' first
    | refine EV.seq ?_
    | refine EV.skip ?_
    | refine EV.inBlock ?_
    | refine rg ?_
    | (refine cX (fun h => ?_) (fun h => ?_) <;> try exact Ah h)
    | (refine And.intro (by omega) ?_)
    | (refine xm ?_; try refine nx ?_)
    | exact ⟨⟩
    | fail
  ·refine Con.callK (Fv iS hb (by omega) fm (by omega) (by omega)) (Aa.le_add _ _) ?_
   rintro v M'' G' rfl
   (refine nx ?_; try with_reducible exact ⟨⟩)
   rw [if_pos (by omega)] at ih1
   repeat' first
     | refine EV.inBlock ?_
     | refine rg ?_
     | exact ⟨⟩
     | fail
   refine EV.toS ih1 ?_
   exact eE
  ·rw [if_neg (by omega)] at ih1
   refine EV.toS ih1 ?_
   exact eE
 ·have hre : r = p.length := by omega
  subst hre
  clear ih
  refine Con.callK (Ke iS hb) (Aa.le_add _ _) ?_
  rintro v M' G' ⟨rfl, rfl⟩
  (refine nx ?_; try with_reducible exact ⟨⟩)
  have jv : RelOk p.length (Sd p e) := iS.close
  rw [show Ch (Dn (Hl p e.fen) e p.length) = Sd p e from rfl]
  repeat' first
    | refine EV.seq ?_
    | refine EV.skip ?_
    | refine rg ?_
    | (refine Aq.call (Mp jv hb (Fd (f := vu) jv.len)) ?_; try refine nx ?_)
    | (refine cX (fun h => ?_) (fun h => ?_) <;> try exact Ah h)
    | exact ⟨⟩
    | fail
  ·(refine rt Q11_ok ?_; try with_reducible exact ⟨⟩)
   rw [Cv, if_pos (by assumption)]
  have dS : Cv p e = if Bp (Ek p e) || Mv p e then 3 else if e.ord.any (Ci p e) then 4 else 0 := by rw [Cv, if_neg (by simp_all)]
  rw [dS]
  refine EV.toS (ρ' := [(0, .slice a p.length c), (3, pv xb 0)]) (G' := [(xb, Cl 45 [.slice fa e.frm.length fc, d, .slice (some ⟨ob, oo, none⟩) e.ord.length oc, n])]) ?_ ?env2
  case env2 =>
   exact eE
  clear jv iS dS
  refine EV.any (t := Yy) _ (List.Sublist.refl _) ?_
  (repeat first | refine nx ?_ | simp only [Yy])
  repeat' first
    | (refine xrA rfl ?_; try refine nx ?_)
    | exact ⟨⟩
    | fail
  refine Con.callB (G1 := []) (Mt p _ (aI.mono (Aa.le_add _ _)) hp e _ (aQ.mono (Aa.le_add _ _)) hx) (Aa.le_refl _) (List.Perm.refl _) ?_
  rintro v M1 G1 ⟨nJ, rfl, rfl⟩
  (refine nx ?_; try with_reducible exact ⟨⟩)
  repeat' first
    | (refine And.intro (Aa.le_refl _) (And.intro (A8 ?_) ?_); focus ((repeat' first | exact List.Sublist.refl _ | exact List.nil_sublist _ | exact List.sublist_append_left _ _ | refine List.Sublist.cons_cons _ ?_ | refine List.Sublist.append_left ?_ _ | refine List.sublist_append_of_sublist_right ?_ | refine List.Sublist.cons _ ?_); done); try refine nx ?_)
    | exact ⟨⟩
    | fail
  refine Con.callB (G1 := []) (Ad2 p _ (aI.mono (Aa.le_add _ _)) hp e _ (aQ.mono (Aa.le_add _ _)) hx) (Aa.le_refl _) (List.Perm.refl _) ?_
  rintro v M2 G2 ⟨cb, rfl, rfl⟩
  (refine nx ?_; try with_reducible exact ⟨⟩)
  have fp := beforeP_ok hx
  have iR := comP_ok hp hx
  have fT : Mv p e = (List.range p.length).any fun a => (List.range p.length).any fun b => A1 (Ek p e) a b && A1 (At5 p e) b a := rfl
  generalize Ek p e = jG at *
  generalize At5 p e = coR at *
  repeat' first
    | refine EV.seq ?_
    | refine EV.skip ?_
    | refine EV.block ?_
    | refine rg ?_
    | (refine Aq.call (Mp fp hb (Fd (f := vu) fp.len)) ?_; try refine nx ?_)
    | (refine cX (fun h => ?_) (fun h => ?_) <;> try exact Ah h)
    | exact ⟨⟩
    | fail
  ·(refine rt Q11_ok ?_; try with_reducible exact ⟨⟩)
   rw [if_pos (by simp_all)]
  have km : Bp (jG) = false := by simp_all
  refine EV.loopTo (fun x : Nat => ([(0, .slice a p.length c), (3, pv xb 0), (8, Bg nJ p.length p.length), (9, Bg cb p.length p.length), (47, vi p.length), (48, vi x)], M,
    [(xb, Cl 45 [.slice fa e.frm.length fc, d, .slice (some ⟨ob, oo, none⟩) e.ord.length oc, n]), (nJ, Cl 144 ((jG).map vu)), (cb, Cl 144 ((coR).map vu))]))
   (fun x => x ≤ p.length ∧ ∀ x', x' < x → ((List.range p.length).any fun y => A1 (jG) x' y && A1 (coR) y x') = false) (fun x => p.length - x) 0 rfl ⟨Nat.zero_le _, fun _ h => absurd h (Nat.not_lt_zero _)⟩ ?env3 (List.Sublist.refl _) ?_
  case env3 =>
   exact eE
  rintro x ⟨di, aK⟩ ih
  dsimp only at di aK ih ⊢
  repeat' first
    | refine EV.seq ?_
    | refine EV.skip ?_
    | refine EV.block ?_
    | refine rg ?_
    | (refine cX (fun h => ?_) (fun h => ?_) <;> try exact Ah h)
    | (refine EV.exit rfl ?_)
    | (refine xsA rfl ?_; try refine nx ?_)
    | exact ⟨⟩
    | fail
  ·have dh : x < p.length := by omega
   refine EV.loopTo (fun y : Nat => ([(0, .slice a p.length c), (3, pv xb 0), (8, Bg nJ p.length p.length), (9, Bg cb p.length p.length), (10, vi x), (47, vi p.length), (48, vi x), (52, vi p.length), (53, vi y)], M,
     [(xb, Cl 45 [.slice fa e.frm.length fc, d, .slice (some ⟨ob, oo, none⟩) e.ord.length oc, n]), (nJ, Cl 144 ((jG).map vu)), (cb, Cl 144 ((coR).map vu))]))
    (fun y => y ≤ p.length ∧ ∀ y', y' < y → (A1 (jG) x y' && A1 (coR) y' x) = false) (fun y => p.length - y) 0 rfl ⟨Nat.zero_le _, fun _ h => absurd h (Nat.not_lt_zero _)⟩ ?env4 (List.Sublist.refl _) ?_
   case env4 =>
    exact eE
   rintro y ⟨h9, bc⟩ ih2
   dsimp only at h9 bc ih2 ⊢
   repeat' first
     | refine EV.seq ?_
     | refine EV.skip ?_
     | refine EV.block ?_
     | refine EV.inBlock ?_
     | refine rg ?_
     | (refine cX (fun h => ?_) (fun h => ?_) <;> try exact Ah h)
     | (refine EV.exit rfl ?_)
     | exact ⟨⟩
     | fail
   ·have nK : y < p.length := by omega
    obtain ⟨fB, eb1⟩ := fp.get dh
    obtain ⟨aO, ec1⟩ := iR.get nK
    have cR := fp.at hb x
    have oM := iR.at hb y
    have gf : (A1 (jG) x y && A1 (coR) y x) = ((jG)[x].testBit y && (coR)[y].testBit x) := by simp only [A1, eb1, ec1]
    rw [eb1] at cR
    rw [ec1] at oM
    have ih3 := ih2 (y + 1)
    clear ih ih2
    repeat' first
      | fail
    refine Aq.call (Js (j := y) (Ca (f := vu) fB) dh (by omega) (by omega) cR) ?_
    (refine nx ?_; try with_reducible exact ⟨⟩)
    have next : (jG[x].testBit y && coR[y].testBit x) = false → _ := fun sV => ih3 ⟨by omega, fun y' dj => by
     by_cases e1 : y' = y
     ·subst e1; rw [gf]; exact sV
     ·exact bc y' (by omega)⟩ (by omega)
    repeat' first
      | refine EV.seq ?_
      | refine EV.skip ?_
      | refine EV.inBlock ?_
      | refine rg ?_
      | (refine A0.intro (fun hc => ?_) (fun hc => ?_) <;> try simp only [ne_eq, Bool.not_true, Bool.not_false, not_true_eq_false, not_false_eq_true, reduceCtorEq] at hc <;> try (exfalso; first | exact hc | omega | (simp at hc; done)))
      | (refine cX (fun h => ?_) (fun h => ?_) <;> try exact Ah h)
      | exact ⟨⟩
      | fail
    all_goals try (exfalso; exact hc h; done)
    ·refine Aq.call (Js (j := x) (Ca (f := vu) aO) nK (by omega) (by omega) oM) ?_
     (refine nx ?_; try with_reducible exact ⟨⟩)
     repeat' first
       | refine EV.seq ?_
       | refine EV.skip ?_
       | refine EV.inBlock ?_
       | refine rg ?_
       | (refine cX (fun h => ?_) (fun h => ?_) <;> try exact Ah h)
       | exact ⟨⟩
       | fail
     ·(refine rt Q11_ok ?_; try with_reducible exact ⟨⟩)
      have oN : Mv p e = true := fT ▸ Ey dh (Ey nK (by rw [gf]; simp_all))
      rw [if_pos (by rw [oN]; simp)]
     ·refine EV.toS (next (by grind)) ?_
      exact eE
    ·refine EV.toS (next (by grind)) ?_
     exact eE
   ·refine EV.toS (ih (x + 1) ⟨by omega, fun x' cv => ?_⟩ (by omega)) ?_
    ·by_cases e1 : x' = x
     ·subst e1; exact Fe fun y' dj => bc y' (by omega)
     ·exact aK x' (by omega)
    ·exact eE
  ·have oN : Mv p e = false := fT ▸ Fe fun x' cv => aK x' (by omega)
   rw [km, oN]
   simp only [Bool.or_self, Bool.false_eq_true, if_false]
   clear ih
   refine EV.loopTo (fun k : Nat => ([(0, .slice a p.length c), (3, pv xb 0), (69, .slice (some ⟨ob, oo, none⟩) e.ord.length oc), (70, vi e.ord.length), (71, vi k)], M,
     [(xb, Cl 45 [.slice fa e.frm.length fc, d, .slice (some ⟨ob, oo, none⟩) e.ord.length oc, n])]))
    (fun k => k ≤ e.ord.length ∧ (e.ord.take k).any (Ci p e) = false) (fun k => e.ord.length - k) 0 rfl ⟨Nat.zero_le _, by simp⟩ ?env5 (by simp) ?_
   case env5 =>
    exact eE
   rintro k ⟨hk, aK⟩ ih
   dsimp only at hk aK ih ⊢
   repeat' first
     | refine EV.seq ?_
     | refine EV.skip ?_
     | refine EV.block ?_
     | refine rg ?_
     | (refine cX (fun h => ?_) (fun h => ?_) <;> try exact Ah h)
     | (refine EV.exit rfl ?_)
     | (refine And.intro (by omega) ?_)
     | exact ⟨⟩
     | fail
   ·have a8 : k < e.ord.length := by omega
    obtain ⟨la, lc, aW, cE, aS⟩ := bA k a8
    rw [Nat.mul_one] at aW
    obtain ⟨hin, jj⟩ := hx.oin _ (List.getElem_mem a8)
    have aJ := List.getElem_mem a8
    have rC : (e.ord.take (k + 1)).any (Ci p e) = Ci p e e.ord[k] := by
     rw [List.take_succ_eq_append_getElem a8, List.any_append, aK]; simp
    have ih1 := ih (k + 1)
    rw [rC] at ih1
    generalize e.ord[k] = l at *
    clear ih rC
    repeat' first
      | refine EV.seq ?_
      | refine EV.block ?_
      | refine rg ?_
      | (refine xn ?_; try refine nx ?_)
      | exact ⟨⟩
      | fail
    refine EV.loopTo (fun i : Nat => ([(0, .slice a p.length c), (3, pv xb 0), (13, .slice la l.length lc), (14, vi (Fl l i)), (69, .slice (some ⟨ob, oo, none⟩) e.ord.length oc), (70, vi e.ord.length), (71, vi k), (75, .slice la l.length lc), (76, vi l.length), (77, vi i)], M,
      [(xb, Cl 45 [.slice fa e.frm.length fc, d, .slice (some ⟨ob, oo, none⟩) e.ord.length oc, n])]))
     (fun i => i ≤ l.length ∧ ∀ i', i' < i → Qt p e l i' = false) (fun i => l.length - i) 0 rfl ⟨Nat.zero_le _, fun _ h => absurd h (Nat.not_lt_zero _)⟩ ?env6 (List.Sublist.refl _) ?_
    case env6 =>
     exact eE
    rintro i ⟨hi, bc⟩ ih2
    dsimp only at hi bc ih2 ⊢
    repeat' first
      | refine EV.seq ?_
      | refine EV.skip ?_
      | refine EV.block ?_
      | refine EV.inBlock ?_
      | refine rg ?_
      | (refine cX (fun h => ?_) (fun h => ?_) <;> try exact Ah h)
      | (refine EV.exit rfl ?_)
      | exact ⟨⟩
      | fail
    ·have aA : i < l.length := by omega
     obtain ⟨wb, wo, rfl, ay⟩ := Sl.at (sz := 1) (enc := ei) (fun _ => rfl) (by decide) aS (by omega)
     have js := B6 ay i aA
     have eJ := D5 hin aA
     obtain ⟨pb, po, rfl, hat⟩ := Sl.at (enc := A4) (fun _ => rfl) (by decide) aH (by omega)
     obtain ⟨fb, fo, rfl, aL⟩ := Sl.at (sz := 1) (enc := ei) (fun _ => rfl) (by decide) bU (by omega)
     have gd := Sl.evAt hat (Ad l i).toNat (by omega)
     have nH : rd M fb (fo + (Ad l i).toNat) 1 [vi (Ae e (Ad l i).toNat)] := B6 aL _ (by omega)
     have kp : Ad l i < (e.frm.length : Int) := by omega
     have nD : Qt p e l i = ((evAt p (Ad l i).toNat).reads && decide (Ae e (Ad l i).toNat ≠ Fl l i)) := rfl
     have ih3 := ih2 (i + 1)
     simp only [Fl] at ih3
     clear ih2 ay hat aL
     repeat' first
       | refine EV.seq ?_
       | refine EV.skip ?_
       | refine EV.inBlock ?_
       | refine rg ?_
       | (refine Aq.call (By (evAt p (Ad l i).toNat)) ?_; try refine nx ?_)
       | with_reducible assumption
       | (refine A0.merge ?_ (fun hc K' hK => ?_) ?_; rotate_left)
       | (refine cX (fun h => ?_) (fun h => ?_) <;> try exact Ah h)
       | (refine And.intro (by omega) ?_)
       | ((first | refine xm ?_ | refine xsA rfl ?_ | fail); try refine nx ?_)
       | exact ⟨⟩
       | fail
     ·(refine rt Q11_ok ?_; try with_reducible exact ⟨⟩)
      have iT : Ci p e l = true := Ey aA (by rw [nD]; simp_all)
      rw [if_pos (List.any_eq_true.2 ⟨l, aJ, iT⟩)]
     ·refine EV.toS (ih3 ⟨by omega, fun i' bk => ?_⟩ (by omega)) ?_
      ·by_cases e1 : i' = i
       ·subst e1; rw [nD]; grind
       ·exact bc i' (by omega)
      ·exact eE
    ·refine EV.toS (ih1 ⟨by omega, Fe fun i' bk => bc i' (by omega)⟩ (by omega)) ?_
     exact eE
   ·have dY : k = e.ord.length := by omega
    subst dY
    rw [List.take_length] at aK
    (refine rt Q11_ok ?_; try with_reducible exact ⟨⟩)
    rw [aK]; rfl
end
end Go.EV

namespace Go.EV
open Go.Proofs
def Ho (p : List Ev) (e : Exec) (i : Nat) : Bool :=
 (decide ((evAt p i).op.kind = 3) && xor (e.dn[i]?.getD false) (decide ((An p e.frm).r[i]?.getD 0 = (evAt p i).op.v))) ||
 (decide ((evAt p i).op.kind = 4) && (e.dn[i]?.getD false) && decide ((An p e.frm).r[i]?.getD 0 ≠ (evAt p i).op.v))
def Dp (p : List Ev) (e : Exec) : Bool := !((List.range p.length).any (Ho p e)) && decide (Cv p e = 0)
section
variable {M : Aa}
set_option maxHeartbeats 4000000 in
theorem Qu (p : List Ev) (s : Value) (hs : Sl M 6 A4 s p) (hp : POk p) (e : Exec) (v : Value) (hv : IsX M v e) (hx : XOk p e) :
  Aq Tryz.prog 81 #[s, v] M (vb (Dp p e)) := by
 have aI := hs
 have aQ := hv
 have hb := hp.len
 obtain ⟨a, c, rfl, aH⟩ := hs
 obtain ⟨f, d, o, n, rfl, hf, hd, ho, hn⟩ := hv
 have eT := hf
 obtain ⟨da, dc, rfl, l5⟩ := hd
 have bI := hx.dl
 refine Con.enter Q35_ok (args := [.slice a p.length c, .agg #[f, .slice da e.dn.length dc, o, n]]) (by simp [Q35]) fun w0 => ?_
 simp only [Q35, A5]
 repeat' first
   | refine EV.seq ?_
   | refine rg ?_
   | ((first | with_reducible intro b | refine xrA rfl ?_ | fail); try refine nx ?_)
   | exact ⟨⟩
   | fail
 rename Nat => xb
 refine Con.callS (G1 := []) (Kd p _ aI (by omega) e.frm _ _ _ _ eT hx.fromOk) ?_
 rintro v M1 G1 ap ⟨rv, wv, kv, rfl, hr, -, -⟩
 obtain ⟨ra, rc, rfl, dm⟩ := hr
 have gb : (An p e.frm).r.length = p.length := (E2 p e.frm _).r
 (refine nx ?_; try with_reducible exact ⟨⟩)
 repeat' first
   | refine EV.seq ?_
   | refine EV.block ?_
   | refine rg ?_
   | exact ⟨⟩
   | fail
 refine EV.toS (ρ' := [(0, .slice a p.length c), (3, pv xb 0), (5, .slice ra (An p e.frm).r.length rc), (17, .slice a p.length c), (18, vi p.length), (19, vi (0 : Nat))]) (G' := [(xb, Cl 45 [f, .slice da e.dn.length dc, o, n])]) ?_ ?env0
 case env0 =>
  exact eE
 refine EV.loopTo (fun i : Nat => ([(0, .slice a p.length c), (3, pv xb 0), (5, .slice ra (An p e.frm).r.length rc), (17, .slice a p.length c), (18, vi p.length), (19, vi i)], M1, [(xb, Cl 45 [f, .slice da e.dn.length dc, o, n])]))
  (fun i => i ≤ p.length ∧ ∀ i', i' < i → Ho p e i' = false) (fun i => p.length - i) 0 rfl ⟨Nat.zero_le _, fun _ h => absurd h (Nat.not_lt_zero _)⟩ ?env1 (List.Sublist.refl _) ?_
 case env1 =>
  exact eE
 rintro i ⟨hi, aK⟩ ih
 dsimp only at hi aK ih ⊢
 repeat' first
   | refine EV.seq ?_
   | refine EV.skip ?_
   | refine EV.block ?_
   | refine rg ?_
   | (refine cX (fun h => ?_) (fun h => ?_) <;> try exact Ah h)
   | (refine EV.exit rfl ?_)
   | (refine xrA rfl ?_; try refine nx ?_)
   | exact ⟨⟩
   | fail
 ·have aA : i < p.length := by omega
  obtain ⟨pb, po, rfl, hat⟩ := Sl.at (enc := A4) (fun _ => rfl) (by decide) aH (by omega)
  obtain ⟨db, do', rfl, gg⟩ := Sl.at (sz := 1) (enc := eb) (fun _ => rfl) (by decide) l5 (by omega)
  obtain ⟨rb, ro, rfl, fq⟩ := Sl.at (sz := 1) (enc := ei) (fun _ => rfl) (by decide) dm (by omega)
  have eC := (Sl.evAt hat i aA).mono ap
  have ld : rd M1 db (do' + i) 1 [vb (e.dn[i]?.getD false)] := by
   have := (gg i (by omega)).mono ap
   rw [Nat.mul_one] at this
   rwa [List.getElem?_eq_getElem (by omega : i < e.dn.length)]
  have eX : rd M1 rb (ro + i) 1 [vi ((An p e.frm).r[i]?.getD 0)] := B6 fq i (by omega)
  have sW : (i : Int) < e.dn.length := by omega
  have rD : (i : Int) < (An p e.frm).r.length := by omega
  have nL : Ho p e i = ((decide ((evAt p i).op.kind = 3) && xor (e.dn[i]?.getD false) (decide ((An p e.frm).r[i]?.getD 0 = (evAt p i).op.v))) ||
   (decide ((evAt p i).op.kind = 4) && (e.dn[i]?.getD false) && decide ((An p e.frm).r[i]?.getD 0 ≠ (evAt p i).op.v))) := rfl
  have ih3 := ih (i + 1)
  have hpos : Ho p e i = true → Dp p e = false := fun h => by
   rw [Dp, Ey aA h]; rfl
  clear ih hat gg fq
  repeat' first
    | refine EV.seq ?_
    | refine EV.skip ?_
    | refine EV.inBlock ?_
    | ((first | refine EV.reg ?_ | refine EV.any _ (List.Sublist.refl _) ?_ | fail); (conv => (arg 2; whnf)); refine nx ?_)
    | (refine Qh.mk ?_ (fun hc => ?_) ?_; rotate_left; (try simp only [decide_eq_true_eq, decide_eq_false_iff_not, Bool.not_eq_true', Bool.not_eq_false', Bool.and_eq_true, Bool.or_eq_true, Bool.and_eq_false_iff, Bool.or_eq_false_iff] at hc))
    | (with_reducible rfl)
    | (refine cX (fun h => ?_) (fun h => ?_) <;> try exact Ah h)
    | (with_reducible intro b; try refine nx ?_)
    | (refine And.intro (by omega) ?_)
    | ((first | refine xm ?_ | refine xiA rfl ?_ | refine xsA rfl ?_ | fail); try refine nx ?_)
    | (refine xw ?_; refine nx ?_)
    | exact ⟨⟩
    | fail
  ·have hw : Ho p e i = true := by rw [nL]; simp_all
   (refine rt Q35_ok ?_; try with_reducible exact ⟨⟩)
   rw [hpos hw]
  ·have hw : Ho p e i = false := by rw [nL]; grind
   refine EV.toS (ih3 ⟨by omega, fun i' bk => ?_⟩ (by omega)) ?_
   ·by_cases e1 : i' = i
    ·subst e1; exact hw
    ·exact aK i' (by omega)
   ·exact eE
 ·have bM : i = p.length := by omega
  subst bM
  have sX : Dp p e = decide (Cv p e = 0) := by rw [Dp, Fe aK]; rfl
  repeat' first
    | (refine Aq.call (I1 p _ (aI.mono (Aa.le_trans ap (Aa.le_add _ _))) hp e _ (aQ.mono (Aa.le_trans ap (Aa.le_add _ _))) hx) ?_; try refine nx ?_)
    | exact ⟨⟩
    | fail
  (refine rt Q35_ok ?_; try with_reducible exact ⟨⟩)
  rw [sX]
end
end Go.EV

namespace Go.EV
open Go.Proofs
theorem V4 {H : Aa} {n : Nat} {cs : List Value} (h : rdS H 1 none n cs) : n = 0 ∧ cs = [] := by
 rcases h with ⟨h0, rfl⟩ | ⟨b, off, e, _⟩
 ·exact ⟨by omega, rfl⟩
 ·cases e
section
variable {M : Aa}
theorem Fw (xs : List Int) (s : Value) (hs : Sl M 1 ei s xs) (hb : xs.length < 1000000) : Con Tryz.prog 113 #[s] M [] (Ah7 xs) := by
 obtain ⟨a, c, rfl, aH⟩ := hs
 rw [Ax] at aH
 refine Con.enter Q105_ok (args := [.slice a xs.length c]) (by simp [Eo7]) fun w0 => ?_
 simp only [Eo7, A5]
 cases a with
 | none =>
  obtain ⟨h0, cy⟩ := V4 aH
  repeat' first
    | refine EV.seq ?_
    | (refine EV.reg ?_; (conv => (arg 2; whnf)); (repeat first | refine nx ?_ | simp only [Option.isNone_none]))
    | (refine cX (fun h => ?_) (fun h => ?_) <;> try exact Ah h)
    | fail
  (refine rt Q105_ok ?_; try with_reducible exact ⟨⟩)
  exact ⟨none, by rw [h0]; rfl, ⟨h0, cy⟩, rfl⟩
 | some ad =>
  repeat' first
    | refine EV.seq ?_
    | refine EV.skip ?_
    | (refine EV.reg ?_; (conv => (arg 2; whnf)); (repeat first | refine nx ?_ | simp only [Option.isNone_some]))
    | (refine cX (fun h => ?_) (fun h => ?_) <;> try exact Ah h)
    | (with_reducible intro b; (repeat first | refine nx ?_ | simp only [Option.isNone_some]))
    | fail
  refine ⟨xs.map vi, aH.mono (Aa.le_add _ _), Y6 xs, Or.inl ⟨some (b, 0, []), 0, rfl, [], ⟨rfl, rfl, Nat.le_refl _, by decide⟩, [], by simp [osg], ?_, ?_, ?_⟩⟩
  ·simp only [maxLen]; omega
  ·omega
  intro o' bS _
  (refine nx ?_; try with_reducible exact ⟨⟩)
  repeat' first
    | fail
  rw [Nat.zero_add] at bS
  rw [List.nil_append] at bS
  (refine rt Q105_ok ?_; try with_reducible exact ⟨⟩)
  exact ⟨o', rfl, bS, rfl⟩
def Ey4 (xs : List Bool) (v : Value) (_ : Aa) (G' : Own) : Prop := ∃ ov : Vec, v = osv ov xs.length ∧ E6 1 ov xs.length (xs.map vb) ∧ G' = osg 4 ov (xs.map vb)
theorem Us (xs : List Bool) (s : Value) (hs : Sl M 1 eb s xs) (hb : xs.length < 1000000) : Con Tryz.prog 124 #[s] M [] (Ey4 xs) := by
 obtain ⟨a, c, rfl, aH⟩ := hs
 rw [H8] at aH
 refine Con.enter Q104_ok (args := [.slice a xs.length c]) (by simp [Es3]) fun w0 => ?_
 simp only [Es3, A5]
 cases a with
 | none =>
  obtain ⟨h0, cy⟩ := V4 aH
  repeat' first
    | refine EV.seq ?_
    | (refine EV.reg ?_; (conv => (arg 2; whnf)); (repeat first | refine nx ?_ | simp only [Option.isNone_none]))
    | (refine cX (fun h => ?_) (fun h => ?_) <;> try exact Ah h)
    | fail
  (refine rt Q104_ok ?_; try with_reducible exact ⟨⟩)
  exact ⟨none, by rw [h0]; rfl, ⟨h0, cy⟩, rfl⟩
 | some ad =>
  repeat' first
    | refine EV.seq ?_
    | refine EV.skip ?_
    | (refine EV.reg ?_; (conv => (arg 2; whnf)); (repeat first | refine nx ?_ | simp only [Option.isNone_some]))
    | (refine cX (fun h => ?_) (fun h => ?_) <;> try exact Ah h)
    | (with_reducible intro b; (repeat first | refine nx ?_ | simp only [Option.isNone_some]))
    | fail
  refine ⟨xs.map vb, aH.mono (Aa.le_add _ _), Cr5 xs, Or.inl ⟨some (b, 0, []), 0, rfl, [], ⟨rfl, rfl, Nat.le_refl _, by decide⟩, [], by simp [osg], ?_, ?_, ?_⟩⟩
  ·simp only [maxLen]; omega
  ·omega
  intro o' bS _
  (refine nx ?_; try with_reducible exact ⟨⟩)
  repeat' first
    | fail
  rw [Nat.zero_add] at bS
  rw [List.nil_append] at bS
  (refine rt Q104_ok ?_; try with_reducible exact ⟨⟩)
  exact ⟨o', rfl, bS, rfl⟩
theorem Zd (a : Option Addr) (n c : Nat) (hc : n ≤ c) : Aq Tryz.prog 119 #[.slice a n c] M (.slice a n n) := by
 refine Con.enter Q103_ok (args := [.slice a n c]) (by simp [Eq2]) fun w0 => ?_
 simp only [Eq2, A5]
 repeat' first
   | refine EV.seq ?_
   | refine rg ?_
   | exact ⟨⟩
   | fail
 simp only [Option.map_some, Cb]
 refine ⟨n, rfl, n, rfl, Nat.le_refl _, hc, Or.inl rfl, ?_⟩
 have e : (if n = 0 then a else a.map fun x => x.add 0) = a := by
  split
  ·rfl
  ·cases a <;> simp [Addr.add]
 rw [e]
 (refine rt Q103_ok ?_; try with_reducible exact ⟨⟩)
def Fm (f : Int → Bool) (xs : List Int) : Int := if h : (xs.findIdx f) < xs.length then xs.findIdx f else -1
theorem Ov (xs : List Int) (s : Value) (hs : Sl M 1 ei s xs) (hb : xs.length < 1000000) (g : Nat) (caps : Array Value) (f : Int → Bool)
  (hf : ∀ M', M.le M' → ∀ x ∈ xs, Aq Tryz.prog g (#[vi x] ++ caps) M' (vb (f x))) : Aq Tryz.prog 140 #[s, .func (.func g) #[] caps] M (vi (Fm f xs)) := by
 obtain ⟨a, c, rfl, aH⟩ := hs
 refine Con.enter Q113_ok (args := [.slice a xs.length c, .func (.func g) #[] caps]) (by simp [Ew4]) fun w0 => ?_
 simp only [Ew4, A5]
 repeat' first
   | refine EV.seq ?_
   | refine EV.block ?_
   | refine rg ?_
   | exact ⟨⟩
   | fail
 refine EV.loopTo (fun i : Nat => ([(0, .slice a xs.length c), (1, .func (.func g) #[] caps), (7, vi xs.length), (8, vi i)], M, [])) (fun i => i ≤ xs.length ∧ ∀ j (h : j < xs.length), j < i → f xs[j] = false) (fun i => xs.length - i) 0 rfl ⟨Nat.zero_le _, fun j _ h => absurd h (Nat.not_lt_zero _)⟩ ?env1 (List.Sublist.refl _) ?_
 case env1 =>
  exact eE
 rintro i ⟨hi, aK⟩ ih
 dsimp only at hi aK ih ⊢
 repeat' first
   | refine EV.seq ?_
   | refine EV.skip ?_
   | refine EV.block ?_
   | refine rg ?_
   | (refine cX (fun h => ?_) (fun h => ?_) <;> try exact Ah h)
   | (refine EV.exit rfl ?_)
   | exact ⟨⟩
   | fail
 ·have aA : i < xs.length := by omega
  obtain ⟨wb, wo, rfl, hat⟩ := Sl.at (sz := 1) (enc := ei) (fun _ => rfl) (by decide) aH (by omega)
  have eX := hat i aA
  rw [Nat.mul_one] at eX
  repeat' first
    | refine EV.seq ?_
    | refine EV.skip ?_
    | refine EV.inBlock ?_
    | refine rg ?_
    | (refine Aq.call (hf _ (Aa.le_add _ _) xs[i] (List.getElem_mem aA)) ?_; try refine nx ?_)
    | (refine cX (fun h => ?_) (fun h => ?_) <;> try exact Ah h)
    | (refine And.intro (by omega) ?_)
    | (refine xm ?_; try refine nx ?_)
    | exact ⟨⟩
    | fail
  ·(refine rt Q113_ok ?_; try with_reducible exact ⟨⟩)
   have e : xs.findIdx f = i := by
    rw [List.findIdx_eq aA]
    exact ⟨by assumption, fun j hj => aK j (by omega) hj⟩
   rw [Fm, dif_pos (by omega), e]
  ·refine EV.to (ih (i + 1) ⟨by omega, fun j hj ar => ?_⟩ (by omega)) ?_ (List.Sublist.refl _)
   ·by_cases e : j = i
    ·subst e; assumption
    ·exact aK j hj (by omega)
   ·exact eE
 ·(refine rt Q113_ok ?_; try with_reducible exact ⟨⟩)
  have e : xs.findIdx f = xs.length := by
   rw [List.findIdx_eq_length]
   intro x hx
   obtain ⟨j, hj, rfl⟩ := List.getElem_of_mem hx
   exact aK j hj (by omega)
  rw [Fm, dif_neg (by omega)]
theorem Kg (xs : List Int) (s : Value) (hs : Sl M 1 ei s xs) (hb : xs.length < 1000000) (g : Nat) (caps : Array Value) (f : Int → Bool)
  (hf : ∀ M', M.le M' → ∀ x ∈ xs, Aq Tryz.prog g (#[vi x] ++ caps) M' (vb (f x))) : Aq Tryz.prog 117 #[s, .func (.func g) #[] caps] M (vb (xs.any f)) := by
 have aI := hs
 obtain ⟨a, c, rfl, aH⟩ := hs
 refine Con.enter Q110_ok (args := [.slice a xs.length c, .func (.func g) #[] caps]) (by simp [Ep9]) fun w0 => ?_
 simp only [Ep9, A5]
 repeat' first
   | refine EV.seq ?_
   | refine rg ?_
   | (refine Aq.call (Ov xs _ (aI.mono (Aa.le_add _ _)) hb g caps f (fun M' bR => hf M' (Aa.le_trans (Aa.le_add _ _) bR))) ?_; try refine nx ?_)
   | refine rt Q110_ok ?_
   | exact ⟨⟩
   | fail
 have e : decide (0 ≤ Fm f xs) = xs.any f := by
  rw [Bool.eq_iff_iff, decide_eq_true_iff, List.any_eq_true, Fm]
  constructor
  ·intro h
   split at h
   ·rename_i h2; exact List.findIdx_lt_length.1 h2
   ·omega
  ·intro h
   rw [dif_pos (List.findIdx_lt_length.2 h)]; omega
 first | rw [← e] | (rw [← e]; simp)
theorem Xc (xs : List Int) (s : Value) (hs : Sl M 1 ei s xs) (hb : xs.length < 1000000) (x : Int) : Aq Tryz.prog 114 #[s, vi x] M (vi (Fm (fun y => decide (x = y)) xs)) := by
 obtain ⟨a, c, rfl, aH⟩ := hs
 refine Con.enter Q114_ok (args := [.slice a xs.length c, vi x]) (by simp [Eo8]) fun w0 => ?_
 simp only [Eo8, A5]
 repeat' first
   | refine EV.seq ?_
   | refine EV.block ?_
   | refine rg ?_
   | exact ⟨⟩
   | fail
 refine EV.loopTo (fun i : Nat => ([(0, .slice a xs.length c), (1, vi x), (7, vi xs.length), (8, vi i)], M, [])) (fun i => i ≤ xs.length ∧ ∀ j (h : j < xs.length), j < i → decide (x = xs[j]) = false) (fun i => xs.length - i) 0 rfl ⟨Nat.zero_le _, fun j _ h => absurd h (Nat.not_lt_zero _)⟩ ?env1 (List.Sublist.refl _) ?_
 case env1 =>
  exact eE
 rintro i ⟨hi, aK⟩ ih
 dsimp only at hi aK ih ⊢
 repeat' first
   | refine EV.seq ?_
   | refine EV.skip ?_
   | refine EV.block ?_
   | refine rg ?_
   | (refine cX (fun h => ?_) (fun h => ?_) <;> try exact Ah h)
   | (refine EV.exit rfl ?_)
   | exact ⟨⟩
   | fail
 ·have aA : i < xs.length := by omega
  obtain ⟨wb, wo, rfl, hat⟩ := Sl.at (sz := 1) (enc := ei) (fun _ => rfl) (by decide) aH (by omega)
  have eX := hat i aA
  rw [Nat.mul_one] at eX
  repeat' first
    | refine EV.seq ?_
    | refine EV.skip ?_
    | refine EV.inBlock ?_
    | refine rg ?_
    | (refine cX (fun h => ?_) (fun h => ?_) <;> try exact Ah h)
    | (refine And.intro (by omega) ?_)
    | (refine xm ?_; try refine nx ?_)
    | exact ⟨⟩
    | fail
  ·(refine rt Q114_ok ?_; try with_reducible exact ⟨⟩)
   have e : xs.findIdx (fun y => decide (x = y)) = i := by
    rw [List.findIdx_eq aA]
    exact ⟨by simpa using by assumption, fun j hj => aK j (by omega) hj⟩
   rw [Fm, dif_pos (by omega), e]
  ·refine EV.to (ih (i + 1) ⟨by omega, fun j hj ar => ?_⟩ (by omega)) ?_ (List.Sublist.refl _)
   ·by_cases e : j = i
    ·subst e; simpa using by assumption
    ·exact aK j hj (by omega)
   ·exact eE
 ·(refine rt Q114_ok ?_; try with_reducible exact ⟨⟩)
  have e : xs.findIdx (fun y => decide (x = y)) = xs.length := by
   rw [List.findIdx_eq_length]
   intro y hy
   obtain ⟨j, hj, rfl⟩ := List.getElem_of_mem hy
   exact aK j hj (by omega)
  rw [Fm, dif_neg (by omega)]
theorem Ze (n : Nat) (hb : n < 1000000) : Con Tryz.prog 141 #[.slice none 0 0, vi n] M [] fun v _ G' => ∃ ov : Vec, v = osv ov 0 ∧ E6 1 ov 0 [] ∧ G' = osg 3 ov [] := by
 refine Con.enter Q112_ok (args := [.slice none 0 0, vi n]) (by simp [Ew5]) fun w0 => ?_
 simp only [Ew5, A5]
 have e0 : IntKind.i64.wrap ((n : Int) - IntKind.i64.wrap (0 - 0)) = n := by
  rw [show IntKind.i64.wrap (0 - 0) = 0 from by decide, Int.sub_zero]; exact w64 (by omega) (by omega)
 repeat' first
   | refine EV.seq ?_
   | refine EV.skip ?_
   | (refine EV.reg ?_; (conv => (arg 2; whnf)); (repeat first | refine nx ?_ | simp only [e0]))
   | (refine cX (fun h => ?_) (fun h => ?_) <;> try exact Ah h)
   | fail
 ·simp only [Option.map_some, Cb]
  refine ⟨0, rfl, Nat.le_refl _, Or.inl rfl, [], Or.inl ⟨by simp, rfl⟩, by omega, by omega, by simp only [maxLen]; omega, by omega, ?_⟩
  rintro b cap sp ⟨h1, h2, h3, h4⟩
  rw [List.nil_append] at h1 h2
  refine ⟨0, rfl, Nat.zero_le _, Or.inl rfl, ?_⟩
  have e : (if cap = 0 then some (⟨b, 0, none⟩ : Addr) else some ((⟨b, 0, none⟩ : Addr).add 0)) = some ⟨b, 0, none⟩ := by
   split
   ·rfl
   ·simp [Addr.add]
  rw [e]
  repeat' first
    | refine EV.seq ?_
    | refine rg ?_
    | exact ⟨⟩
    | fail
  (refine rt Q112_ok ?_; try with_reducible exact ⟨⟩)
  refine ⟨some (b, cap, (List.replicate n [vi 0]).flatten ++ sp), rfl, ⟨by simp, by simpa using h2, Nat.zero_le _, h4⟩, by simp [osg]⟩
 ·(refine rt Q112_ok ?_; try with_reducible exact ⟨⟩)
  exact ⟨none, rfl, ⟨rfl, rfl⟩, rfl⟩
theorem Ut (xss : List (List Int)) (s : Value) (hs : Em M 1 ei s xss) (hb : xss.flatten.length < 1000000) (dS : xss.length < 1000000) : Con Tryz.prog 120 #[s] M [] (Ah7 xss.flatten) := by
 obtain ⟨a, c, vs, rfl, hl, aH, hk⟩ := hs
 refine Con.enter Q109_ok (args := [.slice a xss.length c]) (by simp [Eq3]) fun w0 => ?_
 simp only [Eq3, A5]
 repeat' first
   | refine EV.seq ?_
   | refine EV.block ?_
   | refine rg ?_
   | exact ⟨⟩
   | fail
 refine EV.loopTo (fun i : Nat => ([(0, .slice a xss.length c), (3, vi (xss.take i).flatten.length), (9, .slice a xss.length c), (10, vi xss.length), (11, vi i)], M, [])) (fun i => i ≤ xss.length) (fun i => xss.length - i) 0 rfl (Nat.zero_le _) ?env1 (List.Sublist.refl _) ?_
 case env1 =>
  exact eE
 intro i hi ih
 dsimp only at hi ih ⊢
 repeat' first
   | refine EV.seq ?_
   | refine EV.skip ?_
   | refine EV.block ?_
   | refine rg ?_
   | (refine cX (fun h => ?_) (fun h => ?_) <;> try exact Ah h)
   | (refine EV.exit rfl ?_)
   | exact ⟨⟩
   | fail
 ·have aA : i < xss.length := by omega
  obtain ⟨pb, po, rfl, hat⟩ := Em.at aH hl hk (by omega)
  obtain ⟨a', c', aW, aS⟩ := hat i aA
  rw [Nat.mul_one] at aW
  have e := Dl (ts := xss) aA
  have aj := Ce xss (i + 1)
  have hw : IntKind.i64.wrap (((xss.take i).flatten.length : Int) + (xss[i].length : Int)) = ((xss.take (i + 1)).flatten.length : Int) := by
   rw [e, List.length_append]; rw [e, List.length_append] at aj; exact (w64 (by omega) (by omega)).trans (by omega)
  have rE : ¬ (((xss.take (i + 1)).flatten.length : Int) < 0) := by omega
  have ih3 := ih (i + 1) (by omega) (by omega)
  clear ih
  repeat' first
    | refine EV.seq ?_
    | refine EV.skip ?_
    | refine EV.inBlock ?_
    | (refine EV.reg ?_; (conv => (arg 2; whnf)); (repeat first | refine nx ?_ | simp only [hw, rE]))
    | (refine cX (fun h => ?_) (fun h => ?_) <;> try exact Ah h)
    | (refine And.intro (by omega) ?_)
    | (refine xn ?_; (repeat first | refine nx ?_ | simp only [hw, rE]))
    | fail
  all_goals try (exfalso; omega)
  refine EV.to ih3 ?_ (List.Sublist.refl _)
  exact eE
 ·have bM : i = xss.length := by omega
  subst bM
  rw [List.take_length]
  clear ih
  repeat' first
    | fail
  refine Con.callB (G1 := []) (Ze xss.flatten.length hb) (Aa.le_refl _) (List.Perm.refl _) ?_
  rintro v M' G' ⟨ov0, rfl, iU, rfl⟩
  (refine nx ?_; try with_reducible exact ⟨⟩)
  repeat' first
    | refine EV.seq ?_
    | refine EV.block ?_
    | refine rg ?_
    | exact ⟨⟩
    | fail
  refine EV.loopTo (fun x : Nat × Vec => ([(6, osv x.2 (xss.take x.1).flatten.length), (25, .slice a xss.length c), (26, vi xss.length), (27, vi x.1)], M, osg 3 x.2 ((xss.take x.1).flatten.map vi))) (fun x => x.1 ≤ xss.length ∧ E6 1 x.2 (xss.take x.1).flatten.length ((xss.take x.1).flatten.map vi)) (fun x => xss.length - x.1) (0, ov0) rfl ⟨Nat.zero_le _, iU⟩ ?env2 (List.Sublist.refl _) ?_
  case env2 =>
   exact eE
  rintro ⟨i, ov⟩ ⟨hi, aP⟩ ih
  dsimp only at hi aP ih ⊢
  repeat' first
    | refine EV.seq ?_
    | refine EV.skip ?_
    | refine EV.block ?_
    | refine rg ?_
    | (refine cX (fun h => ?_) (fun h => ?_) <;> try exact Ah h)
    | (refine EV.exit rfl ?_)
    | exact ⟨⟩
    | fail
  ·have aA : i < xss.length := by omega
   obtain ⟨pb, po, rfl, hat⟩ := Em.at aH hl hk (by omega)
   obtain ⟨a', c', aW, aS⟩ := hat i aA
   rw [Nat.mul_one] at aW
   rw [Ax] at aS
   have e := Dl (ts := xss) aA
   have aj := Ce xss (i + 1)
   rw [e, List.length_append] at aj
   repeat' first
     | refine rg ?_
     | (refine And.intro (by omega) ?_)
     | (refine xn ?_; try refine nx ?_)
     | exact ⟨⟩
     | fail
   refine ⟨xss[i].map vi, Yt aS, Y6 _, Or.inl ⟨ov, _, rfl, _, aP, [], by simp, ?_, ?_, ?_⟩⟩
   ·simp only [maxLen]; omega
   ·omega
   intro o2 bD _
   (refine nx ?_; try with_reducible exact ⟨⟩)
   have ih3 := ih (i + 1, o2) ⟨by dsimp only; omega, by rw [e, List.length_append, List.map_append]; exact bD⟩ (by dsimp only; omega)
   dsimp only at ih3
   rw [e, List.length_append, List.map_append] at ih3
   repeat' first
     | refine EV.inBlock ?_
     | refine rg ?_
     | exact ⟨⟩
     | fail
   refine EV.to ih3 ?_ eS
   exact eE
  ·have bM : i = xss.length := by omega
   subst bM
   rw [List.take_length] at aP ⊢
   (refine rt Q109_ok ?_; try with_reducible exact ⟨⟩)
   exact ⟨ov, rfl, aP, rfl⟩
theorem Pl (xs ys : List Int) (s t : Value) (hs : Sl M 1 ei s xs) (ht : Sl M 1 ei t ys) (hb : xs.length < 1000000) (dS : ys.length < 1000000) : Aq Tryz.prog 41 #[s, t] M (vb (decide (xs = ys))) := by
 obtain ⟨a, c, rfl, aH⟩ := hs
 obtain ⟨a2, c2, rfl, dD⟩ := ht
 refine Con.enter Q111_ok (args := [.slice a xs.length c, .slice a2 ys.length c2]) (by simp [Be8]) fun w0 => ?_
 simp only [Be8, A5]
 repeat' first
   | refine EV.seq ?_
   | refine EV.skip ?_
   | refine EV.block ?_
   | refine rg ?_
   | (refine cX (fun h => ?_) (fun h => ?_) <;> try exact Ah h)
   | exact ⟨⟩
   | fail
 ·(refine rt Q111_ok ?_; try with_reducible exact ⟨⟩)
  rw [decide_eq_false (by rintro rfl; simp_all)]
 have aG : xs.length = ys.length := by omega
 refine EV.loopTo (fun i : Nat => ([(0, .slice a xs.length c), (1, .slice a2 ys.length c2), (12, vi xs.length), (13, vi i)], M, [])) (fun i => i ≤ xs.length ∧ xs.take i = ys.take i) (fun i => xs.length - i) 0 rfl ⟨Nat.zero_le _, rfl⟩ ?env1 (List.Sublist.refl _) ?_
 case env1 =>
  exact eE
 rintro i ⟨hi, aa⟩ ih
 dsimp only at hi aa ih ⊢
 repeat' first
   | refine EV.seq ?_
   | refine EV.skip ?_
   | refine EV.block ?_
   | ((first | refine EV.reg ?_ | refine EV.any _ (List.Sublist.refl _) ?_ | fail); (conv => (arg 2; whnf)); refine nx ?_)
   | (refine cX (fun h => ?_) (fun h => ?_) <;> try exact Ah h)
   | (refine EV.exit rfl ?_)
   | exact ⟨⟩
   | fail
 ·have aA : i < xs.length := by omega
  have bk : i < ys.length := by omega
  obtain ⟨wb, wo, rfl, hat⟩ := Sl.at (sz := 1) (enc := ei) (fun _ => rfl) (by decide) aH (by omega)
  obtain ⟨wb2, wo2, rfl, aL⟩ := Sl.at (sz := 1) (enc := ei) (fun _ => rfl) (by decide) dD (by omega)
  have eX := hat i aA
  have ez := aL i bk
  rw [Nat.mul_one] at eX ez
  have ga : (i : Int) < (ys.length : Int) := by omega
  repeat' first
    | refine EV.seq ?_
    | refine EV.skip ?_
    | refine EV.inBlock ?_
    | refine rg ?_
    | (refine cX (fun h => ?_) (fun h => ?_) <;> try exact Ah h)
    | (refine And.intro (by omega) ?_)
    | (refine xm ?_; try refine nx ?_)
    | exact ⟨⟩
    | fail
  ·(refine rt Q111_ok ?_; try with_reducible exact ⟨⟩)
   rw [decide_eq_false (by rintro rfl; simp_all)]
  ·refine EV.to (ih (i + 1) ⟨by omega, ?_⟩ (by omega)) ?_ (List.Sublist.refl _)
   ·rw [List.take_succ_eq_append_getElem aA, List.take_succ_eq_append_getElem bk, aa]; simp_all
   ·exact eE
 ·have bM : i = xs.length := by omega
  subst bM
  rw [List.take_length] at aa
  (refine rt Q111_ok ?_; try with_reducible exact ⟨⟩)
  rw [decide_eq_true (by rw [aa, aG, List.take_length])]
end
end Go.EV

namespace Go.EV
open Go.Proofs
def thI (p : List Ev) (x : Int) : Int := (evAt p x.toNat).th
def Fb (p : List Ev) (l : List Int) (i : Nat) : Bool := (l.take i).any fun x => decide (thI p x = thI p (Ad l i))
def Cj (p : List Ev) : Nat → List Int → List (List Int)
 | 0, _ => [[]]
 | n + 1, l => (List.range (n + 1)).flatMap fun i => if Fb p l i then [] else (Cj p n (l.eraseIdx i)).map (Ad l i :: ·)
def C2 (p : List Ev) (l : List Int) : List (List Int) := Cj p l.length l
section
variable {M : Aa}
theorem Ow (p : List Ev) {pb po pc b1 b2 : Nat} {y : Int} (h1 : rd M b1 0 1 [.slice (some ⟨pb, po, none⟩) p.length pc]) (h2 : rd M b2 0 1 [vi y]) (hat : ∀ i, i < p.length → rd M pb (po + i * 6) 6 (A4 (evAt p i)))
  (x : Int) (hx : 0 ≤ x ∧ x < p.length) (hy : 0 ≤ y ∧ y < p.length) : Aq Tryz.prog 118 #[vi x, pv b1 0, pv b2 0] M (vb (decide (thI p x = thI p y))) := by
 have bP := (hat x.toNat (by omega)).pt 5 1 (by omega) rfl
 have cU := (hat y.toNat (by omega)).pt 5 1 (by omega) rfl
 refine Con.enter Q30_ok (args := [vi x, pv b1 0, pv b2 0]) (by simp [Q30]) fun w0 => ?_
 simp only [Q30, A5]
 repeat' first
   | refine EV.seq ?_
   | ((first | refine EV.reg ?_ | refine EV.any _ (List.Sublist.refl _) ?_ | fail); (conv => (arg 2; whnf)); refine nx ?_)
   | refine rt Q30_ok ?_
   | (refine And.intro (by omega) ?_)
   | ((first | refine xm ?_ | refine xn ?_ | fail); try refine nx ?_)
   | exact ⟨⟩
   | fail
 all_goals rfl
theorem Hp {G : Own} {T : TypeId} {ov : Vec} {n : Nat} {xs : List Int} (ae : E6 1 ov n (xs.map vi)) (hn : n = xs.length) (hG : ∀ q ∈ osg T ov (xs.map vi), q ∈ G) : SlC (M.add G) 1 ei (osv ov n) xs := by
 subst hn
 refine ⟨oad ov, L6 ov, rfl, ?_, ?_⟩
 ·cases ov with
  | none => exact Nat.le_of_eq ae.1
  | some q => exact ae.2.2.1
 ·rw [Ax]; exact D9 ae hG
structure WalkB (p : List Ev) (M : Aa) (l yb pb wb : Nat) (ea : Option Addr) (ec : Nat) : Prop where
 hy : rd M yb 0 1 [yv l]
 hp : rd M pb 0 1 [.slice ea p.length ec]
 hw : rd M wb 0 1 [.func (.func 116) #[] #[pv yb 0, pv pb 0, pv wb 0]]
 hat : 0 < p.length → ∃ eb eo, ea = some ⟨eb, eo, none⟩ ∧ ∀ i, i < p.length → rd M eb (eo + i * 6) 6 (A4 (evAt p i))
theorem WalkB.mono {p : List Ev} {M M' : Aa} {l yb pb wb : Nat} {ea : Option Addr} {ec : Nat} (h : WalkB p M l yb pb wb ea ec) (hM : M.le M') : WalkB p M' l yb pb wb ea ec :=
 ⟨h.hy.mono hM, h.hp.mono hM, h.hw.mono hM, fun h0 => let ⟨eb, eo, e, k⟩ := h.hat h0; ⟨eb, eo, e, fun i hi => (k i hi).mono hM⟩⟩
set_option maxHeartbeats 4000000 in
theorem Zf (p : List Ev) (ax : p.length < 1000000) {l yb pb wb : Nat} {ea : Option Addr} {ec : Nat} {L : List (List Int)} {I : List (List Int) → Aa → Own → Prop} {S : Aa → Own → Prop} {M0 : Aa}
  (aF : ∀ xs M2 M3 G2, M2.le M3 → I xs M2 G2 → I xs M3 G2)
  (hy : ∀ xs x, x ∈ L → ∀ M2 G2 v, M0.le M2 → I xs M2 G2 → SlC M2 1 ei v x → Ky Tryz.prog l #[v] M2 G2 fun b M3 G3 => (b = .bool true ∧ I (xs ++ [x]) M3 G3) ∨ (b = .bool false ∧ S M3 G3)) :
  ∀ (n : Nat) (left out : List Int) (xs : List (List Int)) (M : Aa) (G : Own) (ov lv : Value), left.length = n → out.length + n < 1000000 → M0.le M → WalkB p M l yb pb wb ea ec → Hm p left → SlC M 1 ei ov out → SlC M 1 ei lv left →
   (∀ m ∈ Cj p n left, out ++ m ∈ L) → I xs M G →
   Con Tryz.prog 116 #[ov, lv, pv yb 0, pv pb 0, pv wb 0] M G fun v M' G' => (v = .bool true ∧ I (xs ++ (Cj p n left).map (out ++ ·)) M' G') ∨ (v = .bool false ∧ S M' G') := by
 intro n
 induction n with
 | zero =>
  intro left out xs M G ov lv hn bG hM hw hin aP fj hL hI
  have iU := aP
  obtain ⟨oa, oc, rfl, kd, ai⟩ := aP
  obtain ⟨la, lc, rfl, cE, bY⟩ := fj
  have sY := hw.hy
  refine Con.enter Q29_ok (args := [.slice oa out.length oc, .slice la left.length lc, pv yb 0, pv pb 0, pv wb 0]) (by simp [Q29]) fun w0 => ?_
  simp only [Q29, A5]
  repeat' first
    | refine EV.seq ?_
    | (refine EV.reg ?_; (conv => (arg 2; whnf)); (repeat first | refine nx ?_ | simp only [hn]))
    | (refine cX (fun h => ?_) (fun h => ?_) <;> try exact Ah h)
    | fail
  refine EV.any (t := Ar3) [] (List.nil_sublist _) ?_
  (repeat first | refine nx ?_ | simp only [Ar3])
  refine ⟨_, sY.mono (Aa.le_add _ _), ?_⟩
  refine Con.callS (G1 := []) (Fw out _ iU.sl (by omega)) ?_
  rintro v1 M1 G1 ap ⟨o1, rfl, bF, rfl⟩
  (refine nx ?_; try with_reducible exact ⟨⟩)
  refine ⟨ap, fun q hq => absurd hq List.not_mem_nil, ?_⟩
  refine E7.keep G ?_
  have aJ : out ∈ L := by have := hL [] (by simp [Cj]); simpa using this
  have bK : SlC (M1.add (osg 3 o1 (out.map vi))) 1 ei (osv o1 out.length) out := by
   refine ⟨oad o1, L6 o1, rfl, ?_, ?_⟩
   ·cases o1 with
    | none => exact Nat.le_of_eq bF.1
    | some q => exact bF.2.2.1
   ·rw [Ax]; exact D9 bF (fun q hq => by simpa using hq)
  refine Ky.run (hy xs out aJ _ G _ (Aa.le_trans hM (Aa.le_trans ap (Aa.le_add _ _))) (aF _ _ _ _ (Aa.le_trans ap (Aa.le_add _ _)) hI) (by simpa using bK)) ?_
  rintro b M2 G2 bE hb
  (refine rt Q29_ok ?_; try with_reducible exact ⟨⟩)
  simpa [Cj] using hb
 | succ n ihn =>
  intro left out xs M G ov lv hn bG hM hw hin aP fj hL hI
  have iU := aP
  have sZ := fj
  obtain ⟨oa, oc, rfl, kd, ai⟩ := aP
  obtain ⟨la, lc, rfl, cE, bY⟩ := fj
  obtain ⟨wb1, wo1, rfl, ay⟩ := Sl.at (sz := 1) (enc := ei) (fun _ => rfl) (by decide) bY (by omega)
  have ay := B6 ay
  refine Con.enter Q29_ok (args := [.slice oa out.length oc, .slice (some ⟨wb1, wo1, none⟩) left.length lc, pv yb 0, pv pb 0, pv wb 0]) (by simp [Q29]) fun w0 => ?_
  simp only [Q29, A5]
  have hne : decide ((left.length : Int) = 0) = false := decide_eq_false (by omega)
  repeat' first
    | refine EV.seq ?_
    | refine EV.skip ?_
    | refine EV.block ?_
    | (refine EV.reg ?_; (conv => (arg 2; whnf)); (repeat first | refine nx ?_ | simp only [hne]))
    | (refine cX (fun h => ?_) (fun h => ?_) <;> try exact Ah h)
    | fail
  refine EV.loopTo (fun x : Nat × Aa × Own => ([(0, .slice oa out.length oc), (1, .slice (some ⟨wb1, wo1, none⟩) left.length lc), (2, pv yb 0), (3, pv pb 0), (4, pv wb 0), (18, .slice (some ⟨wb1, wo1, none⟩) left.length lc), (19, vi left.length), (20, vi x.1)], x.2.1, x.2.2))
   (fun x => x.1 ≤ left.length ∧ M.le x.2.1 ∧ I (xs ++ ((List.range x.1).flatMap fun i => if Fb p left i then [] else (Cj p n (left.eraseIdx i)).map (Ad left i :: ·)).map (out ++ ·)) x.2.1 x.2.2) (fun x => left.length - x.1) (0, M, G) rfl ⟨Nat.zero_le _, Aa.le_refl _, by simpa using hI⟩ ?env1 (List.Sublist.refl _) ?_
  case env1 =>
   exact eE
  rintro ⟨i, Mi, Gi⟩ ⟨hi, bN, gL⟩ ih
  dsimp only at hi bN gL ih ⊢
  repeat' first
    | refine EV.seq ?_
    | refine EV.skip ?_
    | refine EV.block ?_
    | refine rg ?_
    | (refine cX (fun h => ?_) (fun h => ?_) <;> try exact Ah h)
    | (refine EV.exit rfl ?_)
    | (refine And.intro (by omega) ?_)
    | exact ⟨⟩
    | fail
  ·have aA : i < left.length := by omega
   have js := (ay i aA).mono bN
   repeat' first
     | ((first | with_reducible intro b | refine xm ?_ | fail); try refine nx ?_)
     | (refine xw ?_; refine nx ?_)
     | exact ⟨⟩
     | fail
   rename Nat => xb
   refine EV.keep Gi ?_
   generalize hN : Mi.add _ = N
   have aC : Mi.le N := hN ▸ Aa.le_add _ _
   have s3 : rd N xb 0 1 [vi (Ad left i)] := hN ▸ Bv (T := 3) (cs := [vi (Ad left i)]) (by simp) rfl (by simp)
   have gh := aF _ _ _ _ aC gL
   have nM := (hw.mono bN).mono aC
   clear hN
   have dF := Aa.le_trans bN aC
   refine EV.seq ?_
   repeat' first
     | refine rg ?_
     | exact ⟨⟩
     | fail
   simp only [Option.map_some, Cb]
   refine ⟨i, rfl, by omega, Or.inl rfl, ?_⟩
   rw [At4]
   have oO := (bY.mono dF)
   have dz : Sl N 1 ei (.slice (some ⟨wb1, wo1, none⟩) i lc) (left.take i) := by
    refine ⟨some ⟨wb1, wo1, none⟩, lc, by rw [List.length_take, Nat.min_eq_left (by omega)], ?_⟩
    rw [List.length_take, Nat.min_eq_left (by omega), Ax, List.map_take]
    rw [Ax] at oO
    exact oO.pre (by omega)
   have eJ := D5 hin aA
   refine Aq.call (Kg (left.take i) _ (dz.mono (Aa.le_add _ _)) (by simp; omega) _ _ (fun x => decide (thI p x = thI p (Ad left i))) ?_) ?_
   ·intro M' bR x hx
    have aj := Aa.le_trans (Aa.le_add N Gi) bR
    obtain ⟨eb, eo, e0, oP⟩ := (nM.mono aj).hat (by omega)
    have := Ow p (e0 ▸ (nM.mono aj).hp) (s3.mono aj) oP x (hin x (List.mem_of_mem_take hx)) eJ
    simpa using this
   rw [show (left.take i).any (fun x => decide (thI p x = thI p (Ad left i))) = Fb p left i from rfl]
   generalize fB : Fb p left i = bl
   refine EV.seq ?_
   cases bl with
   | true =>
    refine EV.any (t := Ar4) [] (List.nil_sublist _) ?_
    simp only [Ao, As, Am, Au, reduceIte, Nat.reduceEqDiff]
    repeat' first
      | ((refine Mg (by first | with_reducible assumption | rfl) rfl ?_ (fun lq aB hc => ?_) (fun lq aB => ?_); rotate_left) <;> (try (exfalso; simp at hc; done)) <;> (repeat first | refine nz ?_ | simp only [Bool.not_true]))
      | ((first | refine zo (fun lq aB => ?_) | refine zl ?_ | fail); (repeat first | refine nz ?_ | simp only [Bool.not_true]))
      | refine zq (fun lq tq aB aE => ?_)
      | refine zf ?_
      | refine Cr3 (by first | with_reducible assumption | rfl) (fun tq aE => ?_)
      | ((refine Ad0 (by first | with_reducible assumption | rfl) rfl (fun tq aE h => ?_) (fun tq aE h => ?_)) <;> try (exfalso; simp at h; done))
      | exact false
      | fail
    have ih3 := ih (i + 1, N, Gi) ⟨by dsimp only; omega, dF, ?_⟩ (by dsimp only; omega)
    ·dsimp only at ih3
     repeat' first
       | refine EV.skip ?_
       | refine EV.inBlock ?_
       | (refine EV.reg ?_; (conv => (arg 2; whnf)); (repeat first | refine nx ?_ | simp only [Bool.false_and]))
       | (refine cX (fun h => ?_) (fun h => ?_) <;> try exact Ah h)
       | fail
     refine EV.toS ih3 ?_
     exact eE
    ·rw [List.range_succ, List.flatMap_append, List.flatMap_singleton, if_pos fB, List.append_nil]
     exact gh
   | false =>
    refine EV.any (t := Ar4) [] (List.nil_sublist _) ?_
    simp only [Ao, As, Am, Au, reduceIte, Nat.reduceEqDiff]
    repeat' first
      | ((first | refine zo (fun lq aB => ?_) | refine zl ?_ | fail); (repeat first | refine nz ?_ | simp only [Bool.not_false]))
      | refine zq (fun lq tq aB aE => ?_)
      | ((first | refine Exists.intro _ (And.intro (Ak1 nM.hw) ?_) | refine Exists.intro _ (And.intro (Zd oa out.length oc kd) ?_) | fail); (repeat first | refine nz ?_ | simp only [Bool.not_false]))
      | ((refine Ad0 (by first | with_reducible assumption | rfl) rfl (fun tq aE h => ?_) (fun tq aE h => ?_)) <;> try (exfalso; simp at h; done))
      | (refine xm ?_; (repeat first | refine nz ?_ | simp only [Bool.not_false]))
      | fail
    simp only [Option.map_some, Cb]
    refine ⟨i, rfl, by omega, Or.inl rfl, ?_⟩
    repeat' first
      | ((first | refine zo (fun lq aB => ?_) | refine zl ?_ | fail); try refine nz ?_)
      | refine zq (fun lq tq aB aE => ?_)
      | exact ⟨⟩
      | fail
    simp only [Option.map_some, Cb]
    have aq : IntKind.i64.wrap ((i : Int) + 1) = ((i + 1 : Nat) : Int) := w64 (by omega) (by omega)
    refine ⟨i + 1, by rw [aq], by omega, cE, Or.inr rfl, ?_⟩
    obtain ⟨ro, jt, ero⟩ := Qo (wb := wb1) (wo := wo1) (n := left.length) (c := lc) (i := i + 1) cE
    rw [At4, ero]
    have oQ : rdS N 1 oa out.length (out.map vi) := by
     have := ai.mono dF
     rwa [Ax] at this
    have oR : rdS N 1 (some ⟨wb1, ro, none⟩) (left.length - (i + 1)) ((left.drop (i + 1)).map vi) := by
     by_cases aZ : i + 1 < left.length
     ·rw [jt aZ]
      rcases oO with ⟨h0, _⟩ | ⟨b', o', e', bj⟩
      ·omega
      ·cases e'
       refine Or.inr ⟨wb1, wo1 + (i + 1), rfl, ?_⟩
       rw [Ax, Nat.mul_one] at bj
       rw [Nat.mul_one, List.map_drop]
       exact bj.suf (by omega)
     ·refine Or.inl ⟨by omega, ?_⟩
      rw [List.drop_eq_nil_of_le (by omega)]; rfl
    repeat' first
      | (refine zl ?_; try refine nz ?_)
      | refine zq (fun lq tq aB aE => ?_)
      | (refine Sa (by first | with_reducible assumption | rfl) (fun tq aE => ?_) (fun tq aE => ?_) <;> try refine nz ?_)
      | exact zn
      | ((first | with_reducible intro b | refine And.intro (Aa.le_refl _) (And.intro (A8 ?_) ?_); focus ((repeat' first | exact List.Sublist.refl _ | exact List.nil_sublist _ | exact List.sublist_append_left _ _ | refine List.Sublist.cons_cons _ ?_ | refine List.Sublist.append_left ?_ _ | refine List.sublist_append_of_sublist_right ?_ | refine List.Sublist.cons _ ?_); done) | fail); try refine nz ?_)
      | exact ⟨⟩
      | fail
    all_goals
     refine ⟨[vi (Ad left i)], Or.inr ⟨_, 0, rfl, Bv (T := 3) (cs := [vi (Ad left i)]) (by simp) rfl (by simp)⟩, by simp [B2, Ct, Value.oneCell'], Or.inr ⟨oa, out.length, out.length, rfl, out.map vi, Yt oQ, by omega, by omega, by simp only [maxLen]; omega, by omega, fun b1 cap sp ae => ?_⟩⟩
     repeat' first
       | (refine zl ?_; try refine nz ?_)
       | refine zq (fun lq tq aB aE => ?_)
       | (refine Sa (by first | with_reducible assumption | rfl) (fun tq aE => ?_) (fun tq aE => ?_) <;> try refine nz ?_)
       | exact zn
       | ((first | with_reducible intro b | refine And.intro (Aa.le_refl _) (And.intro (A8 ?_) ?_); focus ((repeat' first | exact List.Sublist.refl _ | exact List.nil_sublist _ | exact List.sublist_append_left _ _ | refine List.Sublist.cons_cons _ ?_ | refine List.Sublist.append_left ?_ _ | refine List.sublist_append_of_sublist_right ?_ | refine List.Sublist.cons _ ?_); done) | fail); try refine nz ?_)
       | exact ⟨⟩
       | fail
     refine Con.callB (G1 := []) (Ut [left.take i, left.drop (i + 1)] _ ⟨_, _, [.slice (some ⟨wb1, wo1, none⟩) i lc, .slice (some ⟨wb1, ro, none⟩) (left.length - (i + 1)) (lc - (i + 1))], rfl, rfl, Or.inr ⟨_, 0, rfl, Bv (T := 34) (cs := [.slice (some ⟨wb1, wo1, none⟩) i lc, .slice (some ⟨wb1, ro, none⟩) (left.length - (i + 1)) (lc - (i + 1))]) (by simp) rfl (by simp)⟩, ?_⟩ ?_ (by simp)) (Aa.le_refl _) (List.Perm.refl _) ?_
     ·intro k cG cD
      match k, cD with
      | 0, _ => exact dz.mono (Aa.le_add _ _)
      | 1, _ => exact ⟨some ⟨wb1, ro, none⟩, lc - (i + 1), by simp, by rw [Ax, show ([left.take i, left.drop (i + 1)] : List (List Int))[1].length = left.length - (i + 1) from by simp]; exact Yt oR⟩
     ·simp only [List.flatten_cons, List.flatten_nil, List.append_nil, List.length_append, List.length_take, List.length_drop]; omega
     rintro v2 M2 G2 ⟨o2, rfl, bD, rfl⟩
     have oS : [left.take i, left.drop (i + 1)].flatten = left.eraseIdx i := by simp [List.eraseIdx_eq_take_drop_succ]
     rw [oS] at bD ⊢
     refine ⟨Aa.le_refl _, fun q hq => absurd hq List.not_mem_nil, ?_⟩
     repeat' first
       | (refine zl ?_; try refine nz ?_)
       | refine zq (fun lq tq aB aE => ?_)
       | (refine Ec (by first | with_reducible assumption | rfl) (fun tq aE => ?_) (fun tq aE => ?_) <;> try refine nz ?_)
       | exact zn
       | exact ⟨⟩
       | fail
     refine Dt.keep Gi ?_
     generalize hR : N.add _ = N2
     have fC : N.le N2 := hR ▸ Aa.le_add _ _
     have s4 : SlC N2 1 ei (osv (some (b1, cap, sp)) (out.length + 1)) (out ++ [Ad left i]) := hR ▸ Hp (T := 3) (by simpa using ae) (by simp) (by simp [osg])
     have bK : SlC N2 1 ei (osv o2 (left.eraseIdx i).length) (left.eraseIdx i) := hR ▸ Hp (T := 3) bD rfl (fun q hq => by simp [hq])
     clear hR
     refine Con.run (ihn (left.eraseIdx i) (out ++ [Ad left i]) (xs ++ ((List.range i).flatMap fun i => if Fb p left i then [] else (Cj p n (left.eraseIdx i)).map (Ad left i :: ·)).map (out ++ ·)) N2 Gi _ _ (by rw [List.length_eraseIdx_of_lt aA]; omega) (by simp; omega) (Aa.le_trans hM (Aa.le_trans dF fC)) (nM.mono fC) (fun y dj => hin y (List.mem_of_mem_eraseIdx dj)) s4 bK ?_ (aF _ _ _ _ fC gh)) ?_
     ·intro m hm
      rw [List.append_assoc]
      refine hL _ ?_
      simp only [Cj, List.mem_flatMap, List.mem_range]
      exact ⟨i, by omega, by rw [if_neg (by rw [fB]; simp)]; exact List.mem_map.2 ⟨m, hm, rfl⟩⟩
     rintro v3 M3 G3 eL (⟨rfl, oT⟩ | ⟨rfl, oU⟩)
     ·repeat' first
       | ((refine Mg (by first | with_reducible assumption | rfl) rfl ?_ (fun lq aB hc => ?_) (fun lq aB => ?_); rotate_left) <;> (try (exfalso; simp at hc; done)) <;> (repeat first | refine nz ?_ | simp only [Bool.not_true]))
       | ((first | refine zo (fun lq aB => ?_) | refine zl ?_ | fail); (repeat first | refine nz ?_ | simp only [Bool.not_true]))
       | refine zq (fun lq tq aB aE => ?_)
       | refine zf ?_
       | with_reducible rfl
       | fail
      repeat' first
        | refine EV.skip ?_
        | refine EV.inBlock ?_
        | (refine EV.reg ?_; (conv => (arg 2; whnf)); (repeat first | refine nx ?_ | simp only [Bool.true_and, Bool.and_false]))
        | (refine cX (fun h => ?_) (fun h => ?_) <;> try exact Ah h)
        | fail
      have ih3 := ih (i + 1, M3, G3) ⟨by dsimp only; omega, Aa.le_trans dF (Aa.le_trans fC eL), by
       dsimp only
       rw [List.range_succ, List.flatMap_append, List.flatMap_singleton, if_neg (by rw [fB]; simp), List.map_append, ← List.append_assoc, List.map_map]
       have e : (Cj p n (left.eraseIdx i)).map ((out ++ ·) ∘ (Ad left i :: ·)) = (Cj p n (left.eraseIdx i)).map ((out ++ [Ad left i]) ++ ·) := by
        apply List.map_congr_left; intro y _; simp
       rw [e]; exact oT⟩ (by dsimp only; omega)
      dsimp only at ih3
      refine EV.toS ih3 ?_
      exact eE
     ·repeat' first
       | ((refine Mg (by first | with_reducible assumption | rfl) rfl ?_ (fun lq aB hc => ?_) (fun lq aB => ?_); rotate_left) <;> (try (exfalso; simp at hc; done)) <;> (repeat first | refine nz ?_ | simp only [Bool.not_false]))
       | ((first | refine zo (fun lq aB => ?_) | refine zl ?_ | fail); (repeat first | refine nz ?_ | simp only [Bool.not_false]))
       | refine zq (fun lq tq aB aE => ?_)
       | refine zf ?_
       | with_reducible rfl
       | fail
      repeat' first
        | refine EV.seq ?_
        | (refine EV.reg ?_; (conv => (arg 2; whnf)); (repeat first | refine nx ?_ | simp only [Bool.true_and]))
        | (refine cX (fun h => ?_) (fun h => ?_) <;> try exact Ah h)
        | fail
      (refine rt Q29_ok ?_; try with_reducible exact ⟨⟩)
      exact Or.inr oU
  ·have bM : i = left.length := by omega
   subst bM
   (refine rt Q29_ok ?_; try with_reducible exact ⟨⟩)
   left
   rw [hn] at gL
   exact gL
def ElI (x : List Int) (v : Value) (M : Aa) : Prop := SlC M 1 ei v x
theorem Se (p : List Ev) (ax : p.length < 1000000) {ps ls : Value} {l : List Int} {pb lb : Nat} (hps : Sl M 6 A4 ps p) (cM : SlC M 1 ei ls l) (hin : Hm p l) (be : l.length < 1000000)
  (h1 : rd M pb 0 1 [ps]) (h2 : rd M lb 0 1 [ls]) : Y5 Tryz.prog 115 #[] #[pv pb 0, pv lb 0] M (C2 p l) ElI := by
 intro ly I S M1 G hM aF hy xs hI
 have cT := h1.mono hM
 have fU := h2.mono hM
 have oV := cM.mono hM
 obtain ⟨ea, ec, rfl, am⟩ := hps
 refine Con.enter Q28_ok (args := [yv ly, pv pb 0, pv lb 0]) (by simp [Q28]) fun w0 => ?_
 simp only [Q28, A5]
 refine EV.seq (EV.reg ?_)
 (repeat first | refine nx ?_ | simp only [Ci8])
 intro yb
 refine EV.seq (EV.reg ?_)
 (repeat first | refine nx ?_ | simp only [Ci9])
 intro wb
 refine EV.seq ?_
 repeat' first
   | refine rg ?_
   | (refine xiA rfl ?_; try refine nx ?_)
   | (refine xw ?_; refine nx ?_)
   | exact ⟨⟩
   | fail
 obtain ⟨la, lc, rfl, cE, bY⟩ := oV
 refine ⟨_, _, _, Ak1 fU, ?_⟩
 refine Dt.keep G ?_
 generalize hR : M1.add _ = N
 have aC : M1.le N := hR ▸ Aa.le_add _ _
 have hw : WalkB p N ly yb pb wb ea ec := by
  refine ⟨hR ▸ Bv (T := 151) (cs := [yv ly]) (by simp) rfl (by simp), cT.mono aC, hR ▸ Bv (T := 50) (cs := [.func (.func 116) #[] #[pv yb 0, pv pb 0, pv wb 0]]) (by simp) rfl (by simp), fun h0 => ?_⟩
  obtain ⟨eb, eo, e, hat⟩ := Sl.at (enc := A4) (fun _ => rfl) (by decide) am h0
  exact ⟨eb, eo, e, fun i hi => (Sl.evAt hat i hi).mono (Aa.le_trans hM aC)⟩
 clear hR
 refine Con.run (Zf p ax (L := C2 p l) aF (fun xs x hx M2 G2 v h3 h4 h5 => hy xs x hx M2 G2 v (Aa.le_trans aC h3) h4 h5) l.length l [] xs N G _ _ rfl (by simp; omega) (Aa.le_refl _) hw hin ⟨none, 0, rfl, Nat.le_refl _, .inl ⟨rfl, rfl⟩⟩ ⟨la, lc, rfl, cE, bY.mono aC⟩ (fun m hm => by simpa [C2] using hm) (aF _ _ _ _ aC hI)) ?_
 intro v M' G' bR hv
 refine EV.done Q28_ok ?_
 (repeat first | refine nx ?_ | simp only [Q28])
 rcases hv with ⟨rfl, hv⟩ | ⟨rfl, hv⟩
 ·left; simpa [C2] using hv
 ·right; exact hv
def Its {α : Type} (L : List α) (El : α → Value → Aa → Prop) (v : Value) (M : Aa) (_ : Own) : Prop := ∃ g caps, v = .func (.func g) #[] caps ∧ Y5 Tryz.prog g #[] caps M L El
theorem Mw (p : List Ev) (ax : p.length < 1000000) {ps ls : Value} {l : List Int} (hps : Sl M 6 A4 ps p) (cM : SlC M 1 ei ls l) (hin : Hm p l) (be : l.length < 1000000) :
  Con Tryz.prog 82 #[ps, ls] M [] (Its (C2 p l) ElI) := by
 refine Con.enter Q27_ok (args := [ps, ls]) (by simp [Q27]) fun w0 => ?_
 simp only [Q27, A5]
 have cH := hps
 have oW := cM
 obtain ⟨ea, ec, rfl, am⟩ := hps
 obtain ⟨la, lc, rfl, cE, bY⟩ := cM
 repeat' first
   | refine EV.seq ?_
   | refine rg ?_
   | (with_reducible intro b; try refine nx ?_)
   | exact ⟨⟩
   | fail
 refine EV.keep [] ?_
 generalize hR : M.add _ = N
 have aC : M.le N := hR ▸ Aa.le_add _ _
 (refine rt Q27_ok ?_; try with_reducible exact ⟨⟩)
 refine ⟨_, _, rfl, Se p ax (cH.mono aC) (oW.mono aC) hin be ?_ ?_⟩
 ·exact hR ▸ Bv (T := 74) (cs := [.slice ea p.length ec]) (by simp) rfl (by simp)
 ·exact hR ▸ Bv (T := 34) (cs := [.slice la l.length lc]) (by simp) rfl (by simp)
end
end Go.EV
