/- Part of the proof of a statement about executions of litmus programs: walks and laws. -/
import Derived.Test.YtmgnpoleilcjoaaGreatVPab
import Derived.RangeFuncIn
import Derived.RangeFuncNested
set_option maxRecDepth 8000
set_option linter.unusedSimpArgs false
set_option linter.unusedVariables false
set_option linter.unusedSectionVars false
namespace Go.EV
open Go.Proofs
theorem Sl.ints {H : Aa} {b off : Nat} {xs : List Int} (h : rd H b off xs.length (xs.map vi)) : ∀ i (hi : i < xs.length), rd H b (off + i) 1 [vi xs[i]] := by
 intro i hi
 have := h.part (i := i) (m := 1) (by omega)
 rwa [show ((xs.map vi).drop i).take 1 = [vi xs[i]] from by
  rw [List.drop_eq_getElem_cons (by simpa using hi)]; simp] at this
section
variable {M : Aa}
def mx (xs : List Int) (i : Nat) : Int := (xs.take i).foldl (fun a b => if b > a then b else a) (xs.headD 0)
theorem Ar4 {xs : List Int} {i : Nat} (hi : i < xs.length) : mx xs (i + 1) = if xs[i] > mx xs i then xs[i] else mx xs i := by
 simp only [mx, List.take_succ_eq_append_getElem hi, List.foldl_append, List.foldl_cons, List.foldl_nil]
 rfl
theorem Ro (H : Aa) (b off c : Nat) (xs : List Int) (h0 : 0 < xs.length) (hl : xs.length < 1000000) (h : rd H b off xs.length (xs.map vi)) : Aq Tryz.prog 98 #[.slice (some ⟨b, off, none⟩) xs.length c] H (vi (mx xs xs.length)) := by
 have hr := Sl.ints h
 have hr0 : rd H b off 1 [vi xs[0]] := hr 0 h0
 have hx0 : xs[0] = mx xs 1 := by cases xs with | nil => simp at h0 | cons x xs => simp [mx]
 refine Con.enter Q111_ok (args := [.slice (some ⟨b, off, none⟩) xs.length c]) (by simp [Dz4]) fun w0 => ?_
 simp only [Dz4, A3]
 repeat' first
   | refine EV.seq ?_
   | refine EV.skip ?_
   | refine EV.block ?_
   | refine rg ?_
   | (refine cX (fun h => ?_) (fun h => ?_) <;> try exact Ah h)
   | (refine And.intro (by omega) ?_)
   | (refine xm ?_; try refine nx ?_)
   | exact ⟨⟩
   | fail
 ·refine EV.to (ρ' := [(0, .slice (some ⟨b, off, none⟩) xs.length c), (3, vi (mx xs 1)), (4, vi (1 : Nat))]) ?_ (by simp [get, hx0]) (List.Sublist.refl _)
  refine EV.loop (fun i : Nat => ([(0, .slice (some ⟨b, off, none⟩) xs.length c), (3, vi (mx xs i)), (4, vi i)], H, [])) (fun i => 1 ≤ i ∧ i ≤ xs.length) (fun i => xs.length - i) 1 ⟨by omega, by omega⟩ ?_
  intro i ⟨hi1, hi2⟩ ih
  dsimp only at ih ⊢
  repeat' first
    | refine EV.seq ?_
    | refine EV.skip ?_
    | refine EV.block ?_
    | refine rg ?_
    | (refine cX (fun h => ?_) (fun h => ?_) <;> try exact Ah h)
    | (refine EV.exit rfl ?_)
    | refine rt Q111_ok ?_
    | (refine And.intro (by omega) ?_)
    | exact ⟨⟩
    | fail
  ·have hi : i < xs.length := by omega
   refine ⟨_, Ai8 (hr i hi), ?_⟩
   repeat' first
     | refine EV.inBlock ?_
     | refine rg ?_
     | exact ⟨⟩
     | fail
   refine EV.to (ih (i + 1) ⟨by omega, by omega⟩ (by omega)) ?_ (List.Sublist.refl _)
   repeat' first
    | (refine List.forall_mem_cons.2 (And.intro ?_ ?_))
    | (intro _ hnil; cases hnil; done)
    | rfl
    | (refine Yc rfl (by first | rfl | (push_cast; first | rfl | omega)) (by omega) (by omega); done)
    | (simp (disch := omega) only [Al, As, reduceIte, Nat.reduceEqDiff, Option.some.injEq, Value.int.injEq, w64, Int.natCast_add, Int.natCast_one, Int.cast_ofNat_Int, Int.natCast_zero, Ar4 hi]; done)
    | fail
  ·rw [show i = xs.length from by omega]
structure LimS where
 acc : Int
 fen : Int
 w0 : Int
 w1 : Int
 w2 : Int
def Ak (s : LimS) (o : OpV) : LimS :=
 if o.kind = 5 then { s with fen := s.fen + 1 }
 else if Bh o = true then
  {acc := s.acc + 1, fen := if o.ord = 4 then s.fen + 2 else s.fen,
   w0 := if o.kind ≠ 0 ∧ o.loc = 0 then s.w0 + 1 else s.w0, w1 := if o.kind ≠ 0 ∧ o.loc = 1 then s.w1 + 1 else s.w1, w2 := if o.kind ≠ 0 ∧ o.loc = 2 then s.w2 + 1 else s.w2 }
 else s
def A5 (l : List OpV) : LimS := l.foldl Ak ⟨0, 0, 0, 0, 0⟩
def Fg (ts : List (List OpV)) : Bool :=
 decide (ts.length ≤ 3) && decide ((A5 ts.flatten).acc ≤ 6) && decide ((A5 ts.flatten).fen ≤ 8) && decide ((A5 ts.flatten).w0 ≤ 4) && decide ((A5 ts.flatten).w1 ≤ 4) && decide ((A5 ts.flatten).w2 ≤ 4)
theorem Rp (l : List OpV) : 0 ≤ (A5 l).acc ∧ (A5 l).acc ≤ l.length ∧ 0 ≤ (A5 l).fen ∧ (A5 l).fen ≤ 2 * l.length ∧ 0 ≤ (A5 l).w0 ∧ (A5 l).w0 ≤ l.length ∧ 0 ≤ (A5 l).w1 ∧ (A5 l).w1 ≤ l.length ∧ 0 ≤ (A5 l).w2 ∧ (A5 l).w2 ≤ l.length := by
 have key : ∀ (l : List OpV) (s : LimS), s.acc ≤ (l.foldl Ak s).acc ∧ (l.foldl Ak s).acc ≤ s.acc + l.length ∧ s.fen ≤ (l.foldl Ak s).fen ∧ (l.foldl Ak s).fen ≤ s.fen + 2 * l.length ∧ s.w0 ≤ (l.foldl Ak s).w0 ∧ (l.foldl Ak s).w0 ≤ s.w0 + l.length ∧ s.w1 ≤ (l.foldl Ak s).w1 ∧ (l.foldl Ak s).w1 ≤ s.w1 + l.length ∧ s.w2 ≤ (l.foldl Ak s).w2 ∧ (l.foldl Ak s).w2 ≤ s.w2 + l.length := by
  intro l
  induction l with
  | nil => intro s; simp
  | cons o l ih =>
   intro s
   have := ih (Ak s o)
   simp only [List.foldl_cons, List.length_cons]
   have h2 : s.acc ≤ (Ak s o).acc ∧ (Ak s o).acc ≤ s.acc + 1 ∧ s.fen ≤ (Ak s o).fen ∧ (Ak s o).fen ≤ s.fen + 2 ∧ s.w0 ≤ (Ak s o).w0 ∧ (Ak s o).w0 ≤ s.w0 + 1 ∧ s.w1 ≤ (Ak s o).w1 ∧ (Ak s o).w1 ≤ s.w1 + 1 ∧ s.w2 ≤ (Ak s o).w2 ∧ (Ak s o).w2 ≤ s.w2 + 1 := by
    unfold Ak
    split
    ·simp; omega
    ·split
     ·simp only []
      refine ⟨?_, ?_, ?_, ?_, ?_, ?_, ?_, ?_, ?_, ?_⟩ <;> (repeat' split) <;> omega
     ·simp; omega
   omega
 have := key l ⟨0, 0, 0, 0, 0⟩
 dsimp only at this
 unfold A5
 omega
theorem Dh {α : Type} {ts : List (List α)} {i : Nat} (hi : i < ts.length) : (ts.take (i + 1)).flatten = (ts.take i).flatten ++ ts[i] := by
 rw [List.take_succ_eq_append_getElem hi, List.flatten_append]; simp
theorem B9 {α : Type} (ts : List (List α)) (i : Nat) : (ts.take i).flatten.length ≤ ts.flatten.length := by
 have : ts.flatten = (ts.take i).flatten ++ (ts.drop i).flatten := by rw [← List.flatten_append, List.take_append_drop]
 rw [this]; simp
structure Sized {α : Type} (ts : List (List α)) : Prop where
 len : ts.length ≤ 281474976710656
 each : ∀ t ∈ ts, t.length ≤ 281474976710656
theorem P2 {α : Type} {B : Nat} : ∀ {ts : List (List α)}, (∀ t ∈ ts, t.length ≤ B) → ts.flatten.length ≤ ts.length * B
 | [], _ => by simp
 | t :: ts, h => by
  have h1 := P2 (ts := ts) fun x hx => h x (List.mem_cons_of_mem _ hx)
  have h2 := h t (List.mem_cons_self ..)
  rw [List.flatten_cons, List.length_append, List.length_cons, Nat.succ_mul]; omega
theorem Sized.flat {α : Type} {ts : List (List α)} (h : Sized ts) (h3 : ts.length ≤ 3) : ts.flatten.length < 1000000000000000 := by
 have h1 := P2 h.each
 have h2 : ts.length * 281474976710656 ≤ 3 * 281474976710656 := Nat.mul_le_mul_right _ h3
 omega
set_option maxHeartbeats 4000000 in
theorem Lz (ts : List (List OpV)) (s : Value) (hs : Gw M 5 Be s ts) (hb : Sized ts) : Aq Tryz.prog 63 #[.agg #[s]] M (vb (Fg ts)) := by
 obtain ⟨a, c, vs, rfl, hl, hrd, hk⟩ := hs
 refine Con.enter Q55_ok (args := [.agg #[.slice a ts.length c]]) (by simp [Q55]) fun w0 => ?_
 simp only [Q55, A3]
 repeat' first
   | refine EV.seq ?_
   | refine EV.skip ?_
   | refine EV.block ?_
   | refine rg ?_
   | (refine cX (fun h => ?_) (fun h => ?_) <;> try exact Ah h)
   | refine rt Q55_ok ?_
   | ((first | with_reducible intro b | refine xsA rfl ?_ | fail); try refine nx ?_)
   | exact ⟨⟩
   | fail
 ·simp [Fg]; omega
 rename_i b1
 have hlen3 : ts.length ≤ 3 := by omega
 have hb' := hb.2
 have hb := hb.flat hlen3
 refine EV.to (ρ' := [(3, vi (A5 (ts.take 0).flatten).acc), (4, vi (A5 (ts.take 0).flatten).fen), (5, pv b 0), (15, .slice a ts.length c), (16, vi ts.length), (17, vi (0 : Nat))])
  (G' := [(b, Cl 142 [vi (A5 (ts.take 0).flatten).w0, vi (A5 (ts.take 0).flatten).w1, vi (A5 (ts.take 0).flatten).w2])]) ?_ (by simp [get, A5]) (by simp [A5])
 refine EV.loop (fun i : Nat => ([(3, vi (A5 (ts.take i).flatten).acc), (4, vi (A5 (ts.take i).flatten).fen), (5, pv b 0), (15, .slice a ts.length c), (16, vi ts.length), (17, vi i)], M,
  [(b, Cl 142 [vi (A5 (ts.take i).flatten).w0, vi (A5 (ts.take i).flatten).w1, vi (A5 (ts.take i).flatten).w2])])) (fun i => i ≤ ts.length) (fun i => ts.length - i) 0 (Nat.zero_le _) ?_
 intro i hi ih
 dsimp only at ih ⊢
 repeat' first
   | refine EV.seq ?_
   | refine EV.skip ?_
   | refine EV.block ?_
   | refine rg ?_
   | (refine Aq.call (Ro _ _ 0 3 [_, _, _] (by simp) (by simp) (An 0 rfl rfl (by simp))) ?_; try refine nx ?_)
   | with_reducible assumption
   | (refine Az.merge ?_ (fun hc K' hK => ?_) ?_; rotate_left)
   | (refine cX (fun h => ?_) (fun h => ?_) <;> try exact Ah h)
   | (refine EV.exit rfl ?_)
   | refine rt Q55_ok ?_
   | exact ⟨⟩
   | fail
 ·have hi' : i < ts.length := by omega
  obtain ⟨pb, po, rfl, hat⟩ := Gw.at hrd hl hk (by omega)
  obtain ⟨a', c', hr1, hr2⟩ := hat i hi'
  simp only [Nat.mul_one] at hr1
  repeat' first
    | refine EV.seq ?_
    | refine EV.block ?_
    | refine rg ?_
    | (refine And.intro (by omega) ?_)
    | (refine xn ?_; try refine nx ?_)
    | exact ⟨⟩
    | fail
  have hlen : ((ts.take i).flatten ++ ts[i]).length ≤ ts.flatten.length := by rw [← Dh hi']; exact B9 ts (i + 1)
  simp only [List.length_append] at hlen
  let W : Nat → LimS := fun j => A5 ((ts.take i).flatten ++ ts[i].take j)
  refine EV.to (ρ' := [(3, vi (W 0).acc), (4, vi (W 0).fen), (5, pv b 0), (15, .slice (some ⟨pb, po, none⟩) ts.length c), (16, vi ts.length), (17, vi i), (21, .slice a' ts[i].length c'), (22, vi ts[i].length), (23, vi (0 : Nat))])
   (G' := [(b, Cl 142 [vi (W 0).w0, vi (W 0).w1, vi (W 0).w2])]) ?_ (by simp [get, W]) (by simp [W])
  refine EV.loop (fun j : Nat => ([(3, vi (W j).acc), (4, vi (W j).fen), (5, pv b 0), (15, .slice (some ⟨pb, po, none⟩) ts.length c), (16, vi ts.length), (17, vi i), (21, .slice a' ts[i].length c'), (22, vi ts[i].length), (23, vi j)], M,
   [(b, Cl 142 [vi (W j).w0, vi (W j).w1, vi (W j).w2])])) (fun j => j ≤ ts[i].length) (fun j => ts[i].length - j) 0 (Nat.zero_le _) ?_
  intro j hj ih2
  dsimp only at ih2 ⊢
  repeat' first
    | refine EV.seq ?_
    | refine EV.skip ?_
    | refine EV.block ?_
    | refine EV.inBlock ?_
    | refine rg ?_
    | (refine cX (fun h => ?_) (fun h => ?_) <;> try exact Ah h)
    | (refine EV.exit rfl ?_)
    | exact ⟨⟩
    | fail
  ·have hj' : j < ts[i].length := by omega
   obtain ⟨qb, qo, rfl, hat2⟩ := Sl.at (enc := Be) (fun _ => rfl) (by omega) hr2 (by omega)
   have hr3 := hat2 j hj'
   have hW : W (j + 1) = Ak (W j) ts[i][j] := by
    simp only [W, A5, List.take_succ_eq_append_getElem hj', ← List.append_assoc, List.foldl_append, List.foldl_cons, List.foldl_nil]
   have hWb := Rp ((ts.take i).flatten ++ ts[i].take j)
   have hWl : ((ts.take i).flatten ++ ts[i].take j).length < 1000000000000000 := by rw [List.length_append, List.length_take]; omega
   have fin : ∀ ρ G', (∀ p ∈ [(3, vi (W (j + 1)).acc), (4, vi (W (j + 1)).fen), (5, pv b 0), (15, .slice (some ⟨pb, po, none⟩) ts.length c), (16, vi ts.length), (17, vi i), (21, .slice (some ⟨qb, qo, none⟩) ts[i].length c'), (22, vi ts[i].length), (23, vi (j + 1 : Nat))], get ρ p.1 = some p.2) →
     [(b, Cl 142 [vi (W (j + 1)).w0, vi (W (j + 1)).w1, vi (W (j + 1)).w2])].Sublist G' → _ := fun ρ G' h1 h2 => EV.to (ρ := ρ) (G := G') (ih2 (j + 1) (by omega) (by omega)) h1 h2
   rw [hW] at fin
   have hWe : W j = A5 ((ts.take i).flatten ++ ts[i].take j) := rfl
   rw [← hWe] at hWb
   clear_value W
   have e1 : IntKind.i64.wrap ((W j).acc + 1) = (W j).acc + 1 := w64 (by omega) (by omega)
   have e2 : IntKind.i64.wrap ((W j).fen + 1) = (W j).fen + 1 := w64 (by omega) (by omega)
   have e3 : IntKind.i64.wrap ((W j).fen + 2) = (W j).fen + 2 := w64 (by omega) (by omega)
   have e4 : IntKind.i64.wrap ((W j).w0 + 1) = (W j).w0 + 1 := w64 (by omega) (by omega)
   have e5 : IntKind.i64.wrap ((W j).w1 + 1) = (W j).w1 + 1 := w64 (by omega) (by omega)
   have e6 : IntKind.i64.wrap ((W j).w2 + 1) = (W j).w2 + 1 := w64 (by omega) (by omega)
   have e7 : IntKind.i64.wrap ((j : Int) + 1) = ((j + 1 : Nat) : Int) := w64 (by omega) (by omega)
   clear ih ih2 hat hat2 hrd hk hr1 hr2 hWb hWl hWe hlen hW hb hb' hl
   generalize W j = s at *
   generalize ts[i][j] = o at *
   clear W
   repeat' first
     | refine EV.seq ?_
     | refine EV.skip ?_
     | refine EV.block ?_
     | refine EV.inBlock ?_
     | refine rg ?_
     | (refine Aq.call (E2 _) ?_; try refine nx ?_)
     | with_reducible assumption
     | (refine Az.merge ?_ (fun hc K' hK => ?_) ?_; rotate_left)
     | (refine cX (fun h => ?_) (fun h => ?_) <;> try exact Ah h)
     | (with_reducible intro b; try refine nx ?_)
     | (refine And.intro (by omega) ?_)
     | ((first | refine xm ?_ | refine xrA rfl ?_ | refine xiA rfl ?_ | fail); try refine nx ?_)
     | (refine xw ?_; refine nx ?_)
     | exact ⟨⟩
     | fail
   all_goals try refine fin _ _ ?_ ?_
   all_goals first
    | (simp [get, Ak, *]; done)
    | (simp [get, Ak, *]; grind)
    | skip
   all_goals
    have hloc : o.loc = 0 ∨ o.loc = 1 ∨ o.loc = 2 := by omega
    have hk0 : ¬ o.kind = 0 := by omega
    rcases hloc with hloc | hloc | hloc <;> rw [hloc] <;> simp only [Int.reduceToNat, Int.toNat_zero, Int.reduceLE, Int.reduceLT, true_and]
   all_goals repeat' first
     | refine EV.inBlock ?_
     | refine rg ?_
     | (refine xiA rfl ?_; try refine nx ?_)
     | (refine xw ?_; refine nx ?_)
     | exact ⟨⟩
     | fail
   all_goals try refine fin _ _ ?_ ?_
   all_goals first
    | (simp [get, Ak, *]; done)
    | (simp [get, Ak, *]; grind)
    | skip
  ·have hj' : j = ts[i].length := by omega
   subst hj'
   have hf : (ts.take i).flatten ++ ts[i].take ts[i].length = (ts.take (i + 1)).flatten := by rw [Dh hi', List.take_length]
   refine EV.to (ih (i + 1) (by omega) (by omega)) ?_ ?_
   ·clear ih ih2
    rw [← hf]
    simp [get, W]
    exact w64 (by omega) (by omega)
   ·rw [← hf]
    exact List.Sublist.refl _
 ·have hi3 : i = ts.length := by omega
  subst hi3
  rw [List.take_length]
  simp only [Fg, mx, List.take_succ_cons, List.take_zero, List.foldl_cons, List.foldl_nil, List.headD_cons]
  congr 1
  have h3 : decide (ts.length ≤ 3) = true := by simpa using hlen3
  rw [h3]
  grind
end
end Go.EV

namespace Go.EV
open Go.Proofs
section
variable {M : Aa}
def Lg (o : OpV) : Bool := Te o.kind o.ord && Ag3 o.kind o.ord && Wk o
def Bd (ts : List (List OpV)) : Int := if Fg ts = false then 2 else if ts.length = 0 then 1 else if ts.flatten.all Lg = true then 0 else 1
theorem Eo (o : OpV) : Lg o = true ↔ Te o.kind o.ord = true ∧ Ag3 o.kind o.ord = true ∧ Wk o = true := by
 simp [Lg, and_assoc]
set_option maxHeartbeats 4000000 in
theorem N7 (ts : List (List OpV)) (s : Value) (hs : Gw M 5 Be s ts) (hb : Sized ts) : Aq Tryz.prog 24 #[.agg #[s]] M (vi (Bd ts)) := by
 have hlim := fun G => Lz (M := M.add G) ts s (hs.mono (Aa.le_add _ _)) hb
 have hb' := hb.1
 have hbe := hb.2
 obtain ⟨a, c, vs, rfl, hl, hrd, hk⟩ := hs
 refine Con.enter Q49_ok (args := [.agg #[.slice a ts.length c]]) (by simp [Q49]) fun w0 => ?_
 simp only [Q49, A3]
 repeat' first
   | refine EV.seq ?_
   | refine EV.skip ?_
   | refine EV.block ?_
   | refine rg ?_
   | (refine Aq.call (hlim _) ?_; try refine nx ?_)
   | (refine cX (fun h => ?_) (fun h => ?_) <;> try exact Ah h)
   | refine rt Q49_ok ?_
   | ((first | with_reducible intro b | refine xrA rfl ?_ | refine xsA rfl ?_ | fail); try refine nx ?_)
   | exact ⟨⟩
   | fail
 ·simp [Bd, h]
 ·rename_i h1
  have : ts.length = 0 := by omega
  simp [Bd, this, h1]
 rename_i h1
 refine EV.to (ρ' := [(17, .slice a ts.length c), (18, vi ts.length), (19, vi (0 : Nat))]) (G' := []) ?_ (by simp (disch := omega) only [List.forall_mem_cons, List.not_mem_nil, false_implies, implies_true, and_true, true_and, Al, As, reduceIte, Nat.reduceEqDiff, Option.some.injEq, Value.int.injEq, w64, Int.natCast_add, Int.natCast_one, Int.cast_ofNat_Int, Int.natCast_zero]) (by simp)
 refine EV.loop (fun i : Nat => ([(17, .slice a ts.length c), (18, vi ts.length), (19, vi i)], M, [])) (fun i => i ≤ ts.length ∧ (ts.take i).flatten.all Lg = true) (fun i => ts.length - i) 0 (by simp) ?_
 intro i ⟨hi, hok⟩ ih
 dsimp only at ih ⊢
 repeat' first
   | refine EV.seq ?_
   | refine EV.skip ?_
   | refine EV.block ?_
   | refine rg ?_
   | (refine cX (fun h => ?_) (fun h => ?_) <;> try exact Ah h)
   | (refine EV.exit rfl ?_)
   | refine rt Q49_ok ?_
   | exact ⟨⟩
   | fail
 ·have hi' : i < ts.length := by omega
  obtain ⟨pb, po, rfl, hat⟩ := Gw.at hrd hl hk (by omega)
  obtain ⟨a', c', hr1, hr2⟩ := hat i hi'
  simp only [Nat.mul_one] at hr1
  have hlen : ts[i].length ≤ ts.flatten.length := by have := Dh hi'; have h2 := B9 ts (i + 1); rw [this, List.length_append] at h2; omega
  have hbi := hbe ts[i] (List.getElem_mem hi')
  have hmem : ∀ o ∈ ts[i], o ∈ ts.flatten := fun o ho => List.mem_flatten.2 ⟨ts[i], List.getElem_mem hi', ho⟩
  repeat' first
    | refine EV.seq ?_
    | refine EV.block ?_
    | refine rg ?_
    | (refine And.intro (by omega) ?_)
    | (refine xn ?_; try refine nx ?_)
    | exact ⟨⟩
    | fail
  refine EV.to (ρ' := [(17, .slice (some ⟨pb, po, none⟩) ts.length c), (18, vi ts.length), (19, vi i), (23, .slice a' ts[i].length c'), (24, vi ts[i].length), (25, vi (0 : Nat))]) (G' := []) ?_ (by simp (disch := omega) only [List.forall_mem_cons, List.not_mem_nil, false_implies, implies_true, and_true, true_and, Al, As, reduceIte, Nat.reduceEqDiff, Option.some.injEq, Value.int.injEq, w64, Int.natCast_add, Int.natCast_one, Int.cast_ofNat_Int, Int.natCast_zero]) (by simp)
  refine EV.loop (fun j : Nat => ([(17, .slice (some ⟨pb, po, none⟩) ts.length c), (18, vi ts.length), (19, vi i), (23, .slice a' ts[i].length c'), (24, vi ts[i].length), (25, vi j)], M, [])) (fun j => j ≤ ts[i].length ∧ (ts[i].take j).all Lg = true) (fun j => ts[i].length - j) 0 (by simp) ?_
  intro j ⟨hj, hok2⟩ ih2
  dsimp only at ih2 ⊢
  repeat' first
    | refine EV.seq ?_
    | refine EV.skip ?_
    | refine EV.block ?_
    | refine EV.inBlock ?_
    | refine rg ?_
    | (refine cX (fun h => ?_) (fun h => ?_) <;> try exact Ah h)
    | (refine EV.exit rfl ?_)
    | exact ⟨⟩
    | fail
  ·have hj' : j < ts[i].length := by omega
   obtain ⟨qb, qo, rfl, hat2⟩ := Sl.at (enc := Be) (fun _ => rfl) (by omega) hr2 (by omega)
   have hr3 := hat2 j hj'
   repeat' first
     | refine EV.seq ?_
     | refine EV.skip ?_
     | refine EV.inBlock ?_
     | refine rg ?_
     | ((first | refine Aq.call (P1 _) ?_ | refine Aq.call (Ly _ _) ?_ | fail); try refine nx ?_)
     | with_reducible assumption
     | (refine Az.merge ?_ (fun hc K' hK => ?_) ?_; rotate_left)
     | (refine cX (fun h => ?_) (fun h => ?_) <;> try exact Ah h)
     | refine rt Q49_ok ?_
     | (with_reducible intro b; try refine nx ?_)
     | (refine And.intro (by omega) ?_)
     | ((first | refine xm ?_ | refine xrA rfl ?_ | refine xiA rfl ?_ | fail); try refine nx ?_)
     | (refine xw ?_; refine nx ?_)
     | exact ⟨⟩
     | fail
   ·have hno : Lg ts[i][j] = false := by
     cases hq : Lg ts[i][j] with
     | false => rfl
     | true => obtain ⟨q1, q2, q3⟩ := (Eo _).1 hq; simp [q1, q2, q3] at h
    have hne : ts.flatten.all Lg = false := by
     rw [List.all_eq_false]
     exact ⟨ts[i][j], hmem _ (List.getElem_mem hj'), by simp [hno]⟩
    have h0 : ¬ ts.length = 0 := by omega
    simp [Bd, h1, h0, hne]
   ·have hyes : Lg ts[i][j] = true := by
     rw [Eo]
     grind
    refine EV.to (ih2 (j + 1) ⟨by omega, ?_⟩ (by omega)) ?_ (by simp)
    ·rw [List.take_succ_eq_append_getElem hj', List.all_append, hok2]
     simp [hyes]
    ·exact eE
  ·have hj' : j = ts[i].length := by omega
   subst hj'
   refine EV.to (ih (i + 1) ⟨by omega, ?_⟩ (by omega)) ?_ (by simp)
   ·rw [Dh hi', List.all_append, hok, Bool.true_and]
    rwa [List.take_length] at hok2
   ·exact eE
 ·have hi3 : i = ts.length := by omega
  subst hi3
  rw [List.take_length] at hok
  have h0 : ¬ ts.length = 0 := by omega
  simp [Bd, hok, h1, h0]
end
end Go.EV

namespace Go.EV
open Go.Proofs
section
variable {M : Aa}
abbrev Gs : OpV := ⟨5, 0, 0, 0, 4⟩
theorem H8 : Aq Tryz.prog 73 #[] M (vop Gs) := by
 refine Con.enter Q57_ok (args := []) (by simp [Q57]) fun w0 => ?_
 simp only [Q57, A3]
 repeat' first
   | refine EV.seq ?_
   | refine rg ?_
   | refine rt Q57_ok ?_
   | ((first | with_reducible intro b | refine xrA rfl ?_ | fail); try refine nx ?_)
   | (refine xw ?_; refine nx ?_)
   | exact ⟨⟩
   | fail
 all_goals rfl
def Ca (o : OpV) : List OpV := if Bh o = false ∨ o.ord ≠ 4 then [o] else [Gs, { o with ord := Ie o.kind o.ord }, Gs]
theorem Jd (o : OpV) (f : Bool) (ho : Lg o = true) : Con Tryz.prog 70 #[vop o, vb f] M [] fun v _ G' => ∃ b, v = .slice (some ⟨b, 0, none⟩) (Ca o).length (Ca o).length ∧ G' = [(b, Cl 83 ((Ca o).flatMap Be))] := by
 obtain ⟨q1, q2, q3⟩ := (Eo o).1 ho
 refine Con.enter Q51_ok (args := [vop o, vb f]) (by simp [Q51]) fun w0 => ?_
 simp only [Q51, A3]
 repeat' first
   | refine EV.seq ?_
   | refine EV.skip ?_
   | refine rg ?_
   | (refine Aq.call (E2 _) ?_; try refine nx ?_)
   | with_reducible assumption
   | (refine Az.merge ?_ (fun hc K' hK => ?_) ?_; rotate_left)
   | (refine cX (fun h => ?_) (fun h => ?_) <;> try exact Ah h)
   | ((first | with_reducible intro b | refine xrA rfl ?_ | refine xiA rfl ?_ | fail); try refine nx ?_)
   | exact ⟨⟩
   | fail
 ·refine EV.to (ρ' := [(4, .slice (some ⟨b, 0, none⟩) 1 1)]) (G' := [(b, Cl 83 (Be o))]) ?_ (by simp (disch := omega) only [List.forall_mem_cons, List.not_mem_nil, false_implies, implies_true, and_true, true_and, Al, As, reduceIte, Nat.reduceEqDiff, Option.some.injEq, Value.int.injEq, w64, Int.natCast_add, Int.natCast_one, Int.cast_ofNat_Int, Int.natCast_zero]) (by simp)
  (refine rt Q51_ok ?_; try with_reducible exact ⟨⟩)
  have he : Ca o = [o] := by simp [Ca, h]
  exact ⟨b, by rw [he]; rfl, by rw [he]; rfl⟩
 ·have h5 : o.kind ≠ 5 := by
   intro h5
   have := h.1
   simp [Bh, h5] at this
  refine Aq.call (P0 _ _ q1 q2 h5) ?_
  (refine nx ?_; try with_reducible exact ⟨⟩)
  repeat' first
    | refine EV.seq ?_
    | (refine EV.any _ (List.Sublist.refl _) ?_; (conv => (arg 2; whnf)); refine nx ?_)
    | ((first | refine Aq.call (H8) ?_ | with_reducible intro b | refine xrA rfl ?_ | fail); try refine nx ?_)
    | (refine xw ?_; refine nx ?_)
    | (refine And.intro (Aa.le_refl _) (And.intro (fun p hp => hp) ?_))
    | exact ⟨⟩
    | fail
  have he : Ca o = [Gs, { o with ord := Ie o.kind o.ord }, Gs] := by simp [Ca, h]
  rename_i b1
  refine EV.to (ρ' := [(4, .slice (some ⟨b, 0, none⟩) 3 3)]) (G' := [(b, Cl 83 (Be Gs ++ Be { o with ord := Ie o.kind o.ord } ++ Be Gs))]) ?_ (by simp (disch := omega) only [List.forall_mem_cons, List.not_mem_nil, false_implies, implies_true, and_true, true_and, Al, As, reduceIte, Nat.reduceEqDiff, Option.some.injEq, Value.int.injEq, w64, Int.natCast_add, Int.natCast_one, Int.cast_ofNat_Int, Int.natCast_zero]) (by simp)
  (refine rt Q51_ok ?_; try with_reducible exact ⟨⟩)
  exact ⟨b, by rw [he]; rfl, by rw [he]; rfl⟩
end
end Go.EV

namespace Go.EV
open Go.Proofs
end Go.EV

namespace Go.EV
open Go.Proofs
def Dx (f : OpV → Bool → List OpV) : Bool → List OpV → List OpV
 | _, [] => []
 | b, o :: l => f o b ++ Dx f (b && !Bh o) l
def N8 (l : List OpV) : Bool := l.all fun o => !Bh o
theorem Kk (f : OpV → Bool → List OpV) : ∀ (l1 : List OpV) (b : Bool) (l2 : List OpV), Dx f b (l1 ++ l2) = Dx f b l1 ++ Dx f (b && N8 l1) l2
 | [], b, l2 => by simp [Dx, N8]
 | o :: l1, b, l2 => by simp [Dx, Kk f l1, N8, Bool.and_assoc]
theorem Wl (f : OpV → Bool → List OpV) {l : List OpV} {j : Nat} (hj : j < l.length) : Dx f true (l.take (j + 1)) = Dx f true (l.take j) ++ f l[j] (N8 (l.take j)) := by
 rw [List.take_succ_eq_append_getElem hj, Kk]; simp [Dx]
theorem Yk {f : OpV → Bool → List OpV} {l : List OpV} (hf : ∀ o ∈ l, ∀ b, (f o b).length ≤ 3) : ∀ b, (Dx f b l).length ≤ 3 * l.length := by
 induction l with
 | nil => intro b; simp [Dx]
 | cons o l ih =>
  intro b
  have h1 := hf o (by simp) b
  have h2 := ih (fun o' ho' => hf o' (by simp [ho'])) (b && !Bh o)
  simp [Dx]; omega
theorem Wm {l : List OpV} {j : Nat} (hj : j < l.length) : N8 (l.take (j + 1)) = (N8 (l.take j) && !Bh l[j]) := by
 unfold N8
 rw [List.take_succ_eq_append_getElem hj, List.all_append]; simp
section
variable {M : Aa}
def ByC (P : Program) (T g : Nat) (f : OpV → Bool → List OpV) (l : List OpV) : Prop :=
 ∀ (M : Aa) (o : OpV) (b : Bool), o ∈ l → (f o b).length ≤ 3 ∧ Con P g #[vop o, vb b] M [] fun v _ G' => ∃ ov, v = osv ov (f o b).length ∧ E7 5 ov (f o b).length ((f o b).flatMap Be) ∧ G' = osg T ov ((f o b).flatMap Be)
theorem Ar5 (l : List OpV) : ok1 (l.flatMap Be) := by
 intro v hv
 simp only [List.mem_flatMap] at hv
 obtain ⟨o, _, hv⟩ := hv
 simp at hv
 rcases hv with rfl | rfl | rfl | rfl | rfl <;> rfl
set_option maxHeartbeats 4000000 in
theorem Lh (f : OpV → Bool → List OpV) (g : Nat) (ts : List (List OpV)) (s : Value) (hs : Gw M 5 Be s ts) (hb : ts.flatten.length < 1000000) (hb' : ts.length < 1000000)
  (hg : ByC Tryz.prog 83 g f ts.flatten) :
  Con Tryz.prog 69 #[.agg #[s], .func (.func g) #[] #[]] M [] fun v M' _ => ∃ s', v = .agg #[s'] ∧ Gw M' 5 Be s' (ts.map (Dx f true)) := by
 obtain ⟨a, c, vs, rfl, hl, hrd, hk⟩ := hs
 refine Con.enter Q56_ok (args := [.agg #[.slice a ts.length c], .func (.func g) #[] #[]]) (by simp [Q56]) fun w0 => ?_
 simp only [Q56, A3]
 repeat' first
   | refine EV.seq ?_
   | refine EV.block ?_
   | refine rg ?_
   | ((first | with_reducible intro b | refine xsA rfl ?_ | fail); try refine nx ?_)
   | exact ⟨⟩
   | fail
 rename_i b2 b4
 refine EV.to (ρ' := [(1, .func (.func g) #[] #[]), (4, pv b4 0), (5, pv b 0), (13, .slice a ts.length c), (14, vi ts.length), (15, vi (0 : Nat))])
  (G' := [(b, Cl 24 [osv none 0]), (b4, Cl 24 [.slice none 0 0])] ++ osg 70 none []) ?_ ?env0 eS
 case env0 =>
  exact eE
 refine EV.loop (fun x : Nat × Aa × Vec × List Value => ([(1, .func (.func g) #[] #[]), (4, pv b4 0), (5, pv b 0), (13, .slice a ts.length c), (14, vi ts.length), (15, vi x.1)], x.2.1,
   [(b, Cl 24 [osv x.2.2.1 x.1]), (b4, Cl 24 [.slice none 0 0])] ++ osg 70 x.2.2.1 x.2.2.2))
  (fun x => x.1 ≤ ts.length ∧ M.le x.2.1 ∧ E7 1 x.2.2.1 x.1 x.2.2.2 ∧ x.2.2.2.length = x.1 ∧ ∀ k (h : k < x.2.2.2.length) (h' : k < ts.length), Sl x.2.1 5 Be x.2.2.2[k] (Dx f true ts[k]))
  (fun x => ts.length - x.1) (0, M, none, []) ⟨Nat.zero_le _, Aa.le_refl _, ⟨rfl, rfl⟩, rfl, fun k h => absurd h (by simp)⟩ ?_
 rintro ⟨i, Mi, oq, vs'⟩ ⟨hi, hMi, hoq, hlen', hSl⟩ ih
 dsimp only at hi hMi hoq hlen' hSl ih ⊢
 repeat' first
   | refine EV.seq ?_
   | refine EV.skip ?_
   | refine EV.block ?_
   | refine rg ?_
   | (refine cX (fun h => ?_) (fun h => ?_) <;> try exact Ah h)
   | (refine EV.exit rfl ?_)
   | (refine xrA rfl ?_; try refine nx ?_)
   | (refine xw ?_; refine nx ?_)
   | exact ⟨⟩
   | fail
 ·have hi' : i < ts.length := by omega
  obtain ⟨pb, po, rfl, hat⟩ := Gw.at (hrd.mono hMi) hl (fun k h h' => (hk k h h').mono hMi) (by omega)
  obtain ⟨a', c', hr1, hr2⟩ := hat i hi'
  simp only [Nat.mul_one] at hr1
  have hlen : ts[i].length ≤ ts.flatten.length := by have := Dh hi'; have h2 := B9 ts (i + 1); rw [this, List.length_append] at h2; omega
  have hmem : ∀ o ∈ ts[i], o ∈ ts.flatten := fun o ho => List.mem_flatten.2 ⟨ts[i], List.getElem_mem hi', ho⟩
  repeat' first
    | refine EV.seq ?_
    | refine EV.block ?_
    | refine rg ?_
    | (refine And.intro (by omega) ?_)
    | (refine xn ?_; try refine nx ?_)
    | exact ⟨⟩
    | fail
  refine EV.to (ρ' := [(1, .func (.func g) #[] #[]), (4, pv b4 0), (5, pv b 0), (8, osv none (Dx f true (ts[i].take 0)).length), (9, vb (N8 (ts[i].take 0))), (13, .slice (some ⟨pb, po, none⟩) ts.length c), (14, vi ts.length), (15, vi i), (19, .slice a' ts[i].length c'), (20, vi ts[i].length), (21, vi (0 : Nat))])
   (G' := [(b, Cl 24 [osv oq i]), (b4, Cl 24 [.slice none 0 0])] ++ (osg 70 oq vs' ++ osg 83 none ((Dx f true (ts[i].take 0)).flatMap Be))) ?_ ?env1 (by simp only [osg, List.append_nil]; exact List.Sublist.refl _)
  case env1 =>
   exact eE
  refine EV.loop (fun x : Nat × Vec => ([(1, .func (.func g) #[] #[]), (4, pv b4 0), (5, pv b 0), (8, osv x.2 (Dx f true (ts[i].take x.1)).length), (9, vb (N8 (ts[i].take x.1))), (13, .slice (some ⟨pb, po, none⟩) ts.length c), (14, vi ts.length), (15, vi i), (19, .slice a' ts[i].length c'), (20, vi ts[i].length), (21, vi x.1)], Mi,
    [(b, Cl 24 [osv oq i]), (b4, Cl 24 [.slice none 0 0])] ++ (osg 70 oq vs' ++ osg 83 x.2 ((Dx f true (ts[i].take x.1)).flatMap Be))))
   (fun x => x.1 ≤ ts[i].length ∧ E7 5 x.2 (Dx f true (ts[i].take x.1)).length ((Dx f true (ts[i].take x.1)).flatMap Be))
   (fun x => ts[i].length - x.1) (0, none) ⟨Nat.zero_le _, rfl, rfl⟩ ?_
  rintro ⟨j, ov⟩ ⟨hj, hov⟩ ih2
  dsimp only at hj hov ih2 ⊢
  repeat' first
    | refine EV.seq ?_
    | refine EV.skip ?_
    | refine EV.block ?_
    | refine rg ?_
    | (refine cX (fun h => ?_) (fun h => ?_) <;> try exact Ah h)
    | (refine EV.exit rfl ?_)
    | ((first | with_reducible intro b | refine xsA rfl ?_ | fail); try refine nx ?_)
    | exact ⟨⟩
    | fail
  ·have hj' : j < ts[i].length := by omega
   obtain ⟨qb, qo, rfl, hat2⟩ := Sl.at (enc := Be) (fun _ => rfl) (by omega) hr2 (by omega)
   have hr3 := hat2 j hj'
   repeat' first
     | refine EV.seq ?_
     | refine rg ?_
     | (with_reducible intro b; try refine nx ?_)
     | (refine And.intro (by omega) ?_)
     | ((first | refine xm ?_ | refine xrA rfl ?_ | fail); try refine nx ?_)
     | (refine xw ?_; refine nx ?_)
     | exact ⟨⟩
     | fail
   have hgj := fun M => hg M ts[i][j] (N8 (ts[i].take j)) (hmem _ (List.getElem_mem hj'))
   have hlen3 := (hgj M).1
   refine Con.callB (G1 := []) (hgj _).2 (Aa.le_refl _) (List.Perm.refl _) ?_
   rintro v M' G' ⟨ov', rfl, hov', rfl⟩
   (refine nx ?_; try with_reducible exact ⟨⟩)
   have hrl : (Dx f true (ts[i].take j)).length ≤ 3 * (ts[i].take j).length := Yk (fun o ho b => (hg M o b (hmem _ (List.mem_of_mem_take ho))).1) true
   have htl : (ts[i].take j).length ≤ j := by simp; omega
   refine ⟨_, D7 (T := 83) hov' (fun p hp => by simp [hp]), Ar5 _, Or.inl ⟨ov, _, rfl, _, hov, _, B7 [[_, _, _], osg 70 oq vs', osg 83 ov _, osg 83 ov' _] 2 (by simp), ?_, ?_, ?_⟩⟩
   ·simp only [maxLen]; omega
   ·omega
   intro o' ho' _
   simp only [List.eraseIdx_cons_succ, List.eraseIdx_cons_zero, List.getElem_cons_succ, List.getElem_cons_zero, List.insertIdx_zero, List.insertIdx_succ_cons, Dw, Dv, Dt, List.nil_append, List.cons_append, List.append_assoc, List.append_nil]
   repeat' first
     | refine EV.inBlock ?_
     | refine rg ?_
     | (refine Aq.call (E2 _) ?_; try refine nx ?_)
     | with_reducible assumption
     | (refine Az.merge ?_ (fun hc K' hK => ?_) ?_; rotate_left)
     | (refine xrA rfl ?_; try refine nx ?_)
     | exact ⟨⟩
     | fail
   have e := Wl (f := f) hj'
   have ih3 := ih2 (j + 1, o') ⟨by dsimp only; omega, by rw [e, List.length_append, List.flatMap_append]; exact ho'⟩ (by dsimp only; omega)
   dsimp only at ih3
   rw [Wm hj', e, List.length_append, List.flatMap_append] at ih3
   refine EV.to ih3 ?_ eS
   exact eE
  ·have hj' : j = ts[i].length := by omega
   subst hj'
   rw [List.take_length] at hov ⊢
   refine ⟨[osv ov (Dx f true ts[i]).length], Or.inr ⟨b, 0, rfl, An 0 rfl rfl (by simp)⟩, by simp [B6, C7, Value.oneCell'], Or.inl ⟨oq, i, rfl, vs', hoq, _, B7 [[_, _, _], osg 70 oq vs', osg 83 ov _] 1 (by simp), ?_, ?_, ?_⟩⟩
   ·simp only [maxLen]; omega
   ·omega
   intro o' ho' _
   simp only [List.eraseIdx_cons_succ, List.eraseIdx_cons_zero, List.getElem_cons_succ, List.getElem_cons_zero, List.insertIdx_zero, List.insertIdx_succ_cons, Dw, Dv, Dt, List.nil_append, List.cons_append, List.append_assoc, List.append_nil]
   repeat' first
     | refine EV.inBlock ?_
     | refine rg ?_
     | (refine xw ?_; refine nx ?_)
     | exact ⟨⟩
     | fail
   refine EV.permG ?_ (B7 [[_, _, _], osg 83 ov _, osg 70 o' _] 1 (by simp))
   simp only [List.eraseIdx_cons_succ, List.eraseIdx_cons_zero, List.getElem_cons_succ, List.getElem_cons_zero, List.insertIdx_zero, List.insertIdx_succ_cons, Dw, Dv, Dt, List.nil_append, List.cons_append, List.append_assoc, List.append_nil]
   refine EV.freeze ?_
   have ih3 := ih (i + 1, Mi.add (osg 83 ov ((Dx f true ts[i]).flatMap Be)), o', vs' ++ [osv ov (Dx f true ts[i]).length]) ⟨by dsimp only; omega, Aa.le_trans hMi (Aa.le_add _ _), ho', by simp [hlen'], ?_⟩ (by dsimp only; omega)
   dsimp only at ih3
   refine EV.to ih3 ?_ eS
   ·exact eE
   ·intro k hk1 hk2
    dsimp only at hk1 hk2 ⊢
    by_cases hkl : k < vs'.length
    ·rw [List.getElem_append_left hkl]
     exact (hSl k hkl hk2).mono (Aa.le_add _ _)
    ·have : k = i := by simp at hk1; omega
     subst this
     rw [List.getElem_append_right (by omega)]
     simp only [hlen', Nat.sub_self, List.getElem_cons_zero]
     exact ⟨_, _, rfl, D7 hov (fun p hp => hp)⟩
 ·have hi2 : i = ts.length := by omega
  subst hi2
  refine EV.permG ?_ (B7 [[_, _], osg 70 oq vs'] 1 (by simp))
  simp only [List.eraseIdx_cons_succ, List.eraseIdx_cons_zero, List.getElem_cons_succ, List.getElem_cons_zero, List.insertIdx_zero, List.insertIdx_succ_cons, Dw, Dv, Dt, List.nil_append, List.cons_append, List.append_assoc, List.append_nil]
  refine EV.freeze ?_
  (refine rt Q56_ok ?_; try with_reducible exact ⟨⟩)
  refine ⟨_, An 1 rfl rfl (by simp), _, rfl, oad oq, Lt oq, vs', by simp, by simpa using hlen', ?_, ?_⟩
  ·simpa using D7 hoq (fun p hp => hp)
  ·intro k h1 h2
   simp only [List.getElem_map]
   exact (hSl k h1 (by simpa using h2)).mono (Aa.le_add _ _)
end
end Go.EV

namespace Go.EV
open Go.Proofs
def Dp (l : List OpV) : List OpV := l.flatMap Ca
theorem Rq : ∀ (b : Bool) (l : List OpV), Dx (fun o _ => Ca o) b l = Dp l
 | _, [] => rfl
 | b, o :: l => by rw [Dx, Rq]; simp [Dp]
theorem Cu {ts : List (List OpV)} (h : Bd ts = 0) : Fg ts = true ∧ ts.length ≠ 0 ∧ ts.flatten.all Lg = true := by
 unfold Bd at h
 split at h
 ·omega
 ·split at h
  ·omega
  ·split at h
   ·rename_i h1 h2 h3; exact ⟨by simpa using h1, h2, h3⟩
   ·omega
theorem Gz {ts : List (List OpV)} (h : Bd ts = 0) : ts.flatten.length ≤ 14 ∧ ts.length ≤ 3 := by
 obtain ⟨hl, _, hall⟩ := Cu h
 have key : ∀ (l : List OpV) (s : LimS), (∀ o ∈ l, Lg o = true) → (l.length : Int) + s.acc + s.fen ≤ (l.foldl Ak s).acc + (l.foldl Ak s).fen := by
  intro l
  induction l with
  | nil => intro s _; simp
  | cons o l ih =>
   intro s h
   have ih2 := ih (Ak s o) (fun x hx => h x (List.mem_cons_of_mem _ hx))
   obtain ⟨q1, _, _⟩ := (Eo o).1 (h o (List.mem_cons_self ..))
   have hk : 0 ≤ o.kind ∧ o.kind < 6 := by simp only [Te, Bool.and_eq_true, decide_eq_true_eq] at q1; exact q1.1
   have h1 : s.acc + s.fen + 1 ≤ (Ak s o).acc + (Ak s o).fen := by
    unfold Ak
    split
    ·dsimp only; omega
    ·rw [if_pos (by simp [Bh]; omega)]
     dsimp only
     split <;> omega
   rw [List.foldl_cons, List.length_cons]
   omega
 have := key ts.flatten ⟨0, 0, 0, 0, 0⟩ (List.all_eq_true.1 hall)
 simp only [Fg, Bool.and_eq_true, decide_eq_true_eq] at hl
 have e : (A5 ts.flatten) = ts.flatten.foldl Ak ⟨0, 0, 0, 0, 0⟩ := rfl
 rw [← e] at this
 dsimp only at this
 exact ⟨by omega, by omega⟩
theorem Je (o : OpV) : (Ca o).length ≤ 3 := by
 unfold Ca; split <;> simp
section
variable {M : Aa}
theorem Ar6 {l : List OpV} (hl : ∀ o ∈ l, Lg o = true) : ByC Tryz.prog 83 70 (fun o _ => Ca o) l := by
 intro M o b ho
 refine ⟨Je o, (Jd o b (hl o ho)).mono ?_⟩
 rintro v M' G' ⟨bb, rfl, rfl⟩
 refine ⟨some (bb, (Ca o).length, []), rfl, ⟨?_, ?_, Nat.le_refl _, ?_⟩, by simp [osg]⟩
 ·rw [Ff (sz := 5) (fun _ => rfl)]
 ·rw [List.append_nil, Ff (sz := 5) (fun _ => rfl)]
 ·have := Je o; simp only [maxLen]; omega
theorem L0 (ts : List (List OpV)) (s : Value) (hs : Gw M 5 Be s ts) (hb : Sized ts) :
  Con Tryz.prog 30 #[.agg #[s]] M [] fun v M' _ => (Bd ts ≠ 0 ∧ v = .tuple #[.agg #[.slice none 0 0], vi (Bd ts)]) ∨ (Bd ts = 0 ∧ ∃ s', v = .tuple #[.agg #[s'], vi 0] ∧ Gw M' 5 Be s' (ts.map Dp)) := by
 have hs0 := hs
 obtain ⟨a, c, vs, rfl, hl, hrd, hk⟩ := hs
 refine Con.enter Q50_ok (args := [.agg #[.slice a ts.length c]]) (by simp [Q50]) fun w0 => ?_
 simp only [Q50, A3]
 repeat' first
   | refine EV.seq ?_
   | refine EV.skip ?_
   | refine rg ?_
   | (refine Aq.call (N7 _ _ (hs0.mono (Aa.le_add _ _)) hb) ?_; try refine nx ?_)
   | (refine cX (fun h => ?_) (fun h => ?_) <;> try exact Ah h)
   | refine rt Q50_ok ?_
   | ((first | with_reducible intro b | refine xrA rfl ?_ | fail); try refine nx ?_)
   | (refine xw ?_; refine nx ?_)
   | exact ⟨⟩
   | fail
 ·exact .inl h
 ·obtain ⟨_, _, hall⟩ := Cu h
  have hsm := Gz h
  refine Con.callA (G1 := []) (Lh _ _ ts _ hs0 (by omega) (by omega) (Ar6 (List.all_eq_true.1 hall))) (List.Perm.refl _) ?_
  rintro v M' G' hM' ⟨s', rfl, hs'⟩
  obtain ⟨a', c', vs', rfl, hr'⟩ := hs'
  (refine nx ?_; try with_reducible exact ⟨⟩)
  repeat' first
    | refine rt Q50_ok ?_
    | (refine xrA rfl ?_; try refine nx ?_)
    | (refine xw ?_; refine nx ?_)
    | exact ⟨⟩
    | fail
  refine .inr ⟨h, _, rfl, ?_⟩
  have e : Dx (fun o _ => Ca o) true = Dp := funext fun l => Rq true l
  rw [← e]
  exact ⟨a', c', vs', rfl, hr'⟩
end
end Go.EV

namespace Go.EV
variable {P : Program}
def Kl (P : Program) (l : Nat) (args : Array Value) (M : Aa) (G : Own) (Φ : Value → Aa → Own → Prop) : Prop :=
 ∀ w, EV.St w (G.map (·.1)) M M G w → ∃ r : Loop, w.heap[l]? = some (.loop r) ∧ args.size = r.params.size ∧
  On P l r.fn ((r.params.zip args).foldl (fun tmps (t, a) => tmps.setIfInBounds t a) r.tmps) r.assign r.body w fun v w' => ∃ M' G', EV.St w (G.map (·.1)) M M' G' w' ∧ Φ v M' G'
section
variable {C : Cx P} {l : Nat} {args : Array Value} {M : Aa} {G G1 G2 : Own} {K : Value → Aa → Own → Prop} {Φ : Value → Aa → Own → Prop}
theorem Kl.callA (h : Kl P l args M G1 Φ) (hG : G.Perm (G1 ++ G2)) (hk : ∀ v M' G', M.le M' → Φ v M' G' → K v M' (G2 ++ G')) : E0 C l args M G K := by
 intro w hs
 have hs' := hs.perm hG
 obtain ⟨r, h1, h2, h3⟩ := h w (hs'.part (Aa.le_add _ _))
 refine ⟨r, h1, h2, h3.mono ?_⟩
 rintro v w' ⟨M', G', k1, k2⟩
 exact ⟨M', G2 ++ G', (hs'.callA k1).perm List.perm_append_comm, hk v M' G' k1.base k2⟩
end
def Cx.round (P : Program) (l : Nat) (f : FuncId) (nt : Nat) (w0 : World) (F : List Nat) (M0 : Aa) (Φ : Value → Aa → Own → Prop) : Cx P where
 b := { (default : Frame) with fn := f, kind := .normal, roundOf := some l }
 T := fun cs m => ∀ c cs', cs = c :: cs' → ∃ v w', (∃ M' G', EV.St w0 F M0 M' G' w' ∧ Φ v M' G') ∧ Steps P m (lone (c.finish v) cs' w')
 back := by
  intro cs m m' hs h c cs' e
  obtain ⟨v, w', h1, h2⟩ := h c cs' e
  exact ⟨v, w', h1, Steps.trans (.one hs) h2⟩
 nt := nt
 ds := []
 w0 := w0
 F := F
 M0 := M0
def Ck6 : List Nat → List Value → Env → Env
 | t :: ps, v :: vs, ρ => Ck6 ps vs ((t, v) :: ρ)
 | _, _, ρ => ρ
theorem U8 {nt : Nat} : ∀ (ps : List Nat) (vs : List Value) (ρ : Env) (a : Act), (∀ t ∈ ps, t < nt) → Ee nt ρ a →
  Ee nt (Ck6 ps vs ρ) { a with tmps := (ps.zip vs).foldl (fun tmps (t, v) => tmps.setIfInBounds t v) a.tmps }
 | [], _, ρ, a, _, h => h
 | _ :: _, [], ρ, a, _, h => h
 | t :: ps, v :: vs, ρ, a, hp, h => by
  have h1 := h.put t (hp t (List.mem_cons_self ..)) v
  have h2 := U8 ps vs ((t, v) :: ρ) (a.put (some t) v) (fun q hq => hp q (List.mem_cons_of_mem _ hq)) h1
  simpa [Ck6, Act.put] using h2
structure LoopIs (P : Program) (V : List Nat) (r : Loop) (f : FuncId) (nt : Nat) (ps : List Nat) (asn bd : RCode) (ρ : Env) : Prop where
 fn : r.fn = f
 par : r.params.toList = ps
 pb : ∀ t ∈ ps, t < nt
 fits : Ee nt ρ { tmps := r.tmps, defers := [] }
 asg : CmpC P nt V r.assign asn
 body : CmpC P nt V r.body bd
section
variable {l : Nat} {f : FuncId} {nt : Nat} {V : List Nat} {ps : List Nat} {asn bd : RCode} {ρ : Env} {r : Loop} {M : Aa} {G : Own} {Φ : Value → Aa → Own → Prop}
theorem Kl.enter {vs : List Value} (hl : (l, Obj.loop r) ∈ G) (hr : LoopIs P V r f nt ps asn bd ρ) (hv : vs.length = ps.length)
  (h : ∀ w0, EV (Cx.round P l f nt w0 (G.map (·.1)) M Φ) V [.code asn, .begins, .code bd] (Ck6 ps vs ρ) M G) : Kl P l vs.toArray M G Φ := by
 intro w hs
 have hps := hr.par
 refine ⟨r, hs.own _ hl, ?_, ?_⟩
 ·rw [List.size_toArray, hv, ← hps, Array.length_toList]
 ·intro c cs
  have hf : Ee nt (Ck6 ps vs ρ) { tmps := (ps.zip vs).foldl (fun tmps (t, v) => tmps.setIfInBounds t v) r.tmps, defers := [] } := U8 ps vs ρ { tmps := r.tmps, defers := [] } hr.pb hr.fits
  have := h w [.code r.assign, .beginRound, .code r.body] (.cons (.code hr.asg) (.cons .begins (.cons (.code hr.body) .nil))) _ w hf rfl hs (c :: cs) c cs rfl
  obtain ⟨v, w', h1, h2⟩ := this
  refine ⟨v, w', h1, ?_⟩
  have e : (r.params.zip vs.toArray).foldl (fun tmps (t, a) => tmps.setIfInBounds t a) r.tmps = (ps.zip vs).foldl (fun tmps (t, v) => tmps.setIfInBounds t v) r.tmps := by
   rw [← hps, ← Array.foldl_toList, Array.toList_zip]
  rw [e, hr.fn]
  exact h2
theorem St.loopPut {w0 w : World} {F : List Nat} {M0 : Aa} {G0 : Own} {r r' : Loop} (hs : EV.St w0 F M0 M ((l, Obj.loop r) :: G0) w) : EV.St w0 F M0 M ((l, Obj.loop r') :: G0) (w.putObj l (.loop r')) :=
 hs.put (i := 0) (o' := .loop r') rfl rfl ⟨rfl, Nat.le_refl _⟩ rfl (by simp) (fun k hk => World.putObj_heap_other hk) (World.putObj_heap_same (hs.lt (List.mem_cons_self ..)))
variable {w0 : World} {F : List Nat} {M0 : Aa} {G0 : Own} {k : List RItem}
theorem EV.begins (hst : r.state = .ready) (h : EV (Cx.round P l f nt w0 F M0 Φ) V k ρ M ((l, Obj.loop { r with state := .busy }) :: G0)) : EV (Cx.round P l f nt w0 F M0 Φ) V (.begins :: k) ρ M ((l, Obj.loop r) :: G0) := by
 intro k' hk a w hf hd hs cs
 cases hk with
 | cons hx hk => cases hx with
  | begins =>
   have hl := hs.own (l, Obj.loop r) (List.mem_cons_self ..)
   exact (Cx.round P l f nt w0 F M0 Φ).back (stepR_beginRound rfl (run_beginRound hl hst)) (h _ hk a _ hf hd (St.loopPut hs) cs)
theorem EV.endRound (h : Φ (.bool true) M ((l, Obj.loop { r with state := .ready, pending := none }) :: G0)) : EV (Cx.round P l f nt w0 F M0 Φ) V [] ρ M ((l, Obj.loop r) :: G0) := by
 intro k' hk a w hf hd hs cs c cs' e
 subst e
 cases hk
 have hl := hs.own (l, Obj.loop r) (List.mem_cons_self ..)
 exact ⟨_, _, ⟨M, _, St.loopPut hs, h⟩, .one (stepR_round_end rfl rfl (run_endRound none hl))⟩
theorem EV.retRound (h : Φ (.bool false) M ((l, Obj.loop { r with state := .done, pending := some .ret }) :: G0)) : EV (Cx.round P l f nt w0 F M0 Φ) V (.code .ret :: k) ρ M ((l, Obj.loop r) :: G0) := by
 intro k' hk a w hf hd hs cs c cs' e
 subst e
 cases hk with
 | cons hx hk => cases hx with
  | code hc => cases hc with
   | ret =>
    have hl := hs.own (l, Obj.loop r) (List.mem_cons_self ..)
    exact ⟨_, _, ⟨M, _, St.loopPut hs, h⟩, .one (stepR_round_ret rfl rfl (run_endRound (some .ret) hl))⟩
end
end Go.EV

namespace Go.EV
variable {P : Program}
def Ha (ms : List Nat) : List Deferred := ms.map fun d => { target := .collected d, args := #[] }
def L1 (ms : List Nat) : Own := ms.map fun d => (d, Obj.deferred (some []))
def Cx.marks (C : Cx P) (ms : List Nat) : Cx P :=
 {b := C.b, T := C.T, back := C.back, nt := C.nt, ds := Ha ms ++ C.ds, w0 := C.w0, F := C.F, M0 := C.M0 }
abbrev yv (l : Nat) : Value := .func (.yield l) #[] #[]
def P3 (C : Cx P) (V : List Nat) (k : List RItem) (ρ : Env) (l : Nat) (M : Aa) (G : Own) : Prop :=
 ∃ r G', G.Perm ((l, Obj.loop r) :: G') ∧ r.state ≠ .busy ∧
  (match r.pending with
   | none => EV C V k ρ M G'
   | some .ret => EV C V (.code .ret :: k) ρ M G'
   | some (.exit id) => EV C V (.code (.exit id) :: k) ρ M G'
   | _ => False)
theorem Oy (C : Cx P) {cs : List Frame} {m m' : Machine} (h : Steps P m m') (ht : C.T cs m') : C.T cs m := by
 obtain ⟨n, hn⟩ := h
 have key : ∀ (n : Nat) (m m' : Machine), runN P n m = .next m' → C.T cs m' → C.T cs m := by
  intro n
  induction n with
  | zero => intro m m' h1 h2; simp [runN] at h1; subst h1; exact h2
  | succ n ih =>
   intro m m' h1 h2
   simp only [runN] at h1
   cases hst : step P m with
   | next m1 => rw [hst] at h1; exact C.back hst (ih m1 m' h1 h2)
   | ended o w => rw [hst] at h1; simp at h1
 exact key n m m' hn ht
theorem Km {a : Act} {x : Operand} {g : FuncId} {first caps : Array Value} (l : Nat) (w : World) (hx : a.eval x = .func (.func g) first caps) :
  (resolve a.eval (rangeCall x l) 0).run P w = .ok { target := .fn (.func g) caps, args := first ++ #[yv l] } w := by
 have e : (#[Operand.const (Value.func (Fn.yield l) #[] #[])] : Array Operand).map a.eval = #[yv l] := by simp [Act.eval]
 simp only [resolve, rangeCall, hx, e]
 rfl
section
variable {C : Cx P} {V : List Nat} {k : List RItem} {ρ : Env} {M : Aa} {G : Own} {f : A} {ps : List Nat} {asn bd : RCode} {fv : Value} {g : FuncId} {first caps : Array Value}
theorem EV.rangeAux {k' : List Item} (hk : CmpK P C.nt V k' k) {a : Act} {l : Nat} {cs : List Frame} {fr : Frame} {w' : World} {v : Value} {M' : Aa} {G' : Own}
  (hf : Ee C.nt ρ a) (hd : a.defers = C.ds) (hfl : fr.leaving P w' (.returned v)) (hst : C.St M' G' w') (hr : P3 C V k ρ l M' G') :
  C.T cs (lone fr (C.b.atR a (.inRangeFunc l :: k') :: cs) w') := by
 obtain ⟨r, G1, hp, hb, hm⟩ := hr
 refine C.back (step_leave_returned hfl) ?_
 rw [finish_atR_inRangeFunc]
 have hst1 := hst.perm hp
 have hl := hst1.own (l, Obj.loop r) (List.mem_cons_self ..)
 refine C.back (stepR_endRangeFunc (run_endLoop hl hb)) ?_
 have hst2 : C.St M' G1 (w'.putObj l (.loop { r with state := .exhausted })) := (St.loopPut hst1).weaken (List.sublist_cons_self _ _)
 revert hst2
 cases hpe : r.pending with
 | none => rw [hpe] at hm; exact fun hst2 => hm _ hk a _ hf hd hst2 cs
 | some c =>
  rw [hpe] at hm
  cases c with
  | ret => exact fun hst2 => hm _ (.cons (.code .ret) hk) a _ hf hd hst2 cs
  | exit id => exact fun hst2 => hm _ (.cons (.code .exit) hk) a _ hf hd hst2 cs
  | _ => exact hm.elim
theorem EV.rangeF (hro : C.b.roundOf = none) (hfv : ev ρ f = some fv) (hfn : fn? fv = some (g, first, caps))
  (h : ∀ (l d : Nat) (r : Loop), LoopIs P V r C.b.fn C.nt ps asn bd ρ → r.state = .ready → r.pending = none →
   Dr (C.marks [d]) g (first ++ #[yv l] ++ caps) M ((l, Obj.loop r) :: (d, Obj.deferred (some [])) :: G) fun _ M' G' => P3 (C.marks [d]) V k ρ l M' G') :
  EV C V (.code (.rangeF f ps asn bd) :: k) ρ M G := by
 intro k' hk a w hf hd hs cs
 have e0 := Pw hfn
 subst e0
 cases hk with
 | cons hx hk => cases hx with
  | code hc => cases hc with
   | @rangeF x _ ps' asn' bd' _ _ hA hps ha hb =>
    have hx := Ai hf hA hfv
    obtain ⟨hgo, hcall⟩ := h (w.heap.size + 1) w.heap.size { state := .ready, pending := none, fn := C.b.fn, tmps := a.tmps, params := ps', assign := asn', body := bd', defers := w.heap.size }
     ⟨rfl, rfl, hps, ⟨hf.1, hf.2⟩, ha, hb⟩ rfl rfl
    have he := run_enterLoop_outer (P := P) (w := w) C.b.fn a.tmps ps' asn' bd'
    rw [← hro] at he
    have hres := Km (P := P) (w.heap.size + 1) ((w.alloc (.deferred (some []))).alloc (.loop { state := .ready, pending := none, fn := C.b.fn, tmps := a.tmps, params := ps', assign := asn', body := bd', defers := w.heap.size })) hx
    have hinv := F5 hgo (first ++ #[yv (w.heap.size + 1)] ++ caps) ((w.alloc (.deferred (some []))).alloc (.loop { state := .ready, pending := none, fn := C.b.fn, tmps := a.tmps, params := ps', assign := asn', body := bd', defers := w.heap.size }))
    refine C.back (stepR_rangeFunc he hres hinv) ?_
    have hst : (C.marks [w.heap.size]).St M ((w.heap.size + 1, Obj.loop { state := .ready, pending := none, fn := C.b.fn, tmps := a.tmps, params := ps', assign := asn', body := bd', defers := w.heap.size }) :: (w.heap.size, Obj.deferred (some [])) :: G)
      ((w.alloc (.deferred (some []))).alloc (.loop { state := .ready, pending := none, fn := C.b.fn, tmps := a.tmps, params := ps', assign := asn', body := bd', defers := w.heap.size })) := by
     have h1 := hs.alloc (.deferred (some []))
     have h2 := h1.alloc (.loop { state := .ready, pending := none, fn := C.b.fn, tmps := a.tmps, params := ps', assign := asn', body := bd', defers := w.heap.size })
     simpa [Cx.marks] using h2
    obtain ⟨e, w'', fr, ⟨v, he2, M', G', hst', hend⟩, hsteps, hfr, hlv⟩ := hcall _ hst (C.b.atR { a with defers := [{ target := .collected w.heap.size, args := #[] }] ++ a.defers } (.inRangeFunc (w.heap.size + 1) :: _) :: cs)
    subst he2
    refine Oy C hsteps ?_
    refine EV.rangeAux (C := C.marks [w.heap.size]) (a := { a with defers := [{ target := .collected w.heap.size, args := #[] }] ++ a.defers }) hk ⟨hf.1, hf.2⟩ ?_ hlv hst' hend
    show [{ target := .collected w.heap.size, args := #[] }] ++ a.defers = Ha [w.heap.size] ++ C.ds
    rw [hd]; rfl
theorem EV.rangeI {l0 : Nat} {r0 : Loop} (hro : C.b.roundOf = some l0) (hl0 : (l0, Obj.loop r0) ∈ G) (hfv : ev ρ f = some fv) (hfn : fn? fv = some (g, first, caps))
  (h : ∀ (l : Nat) (r : Loop), LoopIs P V r C.b.fn C.nt ps asn bd ρ → r.state = .ready → r.pending = none →
   Dr C g (first ++ #[yv l] ++ caps) M ((l, Obj.loop r) :: G) fun _ M' G' => P3 C V k ρ l M' G') :
  EV C V (.code (.rangeF f ps asn bd) :: k) ρ M G := by
 intro k' hk a w hf hd hs cs
 have e0 := Pw hfn
 subst e0
 cases hk with
 | cons hx hk => cases hx with
  | code hc => cases hc with
   | @rangeF x _ ps' asn' bd' _ _ hA hps ha hb =>
    have hx := Ai hf hA hfv
    obtain ⟨hgo, hcall⟩ := h w.heap.size { state := .ready, pending := none, fn := C.b.fn, tmps := a.tmps, params := ps', assign := asn', body := bd', defers := r0.defers }
     ⟨rfl, rfl, hps, ⟨hf.1, hf.2⟩, ha, hb⟩ rfl rfl
    have he := run_enterLoop_inner (P := P) (w := w) (hs.own _ hl0) C.b.fn a.tmps ps' asn' bd'
    rw [← hro] at he
    have hres := Km (P := P) w.heap.size (w.alloc (.loop { state := .ready, pending := none, fn := C.b.fn, tmps := a.tmps, params := ps', assign := asn', body := bd', defers := r0.defers })) hx
    have hinv := F5 hgo (first ++ #[yv w.heap.size] ++ caps) (w.alloc (.loop { state := .ready, pending := none, fn := C.b.fn, tmps := a.tmps, params := ps', assign := asn', body := bd', defers := r0.defers }))
    refine C.back (stepR_rangeFunc he hres hinv) ?_
    have hst := hs.alloc (.loop { state := .ready, pending := none, fn := C.b.fn, tmps := a.tmps, params := ps', assign := asn', body := bd', defers := r0.defers })
    obtain ⟨e, w'', fr, ⟨v, he2, M', G', hst', hend⟩, hsteps, hfr, hlv⟩ := hcall _ hst (C.b.atR { a with defers := [] ++ a.defers } (.inRangeFunc w.heap.size :: _) :: cs)
    subst he2
    refine Oy C hsteps ?_
    exact EV.rangeAux (C := C) (a := { a with defers := [] ++ a.defers }) hk ⟨hf.1, hf.2⟩ hd hlv hst' hend
end
section
variable {f : FuncId} {w0 : World} {F : List Nat} {M0 M : Aa} {G : Own} {Φ : Value → Aa → Own → Prop} {V Q : List Nat} {k : List RItem} {ρ : Env}
theorem Yl {cs : List Frame} : ∀ (ms : List Nat) {w : World} {fr : Frame}, St w0 F M0 M (L1 ms ++ G) w → fr.mode = .returning → fr.defers = Ha ms →
  ∃ w', St w0 F M0 M G w' ∧ Steps P (lone fr cs w) (lone { fr with defers := [] } cs w')
 | [], w, fr, hs, _, hd => by
  refine ⟨w, by simpa [L1] using hs, ?_⟩
  have : { fr with defers := [] } = fr := by
   cases fr; simp only [Ha, List.map_nil] at hd; subst hd; rfl
  rw [this]; exact Steps.refl _ _
 | d :: ms, w, fr, hs, hm, hd => by
  have hs0 : St w0 F M0 M ((d, Obj.deferred (some [])) :: (L1 ms ++ G)) w := by simpa [L1] using hs
  have hl := hs0.own (d, Obj.deferred (some [])) (List.mem_cons_self ..)
  have h1 := step_collected (P := P) (cs := cs) (fr := fr) (w := w) (d := { target := .collected d, args := #[] }) (r := d) (ds := Ha ms) (calls := []) (by rw [hm]; simp) hd rfl (run_takeDeferred hl)
  have hs1 : St w0 F M0 M ((d, Obj.deferred none) :: (L1 ms ++ G)) (w.putObj d (.deferred none)) :=
   hs0.put (i := 0) (o' := .deferred none) rfl rfl ⟨rfl, Nat.le_refl _⟩ rfl (by simp) (fun k hk => World.putObj_heap_other hk) (World.putObj_heap_same (hs0.lt (List.mem_cons_self ..)))
  obtain ⟨w', h2, h3⟩ := Yl ms (cs := cs) (fr := { fr with defers := [] ++ Ha ms }) (hs1.weaken (List.sublist_cons_self _ _)) hm rfl
  exact ⟨w', h2, Steps.trans (.one h1) h3⟩
theorem EV.retM {R : RFun} (hR : Aj P V Q f = some R) {ms : List Nat} {G1 : Own} (hG : G.Perm (L1 ms ++ G1)) (h : Au3 R ρ M G1 Φ) : EV ((Cx.fn P f R.nt w0 F M0 Φ).marks ms) R.V (.code .ret :: k) ρ M G := by
 unfold Aj at hR
 split at hR
 ·rename_i hgo
  simp only [Option.bind_eq_some_iff] at hR
  obtain ⟨fn, hfn, c, hc, r, hr, res, hres, e⟩ := hR
  cases e
  intro k' hk a w hf hd hs cs
  cases hk with
  | cons hx hk => cases hx with
   | code hc => cases hc with
    | ret =>
     have hd' : a.defers = Ha ms := by rw [hd]; exact List.append_nil _
     obtain ⟨w', hs', hst⟩ := Yl (P := P) (cs := cs) ms (fr := { ((Cx.fn P f fn.ntmps w0 F M0 Φ).marks ms).b.atR a (.code .ret :: _) with mode := .returning }) (hs.perm hG) rfl hd'
     obtain ⟨v, hv, hΦ⟩ := Gc (P := P) (fn := fn) (Q := fun v => Φ v M G1) hf (fun b o hb => hs'.agreeAdd hb) (compRs_ok hres) h
     refine ⟨.returned v, w', _, ⟨v, rfl, M, G1, hs', hΦ⟩, Steps.trans (.one (stepR_ret rfl)) hst, rfl, ?_⟩
     exact ⟨rfl, rfl, rfl, fn, hfn, hv⟩
 ·cases hR
theorem EV.doneM {R : RFun} (hR : Aj P V Q f = some R) {ms : List Nat} {G1 : Own} (hG : G.Perm (L1 ms ++ G1)) (h : Au3 R ρ M G1 Φ) : EV ((Cx.fn P f R.nt w0 F M0 Φ).marks ms) R.V [] ρ M G := by
 unfold Aj at hR
 split at hR
 ·rename_i hgo
  simp only [Option.bind_eq_some_iff] at hR
  obtain ⟨fn, hfn, c, hc, r, hr, res, hres, e⟩ := hR
  cases e
  intro k' hk a w hf hd hs cs
  cases hk with
  | nil =>
   have hd' : a.defers = Ha ms := by rw [hd]; exact List.append_nil _
   obtain ⟨w', hs', hst⟩ := Yl (P := P) (cs := cs) ms (fr := { ((Cx.fn P f fn.ntmps w0 F M0 Φ).marks ms).b.atR a [] with mode := .returning }) (hs.perm hG) rfl hd'
   obtain ⟨v, hv, hΦ⟩ := Gc (P := P) (fn := fn) (Q := fun v => Φ v M G1) hf (fun b o hb => hs'.agreeAdd hb) (compRs_ok hres) h
   refine ⟨.returned v, w', _, ⟨v, rfl, M, G1, hs', hΦ⟩, Steps.trans (.one (stepR_end rfl)) hst, rfl, ?_⟩
   exact ⟨rfl, rfl, rfl, fn, hfn, hv⟩
 ·cases hR
end
section
variable {l : Nat} {f : FuncId} {nt : Nat} {V : List Nat} {ρ : Env} {r : Loop} {M : Aa} {G : Own} {Φ : Value → Aa → Own → Prop} {w0 : World} {F : List Nat} {M0 : Aa} {G0 : Own} {k : List RItem}
theorem Ym {r : Loop} (h1 : r.state = .ready) (h2 : r.pending = none) : ({ { r with state := .busy } with state := .ready, pending := none } : Loop) = r := by
 cases r; simp only at h1 h2; subst h1 h2; rfl
end
def Yn {α : Type} (P : Program) (g : FuncId) (first caps : Array Value) (M : Aa) (L : List α) (El : α → Value → Aa → Prop) : Prop :=
 ∀ (l : Nat) (I : List α → Aa → Own → Prop) (S : Aa → Own → Prop) (M1 : Aa) (G : Own), M.le M1 →
  (∀ xs M2 M3 G2, M2.le M3 → I xs M2 G2 → I xs M3 G2) →
  (∀ xs x, x ∈ L → ∀ M2 G2 v, M1.le M2 → I xs M2 G2 → El x v M2 → Kl P l #[v] M2 G2 fun b M3 G3 => (b = .bool true ∧ I (xs ++ [x]) M3 G3) ∨ (b = .bool false ∧ S M3 G3)) →
  ∀ xs, I xs M1 G → Con P g (first ++ #[yv l] ++ caps) M1 G fun _ M' G' => I (xs ++ L) M' G' ∨ S M' G'
theorem Yn.mono {α : Type} {g : FuncId} {first caps : Array Value} {M M' : Aa} {L : List α} {El : α → Value → Aa → Prop} (h : Yn P g first caps M L El) (hM : M.le M') : Yn P g first caps M' L El :=
 fun l I S M1 G hle => h l I S M1 G (Aa.le_trans hM hle)
def U9 (l : Nat) (r : Loop) (N : Aa → Own → Prop) (S : Code → Aa → Own → Prop) (b : Value) (M : Aa) (G : Own) : Prop :=
 (b = .bool true ∧ ∃ G', G.Perm ((l, Obj.loop r) :: G') ∧ N M G') ∨
 (b = .bool false ∧ ∃ c G', G.Perm ((l, Obj.loop { r with state := .done, pending := some c }) :: G') ∧ S c M G')
abbrev Cx.rnd (P : Program) (l : Nat) (r : Loop) (f : FuncId) (nt : Nat) (w0 : World) (F : List Nat) (M0 : Aa) (N : Aa → Own → Prop) (S : Code → Aa → Own → Prop) : Cx P :=
 Cx.round P l f nt w0 F M0 (U9 l r N S)
section
variable {l : Nat} {f : FuncId} {nt : Nat} {V : List Nat} {ρ : Env} {r : Loop} {M : Aa} {G : Own} {N : Aa → Own → Prop} {S : Code → Aa → Own → Prop} {w0 : World} {F : List Nat} {M0 : Aa} {G0 : Own} {k : List RItem}
theorem EV.rbegin (hst : r.state = .ready) (h : EV (Cx.rnd P l r f nt w0 F M0 N S) V k ρ M ((l, Obj.loop { r with state := .busy }) :: G0)) : EV (Cx.rnd P l r f nt w0 F M0 N S) V (.begins :: k) ρ M ((l, Obj.loop r) :: G0) := EV.begins hst h
theorem EV.rend (h1 : r.state = .ready) (h2 : r.pending = none) (hG : G.Perm ((l, Obj.loop { r with state := .busy }) :: G0)) (h : N M G0) : EV (Cx.rnd P l r f nt w0 F M0 N S) V [] ρ M G := by
 refine EV.permG (EV.endRound ?_) hG
 refine .inl ⟨rfl, G0, ?_, h⟩
 rw [Ym h1 h2]
theorem EV.rret (hG : G.Perm ((l, Obj.loop { r with state := .busy }) :: G0)) (h : S .ret M G0) : EV (Cx.rnd P l r f nt w0 F M0 N S) V (.code .ret :: k) ρ M G := by
 refine EV.permG (EV.retRound ?_) hG
 exact .inr ⟨rfl, _, G0, List.Perm.refl _, h⟩
end
def Va (C : Cx P) (V : List Nat) (k : List RItem) (ρ : Env) (c : Code) (M : Aa) (G : Own) : Prop :=
 match c with
 | .ret => EV C V (.code .ret :: k) ρ M G
 | .exit id => EV C V (.code (.exit id) :: k) ρ M G
 | _ => False
section
variable {α : Type} {C : Cx P} {V : List Nat} {k : List RItem} {ρ : Env} {M : Aa} {G : Own} {f : A} {ps : List Nat} {asn bd : RCode} {fv : Value} {g : FuncId} {first caps : Array Value}
theorem L2 {L : List α} {El : α → Value → Aa → Prop} (hit : Yn P g first caps M L El) (I : List α → Aa → Own → Prop) (S : Code → Aa → Own → Prop)
  {l : Nat} {r : Loop} {fn : FuncId} {nt t : Nat} (hr : LoopIs P V r fn nt [t] asn bd ρ)
  (hmono : ∀ xs M2 M3 G2, M2.le M3 → I xs M2 G2 → I xs M3 G2)
  (hbody : ∀ xs x v M2 G2 w0 F, x ∈ L → M.le M2 → I xs M2 G2 → El x v M2 → EV (Cx.rnd P l r fn nt w0 F M2 (I (xs ++ [x])) S) V [.code asn, .begins, .code bd] ((t, v) :: ρ) M2 ((l, Obj.loop r) :: G2))
  {G0 : Own} (hI : I [] M G0) :
  Con P g (first ++ #[yv l] ++ caps) M ((l, Obj.loop r) :: G0) fun _ M' G' => (∃ G1, G'.Perm ((l, Obj.loop r) :: G1) ∧ I L M' G1) ∨ (∃ c G1, G'.Perm ((l, Obj.loop { r with state := .done, pending := some c }) :: G1) ∧ S c M' G1) := by
 have := hit l (fun xs M2 G2 => ∃ G1, G2.Perm ((l, Obj.loop r) :: G1) ∧ I xs M2 G1) (fun M2 G2 => ∃ c G1, G2.Perm ((l, Obj.loop { r with state := .done, pending := some c }) :: G1) ∧ S c M2 G1) M ((l, Obj.loop r) :: G0) (Aa.le_refl _)
  (fun xs M2 M3 G2 hle ⟨G1, h1, h2⟩ => ⟨G1, h1, hmono _ _ _ _ hle h2⟩) ?_ [] ⟨G0, List.Perm.refl _, hI⟩
 ·exact this
 ·rintro xs x hx M2 G2 v hM2 ⟨G1, hp, h2⟩ hv
  have hy : Kl P l [v].toArray M2 ((l, Obj.loop r) :: G1) (U9 l r (I (xs ++ [x])) S) :=
   Kl.enter (List.mem_cons_self ..) hr rfl fun w0 => hbody xs x v M2 G1 w0 _ hx hM2 h2 hv
  intro w hs
  obtain ⟨r', e1, e2, e3⟩ := hy w (by
   have hs' := hs.perm hp
   have : St w ((((l, Obj.loop r) :: G1)).map (·.1)) M2 M2 ((l, Obj.loop r) :: G1) w := St.enter hs'.agree hs'.own hs'.sep hs'.nodup
   exact this)
  refine ⟨r', e1, e2, e3.mono ?_⟩
  rintro b w' ⟨M', G', k1, k2⟩
  refine ⟨M', G', ?_, ?_⟩
  ·have hmem : ∀ b, b ∈ (((l, Obj.loop r) :: G1).map (·.1)) ↔ b ∈ G2.map (·.1) := fun b => ((hp.map (·.1)).mem_iff).symm
   exact ⟨k1.os, k1.tape, k1.output, k1.size, fun b hb hf => k1.frame b hb (fun h => hf ((hmem b).1 h)), k1.agree, k1.own, k1.sep, fun p hp' => (k1.new p hp').imp (hmem _).1 id, k1.nodup, k1.base,
    fun b o hm => (k1.fresh b o hm).imp id fun h => h.imp (hmem _).1 id⟩
  ·rcases k2 with ⟨rfl, G3, h3, h4⟩ | ⟨rfl, c, G3, h3, h4⟩
   ·exact .inl ⟨rfl, G3, h3, h4⟩
   ·exact .inr ⟨rfl, c, G3, h3, h4⟩
theorem EV.over {L : List α} {El : α → Value → Aa → Prop} (hro : C.b.roundOf = none) (hfv : ev ρ f = some fv) (hfn : fn? fv = some (g, first, caps)) (hit : Yn P g first caps M L El)
  (I : Nat → List α → Aa → Own → Prop) (S : Nat → Code → Aa → Own → Prop) {t : Nat}
  (hmono : ∀ d xs M2 M3 G2, M2.le M3 → I d xs M2 G2 → I d xs M3 G2)
  (hI : ∀ d, I d [] M ((d, Obj.deferred (some [])) :: G))
  (hbody : ∀ l d (r : Loop), r.state = .ready → r.pending = none → ∀ xs x v M2 G2 w0 F, x ∈ L → M.le M2 → I d xs M2 G2 → El x v M2 →
   EV (Cx.rnd P l r C.b.fn C.nt w0 F M2 (I d (xs ++ [x])) (S d)) V [.code asn, .begins, .code bd] ((t, v) :: ρ) M2 ((l, Obj.loop r) :: G2))
  (hend : ∀ d M' G', M.le M' → I d L M' G' → EV (C.marks [d]) V k ρ M' G')
  (hjump : ∀ d c M' G', M.le M' → S d c M' G' → Va (C.marks [d]) V k ρ c M' G') :
  EV C V (.code (.rangeF f [t] asn bd) :: k) ρ M G := by
 refine EV.rangeF hro hfv hfn fun l d r hr h1 h2 => ?_
 refine Con.callA (G2 := []) (L2 hit (I d) (S d) hr (hmono d) (fun xs x v M2 G2 w0 F => hbody l d r h1 h2 xs x v M2 G2 w0 F) (hI d)) (by simp) ?_
 rintro v M' G' hM' (⟨G1, hp, h3⟩ | ⟨c, G1, hp, h3⟩)
 ·refine ⟨r, G1, by simpa using hp, by rw [h1]; simp, ?_⟩
  rw [h2]; exact hend d M' G1 hM' h3
 ·refine ⟨_, G1, by simpa using hp, by simp, ?_⟩
  have := hjump d c M' G1 hM' h3
  cases c <;> first | exact this | exact this.elim
theorem EV.overI {L : List α} {El : α → Value → Aa → Prop} {l0 : Nat} {r0 : Loop} (hro : C.b.roundOf = some l0) (hl0 : (l0, Obj.loop r0) ∈ G) (hfv : ev ρ f = some fv) (hfn : fn? fv = some (g, first, caps)) (hit : Yn P g first caps M L El)
  (I : List α → Aa → Own → Prop) (S : Code → Aa → Own → Prop) {t : Nat}
  (hmono : ∀ xs M2 M3 G2, M2.le M3 → I xs M2 G2 → I xs M3 G2)
  (hI : I [] M G)
  (hbody : ∀ l (r : Loop), r.state = .ready → r.pending = none → ∀ xs x v M2 G2 w0 F, x ∈ L → M.le M2 → I xs M2 G2 → El x v M2 →
   EV (Cx.rnd P l r C.b.fn C.nt w0 F M2 (I (xs ++ [x])) S) V [.code asn, .begins, .code bd] ((t, v) :: ρ) M2 ((l, Obj.loop r) :: G2))
  (hend : ∀ M' G', M.le M' → I L M' G' → EV C V k ρ M' G')
  (hjump : ∀ c M' G', M.le M' → S c M' G' → Va C V k ρ c M' G') :
  EV C V (.code (.rangeF f [t] asn bd) :: k) ρ M G := by
 refine EV.rangeI hro hl0 hfv hfn fun l r hr h1 h2 => ?_
 refine Con.callA (G2 := []) (L2 hit I S hr hmono (fun xs x v M2 G2 w0 F => hbody l r h1 h2 xs x v M2 G2 w0 F) hI) (by simp) ?_
 rintro v M' G' hM' (⟨G1, hp, h3⟩ | ⟨c, G1, hp, h3⟩)
 ·refine ⟨r, G1, by simpa using hp, by rw [h1]; simp, ?_⟩
  rw [h2]; exact hend M' G1 hM' h3
 ·refine ⟨_, G1, by simpa using hp, by simp, ?_⟩
  have := hjump c M' G1 hM' h3
  cases c <;> first | exact this | exact this.elim
end
theorem EV.loopTo {C : Cx P} {V : List Nat} {k : List RItem} {ρ : Env} {M : Aa} {G : Own} {c : RCode} {α : Type} (st : α → Env × Aa × Own) (I : α → Prop) (μ : α → Nat) (x : α) (hM : (st x).2.1 = M) (hI : I x)
  (hρ : ∀ p ∈ (st x).1, get ρ p.1 = some p.2) (hG : (st x).2.2.Sublist G)
  (body : ∀ x, I x → (∀ x', I x' → μ x' < μ x → EV C V (.inLoop c :: k) (st x').1 (st x').2.1 (st x').2.2) → EV C V (.code c :: .inLoop c :: k) (st x).1 (st x).2.1 (st x).2.2) :
  EV C V (.code (.loop c) :: k) ρ M G := by
 subst hM
 exact EV.to (EV.loop st I μ x hI body) hρ hG
end Go.EV

namespace Go.EV
variable {P : Program}
theorem rd.pt {H : Aa} {b off n : Nat} {cs out : List Value} (h : rd H b off n cs) (i k : Nat) (hm : i + k ≤ n) (e : (cs.drop i).take k = out) : rd H b (off + i) k out := e ▸ h.part hm
theorem Jf {α : Type} (f : α → Value) : ∀ (l : List α) {i : Nat} (h : i < l.length), ((l.map f).drop i).take 1 = [f l[i]]
 | x :: l, 0, _ => by simp
 | x :: l, i + 1, h => by
  have := Jf f l (i := i) (by simpa using h)
  simpa using this
section
variable {C : Cx P} {f : FuncId} {args : Array Value} {V : List Nat} {c : RItem} {k : List RItem} {ρ : Env} {M : Aa} {G G2 G3 : Own} {K : Value → Aa → Own → Prop}
theorem Dr.frz (hG : G.Perm (G2 ++ G3)) (h : Dr C f args (M.add G2) G3 K) : Dr C f args M G K :=
 ⟨h.1, fun w hs cs => h.2 w (hs.perm hG).freeze cs⟩
theorem EV.thru (Φ : Env → Aa → Own → Prop) (h1 : ∀ k', (∀ ρ' M' G', Φ ρ' M' G' → EV C V k' ρ' M' G') → EV C V (c :: k') ρ M G) (h2 : ∀ ρ' M' G', Φ ρ' M' G' → EV C V k ρ' M' G') : EV C V (c :: k) ρ M G := h1 k h2
end
theorem B4 {α : Type} {M : Aa} {G : Own} {b : Nat} {T : TypeId} {f : α → Value} {xs : List α} {i : Nat} (hi : i < xs.length) [h : At G b T (xs.map f)] : rd (M.add G) b i 1 [f xs[i]] :=
 Bz h.mem (Jf f xs hi) (by rw [List.length_map]; omega)
theorem Vb {α : Type} {M : Aa} {G : Own} {b : Nat} {T : TypeId} {f : α → Value} {xs : List α} {sp : List Value} {i : Nat} (hi : i < xs.length) [h : At G b T (xs.map f ++ sp)] : rd (M.add G) b i 1 [f xs[i]] := by
 refine Bz h.mem ?_ (by rw [List.length_append, List.length_map]; omega)
 rw [List.drop_append_of_le_length (by rw [List.length_map]; omega), List.take_append_of_le_length (by rw [List.length_drop, List.length_map]; omega), Jf f xs hi]
theorem Ao {α : Type} (f : α → Value) (xs : List α) {i : Nat} (hi : i < xs.length) (x : α) : (xs.map f).take i ++ (f x :: (xs.map f).drop (i + 1)) = (xs.set i x).map f := by
 rw [List.map_set, List.set_eq_take_append_cons_drop, if_pos (by rw [List.length_map]; exact hi)]
abbrev A8 (b n c : Nat) : Value := .slice (some ⟨b, 0, none⟩) n c
class Pull (G : Own) (x : Nat × Obj) (R : outParam Own) : Prop where
 p : G.Perm (x :: R)
instance Pull.here {x : Nat × Obj} {G : Own} : Pull (x :: G) x G := ⟨List.Perm.refl _⟩
instance (priority := low) Pull.there {x y : Nat × Obj} {G R : Own} [h : Pull G x R] : Pull (y :: G) x (y :: R) := ⟨(List.Perm.cons y h.p).trans (List.Perm.swap x y R)⟩
instance (priority := low) Pull.app {x : Nat × Obj} {A G R : Own} [h : Pull G x R] : Pull (A ++ G) x (A ++ R) := ⟨(List.Perm.append_left A h.p).trans List.perm_middle⟩
class PullL (G : Own) (A : Own) (R : outParam Own) : Prop where
 p : G.Perm (A ++ R)
instance PullL.here {A G : Own} : PullL (A ++ G) A G := ⟨List.Perm.refl _⟩
instance (priority := 900) PullL.all {A : Own} : PullL A A [] := ⟨by simp⟩
instance (priority := low) PullL.cons {A G R : Own} {y : Nat × Obj} [h : PullL G A R] : PullL (y :: G) A (y :: R) := ⟨(List.Perm.cons y h.p).trans List.perm_middle.symm⟩
instance (priority := low) PullL.app {A B G R : Own} [h : PullL G A R] : PullL (B ++ G) A (B ++ R) := ⟨(List.Perm.append_left B h.p).trans (by rw [← List.append_assoc, ← List.append_assoc]; exact List.Perm.append_right _ List.perm_append_comm)⟩
class SubS (G G' : Own) (R : outParam Own) : Prop where
 p : G.Perm (G' ++ R)
instance SubS.nil {G : Own} : SubS G [] G := ⟨List.Perm.refl _⟩
instance SubS.cons {G G1 t R : Own} {x : Nat × Obj} [h1 : Pull G x G1] [h2 : SubS G1 t R] : SubS G (x :: t) R := ⟨h1.p.trans (List.Perm.cons x h2.p)⟩
instance (priority := low) SubS.app {G G1 A t R : Own} [h1 : PullL G A G1] [h2 : SubS G1 t R] : SubS G (A ++ t) R := ⟨h1.p.trans ((List.Perm.append_left A h2.p).trans (by simp))⟩
instance (priority := low) SubS.last {G G1 A : Own} [h1 : PullL G A G1] : SubS G A G1 := ⟨h1.p⟩
section
variable {C : Cx P} {f : FuncId} {args : Array Value} {V : List Nat} {k : List RItem} {ρ ρ' : Env} {M : Aa} {G G' R : Own} {K : Value → Aa → Own → Prop} {Φ : Value → Aa → Own → Prop}
theorem EV.toS (h : EV C V k ρ' M G') (hρ : ∀ p ∈ ρ', get ρ p.1 = some p.2) [hG : SubS G G' R] : EV C V k ρ M G :=
 EV.permG (EV.to h hρ (List.sublist_append_left _ _)) hG.p
theorem EV.reS (h : EV C V k ρ M G') [hG : SubS G G' R] : EV C V k ρ M G :=
 EV.permG (EV.weaken h (fun _ _ h => h) (List.sublist_append_left _ _)) hG.p
theorem EV.frz (G' : Own) [hG : SubS G G' R] (h : EV C V k ρ (M.add G') R) : EV C V k ρ M G :=
 EV.permG (EV.freeze h) hG.p
theorem Dr.frzS (G' : Own) [hG : SubS G G' R] (h : Dr C f args (M.add G') R K) : Dr C f args M G K := Dr.frz hG.p h
theorem Con.callS {G1 : Own} (h : Con P f args M G1 Φ) [hG : SubS G G1 R] (hk : ∀ v M' G', M.le M' → Φ v M' G' → K v M' (G' ++ R)) : Dr C f args M G K :=
 ⟨h.1, fun w hs cs => by
  have hs' := hs.perm hG.p
  obtain ⟨e, w', fr, ⟨v, he, M', G', h1, h2⟩, r⟩ := h.2 w (hs'.part (Aa.le_add _ _)) cs
  exact ⟨e, w', fr, ⟨v, he, M', G' ++ R, hs'.callA h1, hk v M' G' h1.base h2⟩, r⟩⟩
theorem Con.callK {G1 : Own} {Mr : Aa} (h : Con P f args Mr G1 Φ) [hG : SubS G G1 R] (hMr : Mr.le (M.add R)) (hk : ∀ v M' G', Φ v M' G' → K v M (G' ++ R)) : Dr C f args M G K :=
 ⟨h.1, fun w hs cs => by
  have hs' := hs.perm hG.p
  obtain ⟨e, w', fr, ⟨v, he, M', G', h1, h2⟩, r⟩ := h.2 w (hs'.part hMr) cs
  exact ⟨e, w', fr, ⟨v, he, M, G' ++ R, hs'.callB h1, hk v M' G' h2⟩, r⟩⟩
end
section
variable {C : Cx P} {f : FuncId} {l : Nat} {args : Array Value} {V : List Nat} {k : List RItem} {ρ : Env} {M : Aa} {G G1 R : Own} {K : Value → Aa → Own → Prop} {Φ : Value → Aa → Own → Prop}
theorem Dr.keep (G1 : Own) [h : PullL G G1 R] (k : Dr C f args (M.add R) G1 K) : Dr C f args M G K := Dr.frz (h.p.trans List.perm_append_comm) k
theorem EV.keep (G1 : Own) [h : PullL G G1 R] (h' : EV C V k ρ (M.add R) G1) : EV C V k ρ M G := EV.permG (EV.freeze h') (h.p.trans List.perm_append_comm)
theorem EV.keepS (G1 : Own) [h : SubS G G1 R] (h' : EV C V k ρ (M.add R) G1) : EV C V k ρ M G := EV.permG (EV.freeze h') (h.p.trans List.perm_append_comm)
theorem E0.keep (G1 : Own) [h : PullL G G1 R] (k : E0 C l args (M.add R) G1 K) : E0 C l args M G K :=
 fun w hs => k w (hs.perm (h.p.trans List.perm_append_comm)).freeze
theorem Kl.run (h : Kl P l args M G Φ) (hk : ∀ v M' G', M.le M' → Φ v M' G' → K v M' G') : E0 C l args M G K := by
 refine h.callA (G2 := []) (by simp) fun v M' G' hM hv => ?_
 rw [List.nil_append]; exact hk v M' G' hM hv
theorem E0.frzS (G1 : Own) [h : SubS G G1 R] (k : E0 C l args (M.add G1) R K) : E0 C l args M G K := fun w hs => k w (hs.perm h.p).freeze
theorem Kl.callS (h : Kl P l args M G1 Φ) [hG : SubS G G1 R] (hk : ∀ v M' G', M.le M' → Φ v M' G' → K v M' (R ++ G')) : E0 C l args M G K := h.callA hG.p hk
theorem Con.run (h : Con P f args M G Φ) (hk : ∀ v M' G', M.le M' → Φ v M' G' → K v M' G') : Dr C f args M G K := by
 refine h.callA (G2 := []) (by simp) fun v M' G' hM hv => ?_
 rw [List.nil_append]; exact hk v M' G' hM hv
end
theorem Con.callN {C : Cx P} {f : FuncId} {args : Array Value} {M : Aa} {G : Own} {K : Value → Aa → Own → Prop} {Φ : Value → Aa → Own → Prop} (h : Con P f args (M.add G) [] Φ) (hk : ∀ v M' G', Φ v M' G' → K v M (G ++ G')) : Dr C f args M G K :=
 Con.callB (G1 := []) h (Aa.le_refl _) (List.Perm.refl _) hk
section
variable {C : Cx P} {ρ : Env} {Mk M : Aa} {Gk G : Own} {K : Env → Aa → Own → Prop} {KQ : Env → Prop}
theorem Ck7 {t : AT} (e : t = .fin) (h : K ρ M G) : wpA C t ρ Mk Gk M G K := by subst e; exact h
theorem Es2 {t : AT} (e : t = .no) : wpA C t ρ Mk Gk M G K := by subst e; trivial
theorem Ck8 {t rest : AT} {l : QL} (e : t = .q l rest) (h : ∀ l' t', l' = l → t' = rest → Lc C l' ρ Mk Gk fun ρ' => wpA C t' ρ' Mk Gk M G K) : wpA C t ρ Mk Gk M G K := by subst e; exact h _ _ rfl rfl
theorem Vc {t0 : AT} {i : Nat} {d : Option Nat} {r : ROp} {t more : AT} (e : t0 = .s i d r false t more) (h : ∀ t', t' = t → opW C ρ M G (fun v M' G' => M.le M' ∧ (∀ p ∈ Gk, p ∈ G') ∧ wpA C t' (putE d v ρ) Mk Gk M' G' K) r) (h2 : ∀ t', t' = more → wpA C t' ρ Mk Gk M G K) : wpA C t0 ρ Mk Gk M G K := by
 subst e; simp only [wpA, Bool.false_eq_true, if_false]; exact ⟨h _ rfl, h2 _ rfl⟩
theorem Ea {t0 : AT} {i : Nat} {d : Option Nat} {r : ROp} {t more : AT} (e : t0 = .s i d r true t more) (h : ∀ t', t' = t → opW C ρ M G (fun v M' G' => wpA C t' (putE d v ρ) M' G' M' G' K) r) (h2 : ∀ t', t' = more → wpA C t' ρ Mk Gk M G K) : wpA C t0 ρ Mk Gk M G K := by
 subst e; simp only [wpA, if_true]; exact ⟨h _ rfl, h2 _ rfl⟩
theorem Ab7 {t0 : AT} {s : Nat} {yes nay : AT} {c : Bool} (e : t0 = .br s yes nay) (hc : get ρ s = some (.bool c)) (h1 : ∀ t', t' = yes → c = true → wpA C t' ρ Mk Gk M G K) (h2 : ∀ t', t' = nay → c = false → wpA C t' ρ Mk Gk M G K) : wpA C t0 ρ Mk Gk M G K := by
 subst e; simp only [wpA, hc, Ch, Im]; exact ⟨h1 _ rfl, h2 _ rfl⟩
theorem Ck9 {t0 : AT} {i : Nat} {d : Option Nat} {rest : AT} (e : t0 = .sk i d rest) (h : ∀ t', t' = rest → wpA C t' ρ Mk Gk M G K) : wpA C t0 ρ Mk Gk M G K := by subst e; exact h rest rfl
theorem Cl0 {l : QL} (e : l = .nil) (h : KQ ρ) : Lc C l ρ M G KQ := by subst e; exact h
theorem Es3 {l : QL} {i : Nat} {d : Option Nat} {r : ROp} {rest : QL} (e : l = .op i d r rest) (h : ∀ l', l' = rest → qW C ρ M G (fun v => Lc C l' (putE d v ρ) M G KQ) r) : Lc C l ρ M G KQ := by subst e; exact h _ rfl
theorem L3 {l : QL} {s : Nat} {want : Bool} {body : QL} {m d : Nat} {last : A} {rest : QL} {c : Bool} (e0 : l = .g s want body m d last rest) (hc : get ρ s = some (.bool c)) (e : Bool)
  (h1 : ∀ l', l' = body → c = want → Lc C l' ρ M G fun ρ' => onv (ev ρ' last) fun u => onv (Im u) fun e' => e' = e) (h2 : ∀ l', l' = rest → Lc C l' ((d, .bool (if want then c && e else c || e)) :: ρ) M G KQ) : Lc C l ρ M G KQ := by
 subst e0; simp only [Lc, hc, Ch, Im]; exact ⟨e, h1 _ rfl, h2 _ rfl⟩
end
theorem P4 {wb wo n c i : Nat} (h2 : n ≤ c) : ∃ ro, (i < n → ro = wo + i) ∧ (if c = i then some (⟨wb, wo, none⟩ : Addr) else some ((⟨wb, wo, none⟩ : Addr).add i)) = some ⟨wb, ro, none⟩ := by
 by_cases h : c = i
 ·exact ⟨wo, fun h3 => by omega, by rw [if_pos h]⟩
 ·refine ⟨wo + i, fun _ => rfl, ?_⟩
  rw [if_neg h]
  simp only [Addr.add]
  split
  ·rename_i h0; rw [h0]; rfl
  ·rfl
theorem Ar7 {a : Addr} {c : Nat} : (if c = 0 then some a else some (a.add 0)) = some a := by
 split
 ·rfl
 ·simp [Addr.add]
theorem rdS.pre {H : Aa} {a : Option Addr} {n i : Nat} {cs : List Value} (h : rdS H 1 a n cs) (hi : i ≤ n) : rdS H 1 a i (cs.take i) := by
 rcases h with ⟨h0, rfl⟩ | ⟨b, off, e, h⟩
 ·exact .inl ⟨by omega, by simp⟩
 ·refine .inr ⟨b, off, e, ?_⟩
  have := h.part (i := 0) (m := i * 1) (by omega)
  rw [List.drop_zero, Nat.add_zero] at this
  rwa [Nat.mul_one] at this ⊢
theorem rd.suf {H : Aa} {b off n i : Nat} {cs : List Value} (h : rd H b off n cs) (hi : i ≤ n) : rd H b (off + i) (n - i) (cs.drop i) := by
 have := h.part (i := i) (m := n - i) (by omega)
 have hl := h.length
 rwa [List.take_of_length_le (by rw [List.length_drop]; omega)] at this
def SlC {α : Type} (H : Aa) (sz : Nat) (enc : α → List Value) (v : Value) (xs : List α) : Prop :=
 ∃ a c, v = .slice a xs.length c ∧ xs.length ≤ c ∧ rdS H sz a xs.length (xs.flatMap enc)
theorem SlC.sl {α : Type} {H : Aa} {sz : Nat} {enc : α → List Value} {v : Value} {xs : List α} (h : SlC H sz enc v xs) : Sl H sz enc v xs :=
 let ⟨a, c, e, _, h⟩ := h; ⟨a, c, e, h⟩
theorem SlC.mono {α : Type} {H H' : Aa} (hh : H.le H') {sz : Nat} {enc : α → List Value} {v : Value} {xs : List α} (h : SlC H sz enc v xs) : SlC H' sz enc v xs :=
 let ⟨a, c, e, hc, h⟩ := h; ⟨a, c, e, hc, h.mono hh⟩
def Di {α : Type} (H : Aa) (sz : Nat) (enc : α → List Value) (v : Value) (xss : List (List α)) : Prop :=
 ∃ a c vs, v = .slice a xss.length c ∧ vs.length = xss.length ∧ rdS H 1 a xss.length vs ∧ ∀ i (h : i < vs.length) (h' : i < xss.length), SlC H sz enc vs[i] xss[i]
theorem Di.mono {α : Type} {H H' : Aa} (hh : H.le H') {sz : Nat} {enc : α → List Value} {v : Value} {xss : List (List α)} (h : Di H sz enc v xss) : Di H' sz enc v xss :=
 let ⟨a, c, vs, e, hl, h, k⟩ := h; ⟨a, c, vs, e, hl, h.mono hh, fun i h h' => (k i h h').mono hh⟩
theorem Di.sl {α : Type} {H : Aa} {sz : Nat} {enc : α → List Value} {v : Value} {xss : List (List α)} (h : Di H sz enc v xss) : Gw H sz enc v xss :=
 let ⟨a, c, vs, e, hl, h, k⟩ := h; ⟨a, c, vs, e, hl, h, fun i h h' => (k i h h').sl⟩
theorem Di.at {α : Type} {H : Aa} {sz : Nat} {enc : α → List Value} {a : Option Addr} {vs : List Value} {xss : List (List α)} (h : rdS H 1 a xss.length vs) (hl : vs.length = xss.length) (hk : ∀ i (h : i < vs.length) (h' : i < xss.length), SlC H sz enc vs[i] xss[i]) (hn : 0 < xss.length) :
  ∃ b off, a = some ⟨b, off, none⟩ ∧ ∀ i (hi : i < xss.length), ∃ a' c', rd H b (off + i * 1) 1 [.slice a' xss[i].length c'] ∧ xss[i].length ≤ c' ∧ rdS H sz a' xss[i].length (xss[i].flatMap enc) := by
 have h1 : rdS H 1 a vs.length (vs.flatMap fun v => [v]) := by rw [Ic, hl]; exact h
 obtain ⟨b, off, e, hr⟩ := Sl.at (sz := 1) (enc := fun v => [v]) (fun _ => rfl) (by omega) h1 (by omega)
 refine ⟨b, off, e, fun i hi => ?_⟩
 have hr' := hr i (by omega)
 obtain ⟨a', c', e', hc', h'⟩ := hk i (by omega) hi
 rw [e'] at hr'
 exact ⟨a', c', hr', hc', h'⟩
end Go.EV

namespace Go.EV
section
variable {P : Program} {C : Cx P} {ρ : Env} {Mk M : Aa} {Gk G : Own} {K : Env → Aa → Own → Prop} {KQ : Env → Prop}
theorem zf {t : AT} (h : K ρ M G) (e : t = .fin := by first | with_reducible assumption | rfl) : wpA C t ρ Mk Gk M G K := Ck7 e h
theorem zn {t : AT} (e : t = .no := by first | with_reducible assumption | rfl) : wpA C t ρ Mk Gk M G K := Es2 e
theorem zq {t rest : AT} {l : QL} (h : ∀ l' t', l' = l → t' = rest → Lc C l' ρ Mk Gk fun ρ' => wpA C t' ρ' Mk Gk M G K) (e : t = .q l rest := by first | with_reducible assumption | rfl) : wpA C t ρ Mk Gk M G K := Ck8 e h
theorem zo {l : QL} {i : Nat} {d : Option Nat} {r : ROp} {rest : QL} (h : ∀ l', l' = rest → qW C ρ M G (fun v => Lc C l' (putE d v ρ) M G KQ) r) (e : l = .op i d r rest := by first | with_reducible assumption | rfl) : Lc C l ρ M G KQ := Es3 e h
theorem zl {l : QL} (h : KQ ρ) (e : l = .nil := by first | with_reducible assumption | rfl) : Lc C l ρ M G KQ := Cl0 e h
end
end Go.EV

namespace Go.EV
open Go.Proofs
structure Ev where
 op : OpV
 th : Int
 deriving DecidableEq
abbrev A2 (e : Ev) : List Value := [vi e.op.kind, vi e.op.loc, vi e.op.v, vi e.op.w, vi e.op.ord, vi e.th]
abbrev vev (e : Ev) : Value := .agg #[vi e.op.kind, vi e.op.loc, vi e.op.v, vi e.op.w, vi e.op.ord, vi e.th]
def Ev.reads (e : Ev) : Bool := decide (e.op.kind ≠ 1) && decide (e.op.kind ≠ 5)
def Ev.strong (e : Ev) : Bool := decide (e.op.kind = 5) && decide (e.op.ord = 4)
def Ev.acq (e : Ev) : Bool := Cm8 e.op.ord
def Ev.rel (e : Ev) : Bool := Cm9 e.op.ord
instance : Inhabited Ev := ⟨⟨⟨0, 0, 0, 0, 0⟩, 0⟩⟩
def Cj : Nat → List (List OpV) → List Ev
 | _, [] => []
 | n, t :: ts => t.map (fun o => ⟨o, n⟩) ++ Cj (n + 1) ts
def A6 (ts : List (List OpV)) : List Ev := Cj 0 (ts.map Dp)
theorem Ko : ∀ (l1 : List (List OpV)) (n : Nat) (l2 : List (List OpV)), Cj n (l1 ++ l2) = Cj n l1 ++ Cj (n + l1.length) l2
 | [], n, l2 => by simp [Cj]
 | t :: l1, n, l2 => by simp [Cj, Ko l1, Nat.add_assoc, Nat.add_comm 1]
theorem Wn {l : List (List OpV)} {i : Nat} (hi : i < l.length) : Cj 0 (l.take (i + 1)) = Cj 0 (l.take i) ++ l[i].map (fun o => ⟨o, (i : Int)⟩) := by
 rw [List.take_succ_eq_append_getElem hi, Ko]
 have : (l.take i).length = i := by simp; omega
 simp [Cj, this]
theorem Hc : ∀ (l : List (List OpV)) (n : Nat), (Cj n l).length = l.flatten.length
 | [], n => rfl
 | t :: l, n => by simp [Cj, Hc l]
def C1 (q : List (List OpV)) (i j : Nat) : List Ev := Cj 0 (q.take i) ++ ((q[i]?.getD []).take j).map (fun o => ⟨o, (i : Int)⟩)
theorem Dy (q : List (List OpV)) (i : Nat) : C1 q i 0 = Cj 0 (q.take i) := by simp [C1]
theorem L4 {q : List (List OpV)} {i j : Nat} (hi : i < q.length) (hj : j < q[i].length) : C1 q i (j + 1) = C1 q i j ++ [⟨q[i][j], i⟩] := by
 simp only [C1, List.getElem?_eq_getElem hi, Option.getD_some]
 rw [List.take_succ_eq_append_getElem hj, List.map_append, List.append_assoc]; rfl
theorem J1 {q : List (List OpV)} {i : Nat} (hi : i < q.length) : C1 q i q[i].length = Cj 0 (q.take (i + 1)) := by
 simp only [C1, List.getElem?_eq_getElem hi, Option.getD_some]
 rw [List.take_length, Wn hi]
theorem J2 {q : List (List OpV)} {i : Nat} (hi : i < q.length) (j : Nat) : (C1 q i j).length ≤ q.flatten.length := by
 have h : (Cj 0 (q.take (i + 1))).length ≤ q.flatten.length := by rw [Hc]; exact B9 q (i + 1)
 rw [← J1 hi] at h
 simp only [C1, List.getElem?_eq_getElem hi, Option.getD_some, List.length_append, List.length_map, List.length_take] at h ⊢
 omega
theorem L5 {q : List (List OpV)} {i : Nat} (hi : i < q.length) : q[i].length ≤ q.flatten.length := by
 have h := J2 hi q[i].length
 simp only [C1, List.getElem?_eq_getElem hi, Option.getD_some, List.length_append, List.length_map, List.length_take] at h
 omega
section
variable {M : Aa}
theorem Bv (e : Ev) : Aq Tryz.prog 86 #[vev e] M (vb e.reads) := by
 refine Con.enter Q5_ok (args := [vev e]) (by simp [Q5]) fun w0 => ?_
 simp only [Q5, A3]
 repeat' first
   | refine EV.seq ?_
   | refine rg ?_
   | with_reducible assumption
   | (refine Az.merge ?_ (fun hc K' hK => ?_) ?_; rotate_left)
   | refine rt Q5_ok ?_
   | ((first | with_reducible intro b | refine xiA rfl ?_ | fail); try refine nx ?_)
   | exact ⟨⟩
   | fail
 all_goals simp_all [Ev.reads]
theorem L6 (e : Ev) : Aq Tryz.prog 76 #[vev e] M (vb e.strong) := by
 refine Con.enter Q7_ok (args := [vev e]) (by simp [Q7]) fun w0 => ?_
 simp only [Q7, A3]
 repeat' first
   | refine EV.seq ?_
   | refine rg ?_
   | with_reducible assumption
   | (refine Az.merge ?_ (fun hc K' hK => ?_) ?_; rotate_left)
   | refine rt Q7_ok ?_
   | ((first | with_reducible intro b | refine xiA rfl ?_ | fail); try refine nx ?_)
   | exact ⟨⟩
   | fail
 all_goals simp_all [Ev.strong]
theorem Vd (e : Ev) (h : Bq e.op.ord = true) : Aq Tryz.prog 138 #[vev e] M (vb e.acq) := by
 refine Con.enter Q4_ok (args := [vev e]) (by simp [Q4]) fun w0 => ?_
 simp only [Q4, A3]
 repeat' first
   | refine EV.seq ?_
   | refine rg ?_
   | (refine Aq.call (Ld _ h) ?_; try refine nx ?_)
   | refine rt Q4_ok ?_
   | ((first | with_reducible intro b | refine xiA rfl ?_ | fail); try refine nx ?_)
   | exact ⟨⟩
   | fail
 all_goals rfl
theorem Ve (e : Ev) (h : Bq e.op.ord = true) : Aq Tryz.prog 137 #[vev e] M (vb e.rel) := by
 refine Con.enter Q6_ok (args := [vev e]) (by simp [Q6]) fun w0 => ?_
 simp only [Q6, A3]
 repeat' first
   | refine EV.seq ?_
   | refine rg ?_
   | (refine Aq.call (Lf _ h) ?_; try refine nx ?_)
   | refine rt Q6_ok ?_
   | ((first | with_reducible intro b | refine xiA rfl ?_ | fail); try refine nx ?_)
   | exact ⟨⟩
   | fail
 all_goals rfl
theorem Yo (ts : List (List OpV)) (s : Value) (hs : Gw M 5 Be s ts) (hb : Sized ts) :
  Con Tryz.prog 33 #[.agg #[s]] M [] fun v M' G' => G' = [] ∧ ((Bd ts ≠ 0 ∧ v = .tuple #[.slice none 0 0, vi (Bd ts)]) ∨ (Bd ts = 0 ∧ ∃ s', v = .tuple #[s', vi 0] ∧ Sl M' 6 A2 s' (A6 ts))) := by
 have hs0 := hs
 obtain ⟨a, c, vs, rfl, hl, hrd, hk⟩ := hs
 refine Con.enter Q8_ok (args := [.agg #[.slice a ts.length c]]) (by simp [Q8]) fun w0 => ?_
 simp only [Q8, A3]
 repeat' first
   | refine EV.seq ?_
   | refine rg ?_
   | ((first | with_reducible intro b | refine xrA rfl ?_ | fail); try refine nx ?_)
   | exact ⟨⟩
   | fail
 refine Con.callA (G1 := []) (L0 ts _ hs0 hb) (List.Perm.refl _) ?_
 rintro v M1 G1 hM1 (⟨hne, rfl⟩ | ⟨hck, s', rfl, hs1⟩)
 ·simp only [wpS, wpA, Lc, push_cast, Int.cast_ofNat_Int, reduceIte, Nat.reduceEqDiff, reduceCtorEq, Nat.reduceAdd, Nat.reduceSub, Nat.reduceMul, Int.reduceToNat, Nat.reduceLeDiff]
  repeat' first
    | refine EV.seq ?_
    | refine rg ?_
    | (refine cX (fun h => ?_) (fun h => ?_) <;> try exact Ah h)
    | (with_reducible intro b; try refine nx ?_)
    | (refine xw ?_; refine nx ?_)
    | exact ⟨⟩
    | fail
  refine EV.to (ρ' := [(2, .slice none 0 0), (3, vi (Bd ts))]) (G' := []) ?_ ?env0 (List.nil_sublist _)
  case env0 =>
   exact eE
  (refine rt Q8_ok ?_; try with_reducible exact ⟨⟩)
  exact .inl hne
 ·have hsm := Gz hck
  have hs2 := hs1
  obtain ⟨a1, c1, vs1, rfl, hl1, hrd1, hk1⟩ := hs2
  generalize hq : ts.map Dp = q at *
  have hqf : q.flatten.length ≤ 3 * ts.flatten.length := by
   subst hq
   clear hs0 hb hsm hl hrd hk hs1 hl1 hrd1 hk1 hck
   induction ts with
   | nil => simp
   | cons t ts ih =>
    have h1 : (Dp t).length ≤ 3 * t.length := by
     clear ih
     induction t with
     | nil => simp [Dp]
     | cons o t ih =>
      have := Je o
      simp only [Dp, List.flatMap_cons, List.length_append, List.length_cons] at ih ⊢
      omega
    simp only [List.map_cons, List.flatten_cons, List.length_append] at ih ⊢
    omega
  have hql : q.length = ts.length := by subst hq; simp
  (refine nx ?_; try with_reducible exact ⟨⟩)
  repeat' first
    | refine EV.seq ?_
    | refine EV.skip ?_
    | refine EV.block ?_
    | refine rg ?_
    | (refine cX (fun h => ?_) (fun h => ?_) <;> try exact Ah h)
    | ((first | with_reducible intro b | refine xsA rfl ?_ | fail); try refine nx ?_)
    | (refine xw ?_; refine nx ?_)
    | exact ⟨⟩
    | fail
  refine EV.loopTo (fun x : Nat × Vec => ([(6, osv x.2 (Cj 0 (q.take x.1)).length), (20, .slice a1 q.length c1), (21, vi q.length), (22, vi x.1)], M1, osg 121 x.2 ((Cj 0 (q.take x.1)).flatMap A2)))
   (fun x => x.1 ≤ q.length ∧ E7 6 x.2 (Cj 0 (q.take x.1)).length ((Cj 0 (q.take x.1)).flatMap A2)) (fun x => q.length - x.1) (0, none) rfl ⟨Nat.zero_le _, rfl, rfl⟩ ?env1 (List.nil_sublist _) ?_
  case env1 =>
   exact eE
  rintro ⟨i, ov⟩ ⟨hi, hov⟩ ih
  dsimp only at hi hov ih ⊢
  repeat' first
    | refine EV.seq ?_
    | refine EV.skip ?_
    | refine EV.block ?_
    | refine rg ?_
    | (refine cX (fun h => ?_) (fun h => ?_) <;> try exact Ah h)
    | (refine EV.exit rfl ?_)
    | exact ⟨⟩
    | fail
  ·have hi' : i < q.length := by omega
   obtain ⟨pb, po, rfl, hat⟩ := Gw.at hrd1 hl1 hk1 (by omega)
   obtain ⟨a', c', hr1, hr2⟩ := hat i hi'
   simp only [Nat.mul_one] at hr1
   have hlen : ∀ j, (C1 q i j).length ≤ q.flatten.length := fun j => J2 hi' j
   have hlen0 : q[i].length ≤ q.flatten.length := L5 hi'
   repeat' first
     | refine EV.seq ?_
     | refine EV.block ?_
     | refine rg ?_
     | (refine And.intro (by omega) ?_)
     | (refine xn ?_; try refine nx ?_)
     | exact ⟨⟩
     | fail
   refine EV.loopTo (fun x : Nat × Vec => ([(6, osv x.2 (C1 q i x.1).length), (7, vi i), (20, .slice (some ⟨pb, po, none⟩) q.length c1), (21, vi q.length), (22, vi i), (27, .slice a' q[i].length c'), (28, vi q[i].length), (29, vi x.1)], M1,
     osg 121 x.2 ((C1 q i x.1).flatMap A2)))
    (fun x => x.1 ≤ q[i].length ∧ E7 6 x.2 (C1 q i x.1).length ((C1 q i x.1).flatMap A2))
    (fun x => q[i].length - x.1) (0, ov) rfl ⟨Nat.zero_le _, by rw [Dy]; exact hov⟩ ?env2 (by rw [Dy]; exact List.Sublist.refl _) ?_
   case env2 =>
    repeat' first
     | (refine List.forall_mem_cons.2 (And.intro ?_ ?_))
     | (intro _ hnil; cases hnil; done)
     | rfl
     | (simp (disch := omega) only [Al, As, reduceIte, Nat.reduceEqDiff, Option.some.injEq, Value.int.injEq, w64, Int.natCast_add, Int.natCast_one, Int.cast_ofNat_Int, Int.natCast_zero, Dy]; done)
     | fail
   rintro ⟨j, o1⟩ ⟨hj, ho1⟩ ih2
   dsimp only at hj ho1 ih2 ⊢
   repeat' first
     | refine EV.seq ?_
     | refine EV.skip ?_
     | refine EV.block ?_
     | refine EV.inBlock ?_
     | refine rg ?_
     | (refine cX (fun h => ?_) (fun h => ?_) <;> try exact Ah h)
     | (refine EV.exit rfl ?_)
     | exact ⟨⟩
     | fail
   ·have hj' : j < q[i].length := by omega
    have hlj := hlen j
    obtain ⟨qb, qo, rfl, hat2⟩ := Sl.at (enc := Be) (fun _ => rfl) (by omega) hr2 (by omega)
    have hr3 := hat2 j hj'
    repeat' first
      | refine rg ?_
      | (with_reducible intro b; try refine nx ?_)
      | (refine And.intro (by omega) ?_)
      | ((first | refine xm ?_ | refine xrA rfl ?_ | fail); try refine nx ?_)
      | (refine xw ?_; refine nx ?_)
      | exact ⟨⟩
      | fail
    refine ⟨A2 ⟨q[i][j], i⟩, Or.inr ⟨b, 0, rfl, An 0 rfl rfl (by simp)⟩, by simp [B6, C7, Value.oneCell'], Or.inl ⟨o1, _, rfl, _, ho1, _, B7 [[_, _], osg 121 o1 _] 1 (by simp), ?_, ?_, ?_⟩⟩
    ·simp only [maxLen]; omega
    ·omega
    intro o2 ho2 _
    simp only [List.eraseIdx_cons_succ, List.eraseIdx_cons_zero, List.getElem_cons_succ, List.getElem_cons_zero, List.insertIdx_zero, List.insertIdx_succ_cons, Dw, Dv, Dt, List.nil_append, List.cons_append, List.append_assoc, List.append_nil]
    repeat' first
      | refine EV.inBlock ?_
      | refine rg ?_
      | exact ⟨⟩
      | fail
    have e := L4 hi' hj'
    have ih3 := ih2 (j + 1, o2) ⟨by dsimp only; omega, by rw [e, List.length_append, List.flatMap_append]; exact ho2⟩ (by dsimp only; omega)
    dsimp only at ih3
    rw [e, List.length_append, List.flatMap_append] at ih3
    refine EV.to ih3 ?_ eS
    exact eE
   ·have hj' : j = q[i].length := by omega
    subst hj'
    rw [J1 hi'] at ho1 ⊢
    refine EV.to (ih (i + 1, o1) ⟨by dsimp only; omega, ho1⟩ (by dsimp only; omega)) ?_ eS
    exact eE
  ·have hi2 : i = q.length := by omega
   subst hi2
   rw [List.take_length] at hov ⊢
   rw [← List.append_nil (osg _ _ _)]
   refine EV.freeze ?_
   refine EV.to (ρ' := [(2, osv ov (Cj 0 q).length), (3, vi 0)]) (G' := []) ?_ ?env3 (List.nil_sublist _)
   case env3 =>
    exact eE
   (refine rt Q8_ok ?_; try with_reducible exact ⟨⟩)
   subst hq
   exact .inr ⟨hck, _, rfl, _, _, rfl, D7 hov (fun p hp => hp)⟩
end
end Go.EV

namespace Go.EV
open Go.Proofs
abbrev ei (x : Int) : List Value := [vi x]
abbrev eb (b : Bool) : List Value := [vb b]
theorem Av (xs : List Int) : xs.flatMap ei = xs.map vi := by induction xs <;> simp_all
theorem Hx (xs : List Bool) : xs.flatMap eb = xs.map vb := by induction xs <;> simp_all
theorem Yp (xs : List Int) : ok1 (xs.map vi) := by
 intro v hv; obtain ⟨x, _, rfl⟩ := List.mem_map.1 hv; rfl
theorem Cl1 (xs : List Bool) : ok1 (xs.map vb) := by
 intro v hv; obtain ⟨x, _, rfl⟩ := List.mem_map.1 hv; rfl
def evAt (p : List Ev) (i : Nat) : Ev := p[i]?.getD default
theorem B5 {p : List Ev} {i : Nat} (h : i < p.length) : evAt p i = p[i] := by simp [evAt, h]
def Cr (n : Nat) (f : Nat → Bool) : List Int := ((List.range n).filter f).map (fun (i : Nat) => (i : Int))
theorem Hy (n : Nat) (f : Nat → Bool) : Cr (n + 1) f = Cr n f ++ if f n then [(n : Int)] else [] := by
 simp only [Cr, List.range_succ, List.filter_append, List.map_append]
 congr 1
 by_cases h : f n <;> simp [h]
theorem Bw (n : Nat) (f : Nat → Bool) : (Cr n f).length ≤ n := by
 simp only [Cr, List.length_map]
 exact Nat.le_trans (List.length_filter_le _ _) (by simp)
theorem Dj {n : Nat} {f : Nat → Bool} {x : Int} : x ∈ Cr n f ↔ ∃ i : Nat, i < n ∧ f i = true ∧ x = i := by
 simp only [Cr, List.mem_map, List.mem_filter, List.mem_range]
 constructor
 ·rintro ⟨i, ⟨h1, h2⟩, rfl⟩; exact ⟨i, h1, h2, rfl⟩
 ·rintro ⟨i, h1, h2, rfl⟩; exact ⟨i, ⟨h1, h2⟩, rfl⟩
def Ar (p : List Ev) (dn : List Bool) (loc : Int) : List Int :=
 Cr p.length fun i => decide ((evAt p i).op.kind ≠ 5) && (dn[i]?.getD false) && decide ((evAt p i).op.loc = loc)
section
variable {M : Aa}
def Ag4 (xs : List Int) (v : Value) (_ : Aa) (G' : Own) : Prop := ∃ ov : Vec, v = osv ov xs.length ∧ E7 1 ov xs.length (xs.map vi) ∧ G' = osg 3 ov (xs.map vi)
theorem Jg (p : List Ev) (s : Value) (hs : Sl M 6 A2 s p) (hb : p.length < 1000000) (g : Nat) (caps : Array Value) (f : Nat → Bool)
  (hf : ∀ M', M.le M' → ∀ i : Nat, i < p.length → Aq Tryz.prog g (#[vi i] ++ caps) M' (vb (f i))) :
  Con Tryz.prog 74 #[s, .func (.func g) #[] caps] M [] (Ag4 (Cr p.length f)) := by
 obtain ⟨a, c, rfl, hrd⟩ := hs
 refine Con.enter Q33_ok (args := [.slice a p.length c, .func (.func g) #[] caps]) (by simp [Q33]) fun w0 => ?_
 simp only [Q33, A3]
 repeat' first
   | refine EV.seq ?_
   | refine EV.block ?_
   | refine rg ?_
   | exact ⟨⟩
   | fail
 refine EV.loopTo (fun x : Nat × Vec => ([(1, .func (.func g) #[] caps), (5, osv x.2 (Cr x.1 f).length), (8, vi p.length), (9, vi x.1)], M, osg 3 x.2 ((Cr x.1 f).map vi)))
  (fun x => x.1 ≤ p.length ∧ E7 1 x.2 (Cr x.1 f).length ((Cr x.1 f).map vi)) (fun x => p.length - x.1) (0, none) rfl ⟨Nat.zero_le _, rfl, rfl⟩ ?env1 (List.nil_sublist _) ?_
 case env1 =>
  exact eE
 rintro ⟨i, ov⟩ ⟨hi, hov⟩ ih
 dsimp only at hi hov ih ⊢
 repeat' first
   | refine EV.seq ?_
   | refine EV.skip ?_
   | refine EV.block ?_
   | refine rg ?_
   | (refine cX (fun h => ?_) (fun h => ?_) <;> try exact Ah h)
   | (refine EV.exit rfl ?_)
   | exact ⟨⟩
   | fail
 ·have hi' : i < p.length := by omega
  have hln := Bw i f
  repeat' first
    | refine EV.skip ?_
    | refine EV.inBlock ?_
    | refine rg ?_
    | (refine Aq.call (hf _ (Aa.le_add _ _) i hi') ?_; try refine nx ?_)
    | (refine cX (fun h => ?_) (fun h => ?_) <;> try exact Ah h)
    | (with_reducible intro b; try refine nx ?_)
    | exact ⟨⟩
    | fail
  ·refine ⟨[vi i], Or.inr ⟨b, 0, rfl, An 0 rfl rfl (by simp)⟩, by simp [B6, C7, Value.oneCell'], Or.inl ⟨ov, _, rfl, _, hov, _, B7 [[_], osg 3 ov _] 1 (by simp), ?_, ?_, ?_⟩⟩
   ·simp only [maxLen]; omega
   ·omega
   intro o2 ho2 _
   simp only [List.eraseIdx_cons_succ, List.eraseIdx_cons_zero, List.getElem_cons_succ, List.getElem_cons_zero, List.insertIdx_zero, List.insertIdx_succ_cons, Dw, Dv, Dt, List.nil_append, List.cons_append, List.append_assoc, List.append_nil]
   repeat' first
     | refine EV.inBlock ?_
     | refine rg ?_
     | exact ⟨⟩
     | fail
   have e : Cr (i + 1) f = Cr i f ++ [(i : Int)] := by rw [Hy, if_pos (by assumption)]
   have ih3 := ih (i + 1, o2) ⟨by dsimp only; omega, by rw [e, List.length_append, List.map_append]; exact ho2⟩ (by dsimp only; omega)
   dsimp only at ih3
   rw [e, List.length_append, List.map_append] at ih3
   refine EV.to ih3 ?_ eS
   exact eE
  ·have e : Cr (i + 1) f = Cr i f := by rw [Hy, if_neg (by simp_all), List.append_nil]
   have ih3 := ih (i + 1, ov) ⟨by dsimp only; omega, by rw [e]; exact hov⟩ (by dsimp only; omega)
   dsimp only at ih3
   rw [e] at ih3
   refine EV.to ih3 ?_ eS
   exact eE
 ·have hi2 : i = p.length := by omega
  subst hi2
  (refine rt Q33_ok ?_; try with_reducible exact ⟨⟩)
  exact ⟨ov, rfl, hov, rfl⟩
end
end Go.EV

namespace Go.EV
open Go.Proofs
section
variable {M : Aa}
theorem L7 (p : List Ev) (dn : List Bool) (loc : Int) {pb po pc db do' dc b1 b2 b3 : Nat} (h1 : rd M b1 0 1 [.slice (some ⟨pb, po, none⟩) p.length pc]) (h2 : rd M b2 0 1 [.slice (some ⟨db, do', none⟩) dn.length dc]) (h3 : rd M b3 0 1 [vi loc])
  (i : Nat) (hi : i < p.length) (hl : dn.length = p.length) (hp : rd M pb (po + i * 6) 6 (A2 (evAt p i))) (hd : rd M db (do' + i) 1 [vb (dn[i]?.getD false)]) :
  Aq Tryz.prog 139 #[vi i, pv b1 0, pv b2 0, pv b3 0] M (vb (decide ((evAt p i).op.kind ≠ 5) && (dn[i]?.getD false) && decide ((evAt p i).op.loc = loc))) := by
 have hp0 := hp.pt 0 1 (by omega) rfl
 have hp1 := hp.pt 1 1 (by omega) rfl
 have hi' : (i : Int) < p.length := by omega
 have hid : (i : Int) < dn.length := by omega
 refine Con.enter Q41_ok (args := [vi i, pv b1 0, pv b2 0, pv b3 0]) (by simp [Q41]) fun w0 => ?_
 simp only [Q41, A3]
 repeat' first
   | refine EV.seq ?_
   | ((first | refine EV.reg ?_ | refine EV.any _ (List.Sublist.refl _) ?_ | fail); (conv => (arg 2; whnf)); refine nx ?_)
   | (refine Px.mk ?_ (fun hc => ?_) ?_; rotate_left; (try simp only [decide_eq_true_eq, decide_eq_false_iff_not, Bool.not_eq_true', Bool.not_eq_false', Bool.and_eq_true, Bool.or_eq_true, Bool.and_eq_false_iff, Bool.or_eq_false_iff] at hc))
   | (with_reducible rfl)
   | refine rt Q41_ok ?_
   | (refine And.intro (by omega) ?_)
   | ((first | refine xm ?_ | refine xn ?_ | fail); try refine nx ?_)
   | exact ⟨⟩
   | fail
 all_goals simp_all
theorem Sl.evAt {p : List Ev} {pb po : Nat} (hat : ∀ i (hi : i < p.length), rd M pb (po + i * 6) 6 (A2 p[i])) (i : Nat) (hi : i < p.length) : rd M pb (po + i * 6) 6 (A2 (evAt p i)) := by
 rw [B5 hi]; exact hat i hi
theorem Kp (p : List Ev) (s : Value) (hs : Sl M 6 A2 s p) (hb : p.length < 1000000) (dn : List Bool) (d : Value) (hd : Sl M 1 eb d dn) (hl : dn.length = p.length) (loc : Int) :
  Con Tryz.prog 110 #[s, d, vi loc] M [] fun v M' G' => ∃ G0, Ag4 (Ar p dn loc) v M' G0 ∧ G' = G0 := by
 obtain ⟨a, c, rfl, hrd⟩ := hs
 obtain ⟨da, dc, rfl, hrd2⟩ := hd
 refine Con.enter Q40_ok (args := [.slice a p.length c, .slice da dn.length dc, vi loc]) (by simp [Q40]) fun w0 => ?_
 simp only [Q40, A3]
 repeat' first
   | refine EV.seq ?_
   | refine rg ?_
   | ((first | with_reducible intro b | refine xsA rfl ?_ | fail); try refine nx ?_)
   | exact ⟨⟩
   | fail
 rename_i b1 b2
 refine Dr.frz (G3 := []) (by rw [List.append_nil]) ?_
 generalize hN : M.add _ = N
 have hMN : M.le N := hN ▸ Aa.le_add _ _
 have hr1 : rd N b1 0 1 [.slice a p.length c] := hN ▸ An 2 rfl rfl (by simp)
 have hr2 : rd N b2 0 1 [.slice da dn.length dc] := hN ▸ An 1 rfl rfl (by simp)
 have hr3 : rd N b 0 1 [vi loc] := hN ▸ An 0 rfl rfl (by simp)
 clear hN
 refine Con.callA (G1 := []) (Jg p _ ⟨_, _, rfl, hrd.mono hMN⟩ hb _ _ (fun i => decide ((evAt p i).op.kind ≠ 5) && (dn[i]?.getD false) && decide ((evAt p i).op.loc = loc)) ?_) (List.Perm.refl _) ?_
 ·intro M' hM' i hi
  have h0 : 0 < p.length := by omega
  obtain ⟨pb, po, rfl, hat⟩ := Sl.at (enc := A2) (fun _ => rfl) (by omega) hrd h0
  obtain ⟨db, do', rfl, hat2⟩ := Sl.at (sz := 1) (enc := eb) (fun _ => rfl) (by decide) hrd2 (by rw [hl]; exact h0)
  have hle := Aa.le_trans hMN hM'
  have q2 := hat2 i (by omega)
  rw [Nat.mul_one] at q2
  refine L7 p dn loc (hr1.mono hM') (hr2.mono hM') (hr3.mono hM') i hi hl ((Sl.evAt hat i hi).mono hle) ?_
  have : dn[i]?.getD false = dn[i] := by rw [List.getElem?_eq_getElem (by omega)]; rfl
  rw [this]; exact q2.mono hle
 ·rintro v M' G' hM' hv
  obtain ⟨ov, rfl, hov, rfl⟩ := hv
  (refine nx ?_; try with_reducible exact ⟨⟩)
  repeat' first
    | fail
  (refine rt Q40_ok ?_; try with_reducible exact ⟨⟩)
  exact ⟨_, ⟨ov, rfl, hov, rfl⟩, rfl⟩
end
end Go.EV

namespace Go.EV
open Go.Proofs
structure Wd where
 r : List Int
 w : List Int
 k : List Bool
 t : List Bool
def B2 (p : List Ev) (f : List Int) (s : Wd) (i : Nat) : Wd :=
 if (evAt p i).reads && decide (f[i]?.getD 0 = -1) then { s with k := s.k.set i true }
 else if (evAt p i).reads && (s.t[(f[i]?.getD 0).toNat]?.getD false) then { s with r := s.r.set i (s.w[(f[i]?.getD 0).toNat]?.getD 0), k := s.k.set i true } else s
def Cb (p : List Ev) (s : Wd) (i : Nat) : Wd :=
 if (evAt p i).op.kind = 1 then { s with w := s.w.set i (evAt p i).op.v, t := s.t.set i true }
 else if (evAt p i).op.kind = 2 then { s with w := s.w.set i (IntKind.i64.wrap (s.r[i]?.getD 0 + (evAt p i).op.v)), t := s.t.set i (s.k[i]?.getD false) }
 else if (evAt p i).op.kind = 3 ∨ (evAt p i).op.kind = 4 then { s with w := s.w.set i (evAt p i).op.w, t := s.t.set i true } else s
def Yq (p : List Ev) (f : List Int) (s : Wd) (i : Nat) : Wd := Cb p (B2 p f s i) i
def Co (p : List Ev) (f : List Int) (s : Wd) : Nat → Wd
 | 0 => s
 | n + 1 => Yq p f (Co p f s n) n
def wd0 (n : Nat) : Wd := ⟨List.replicate n 0, List.replicate n 0, List.replicate n false, List.replicate n false⟩
def Bb (p : List Ev) (f : List Int) : Nat → Wd
 | 0 => wd0 p.length
 | k + 1 => Co p f (Bb p f k) p.length
def Ap (p : List Ev) (f : List Int) : Wd := Bb p f (p.length + 1)
structure Wd.Len (s : Wd) (n : Nat) : Prop where
 r : s.r.length = n
 w : s.w.length = n
 k : s.k.length = n
 t : s.t.length = n
theorem Oz {p : List Ev} {f : List Int} {s : Wd} {i n : Nat} (h : s.Len n) : (B2 p f s i).Len n := by
 unfold B2
 split
 ·exact ⟨h.r, h.w, by simp [h.k], h.t⟩
 ·split
  ·exact ⟨by simp [h.r], h.w, by simp [h.k], h.t⟩
  ·exact h
theorem T0 {p : List Ev} {s : Wd} {i n : Nat} (h : s.Len n) : (Cb p s i).Len n := by
 unfold Cb
 split
 ·exact ⟨h.r, by simp [h.w], h.k, by simp [h.t]⟩
 ·split
  ·exact ⟨h.r, by simp [h.w], h.k, by simp [h.t]⟩
  ·split
   ·exact ⟨h.r, by simp [h.w], h.k, by simp [h.t]⟩
   ·exact h
theorem Wo {p : List Ev} {f : List Int} {s : Wd} {i n : Nat} (h : s.Len n) : (Yq p f s i).Len n := T0 (Oz h)
theorem Yr (n : Nat) : (wd0 n).Len n := by constructor <;> simp [wd0]
theorem L8 {p : List Ev} {f : List Int} {s : Wd} {n : Nat} (h : s.Len n) : ∀ i, (Co p f s i).Len n
 | 0 => h
 | i + 1 => Wo (L8 h i)
theorem Ew (p : List Ev) (f : List Int) : ∀ k, (Bb p f k).Len p.length
 | 0 => Yr _
 | k + 1 => L8 (Ew p f k) _
def Cs (p : List Ev) (f : List Int) : Prop := f.length = p.length ∧ ∀ i, i < p.length → (evAt p i).reads = true → f[i]?.getD 0 = -1 ∨ (0 ≤ f[i]?.getD 0 ∧ f[i]?.getD 0 < p.length)
abbrev wdG (s : Wd) (xb rb wb kb tb : Nat) (f d o n : Value) : Own :=
 [(tb, Cl 4 (s.t.map vb)), (rb, Cl 3 (s.r.map vi)), (wb, Cl 3 (s.w.map vi)), (kb, Cl 4 (s.k.map vb)), (xb, Cl 45 [f, d, o, n])]
section
variable {M : Aa}
theorem A1 {α : Type} (n : Nat) (v : α) : (List.replicate n [v]).flatten = List.replicate n v := by simp
set_option maxHeartbeats 4000000 in
theorem J3 (p : List Ev) (s : Value) (hs : Sl M 6 A2 s p) (hb : p.length < 1000000) (fr : List Int) (f d o n : Value) (hf : Sl M 1 ei f fr) (hfo : Cs p fr) :
  Con Tryz.prog 85 #[s, .agg #[f, d, o, n]] M [] fun v M' _ => ∃ rv wv kv, v = .tuple #[rv, wv, kv] ∧ Sl M' 1 ei rv (Ap p fr).r ∧ Sl M' 1 ei wv (Ap p fr).w ∧ Sl M' 1 eb kv (Ap p fr).k := by
 obtain ⟨a, c, rfl, hrd⟩ := hs
 obtain ⟨fa, fc, rfl, hrf⟩ := hf
 obtain ⟨hfl, hfo⟩ := hfo
 refine Con.enter Q39_ok (args := [.slice a p.length c, .agg #[.slice fa fr.length fc, d, o, n]]) (by simp [Q39]) fun w0 => ?_
 simp only [Q39, A3]
 refine EV.seq (EV.reg ?_)
 (repeat first | refine nx ?_ | simp only [Bp2])
 intro xb
 refine EV.seq (EV.thru (fun ρ' M' G' => ∃ rb wb kb, M' = M ∧ get ρ' 0 = some (.slice a p.length c) ∧ get ρ' 3 = some (pv xb 0) ∧ get ρ' 4 = some (A8 rb p.length p.length) ∧ get ρ' 5 = some (A8 wb p.length p.length) ∧ get ρ' 6 = some (A8 kb p.length p.length) ∧
  G' = [(rb, Cl 3 (List.replicate p.length (vi 0))), (wb, Cl 3 (List.replicate p.length (vi 0))), (kb, Cl 4 (List.replicate p.length (vb false))), (xb, Cl 45 [.slice fa fr.length fc, d, o, n])]) ?_ ?_)
 ·intro k' key
  repeat' first
    | (refine EV.any _ (List.Sublist.refl _) ?_; (conv => (arg 2; whnf)); (repeat first | refine nx ?_ | simp only [A1]))
    | (with_reducible intro b; (repeat first | refine nx ?_ | simp only [A1]))
    | (refine And.intro (by omega) ?_)
    | (refine And.intro (Aa.le_refl _) (And.intro (fun p hp => List.mem_cons_of_mem _ hp) ?_))
    | (refine And.intro (Aa.le_refl _) (And.intro (fun p hp => List.mem_cons_of_mem _ (List.mem_cons_of_mem _ hp)) ?_))
    | (refine And.intro (Aa.le_refl _) (And.intro (Ba ?_) ?_); focus ((repeat' first | exact List.Sublist.refl _ | exact List.nil_sublist _ | exact List.sublist_append_left _ _ | refine List.Sublist.cons_cons _ ?_ | refine List.Sublist.append_left ?_ _ | refine List.sublist_append_of_sublist_right ?_ | refine List.Sublist.cons _ ?_); done); (repeat first | refine nx ?_ | simp only [A1]))
    | refine And.intro ?_ ?_
    | fail
  all_goals exact EV.reS (key _ _ _ ⟨_, _, _, rfl, rfl, rfl, rfl, rfl, rfl, rfl⟩)
 rintro ρ1 M1 G1 ⟨rb, wb, kb, rfl, e0, e3, e4, e5, e6, rfl⟩
 refine EV.toS (ρ' := [(0, .slice a p.length c), (3, pv xb 0), (4, A8 rb p.length p.length), (5, A8 wb p.length p.length), (6, A8 kb p.length p.length)])
  (G' := [(rb, Cl 3 (List.replicate p.length (vi 0))), (wb, Cl 3 (List.replicate p.length (vi 0))), (kb, Cl 4 (List.replicate p.length (vb false))), (xb, Cl 45 [.slice fa fr.length fc, d, o, n])]) ?_
  (by simp only [List.forall_mem_cons]; exact ⟨e0, e3, e4, e5, e6, fun _ h => nomatch h⟩)
 clear e0 e3 e4 e5 e6
 repeat' first
   | refine EV.seq ?_
   | refine EV.block ?_
   | (refine EV.reg ?_; (conv => (arg 2; whnf)); (repeat first | refine nx ?_ | simp only [A1]))
   | (with_reducible intro b; (repeat first | refine nx ?_ | simp only [A1]))
   | (refine And.intro (by omega) ?_)
   | fail
 rename Nat => tb
 have hw1 : IntKind.i64.wrap ((p.length : Int) + 1) = (p.length : Int) + 1 := w64 (by omega) (by omega)
 rw [hw1]
 refine EV.loopTo (fun x : Nat => ([(0, .slice a p.length c), (3, pv xb 0), (4, A8 rb p.length p.length), (5, A8 wb p.length p.length), (6, A8 kb p.length p.length), (7, A8 tb p.length p.length), (25, vi ((p.length : Int) + 1)), (26, vi x)], M1,
   wdG (Bb p fr x) xb rb wb kb tb (.slice fa fr.length fc) d o n))
  (fun x => x ≤ p.length + 1) (fun x => p.length + 1 - x) 0 rfl (Nat.zero_le _) ?env1 ?sub1 ?_
 case env1 =>
  exact eE
 case sub1 =>
  simp only [wdG, Bb, wd0, List.map_replicate]
  exact List.Sublist.refl _
 intro x hx ih
 dsimp only at hx ih ⊢
 repeat' first
   | refine EV.seq ?_
   | refine EV.skip ?_
   | refine EV.block ?_
   | refine rg ?_
   | (refine cX (fun h => ?_) (fun h => ?_) <;> try exact Ah h)
   | (refine EV.exit rfl ?_)
   | exact ⟨⟩
   | fail
 ·generalize hsx : Bb p fr x = sx at *
  have hlx : sx.Len p.length := hsx ▸ Ew p fr x
  refine EV.loopTo (fun i : Nat => ([(0, .slice a p.length c), (3, pv xb 0), (4, A8 rb p.length p.length), (5, A8 wb p.length p.length), (6, A8 kb p.length p.length), (7, A8 tb p.length p.length), (25, vi ((p.length : Int) + 1)), (26, vi x), (28, .slice a p.length c), (29, vi p.length), (30, vi i)], M1,
    wdG (Co p fr sx i) xb rb wb kb tb (.slice fa fr.length fc) d o n))
   (fun i => i ≤ p.length) (fun i => p.length - i) 0 rfl (Nat.zero_le _) ?env2 (List.Sublist.refl _) ?_
  case env2 =>
   exact eE
  intro i hi ih2
  dsimp only at hi ih2 ⊢
  repeat' first
    | refine EV.seq ?_
    | refine EV.skip ?_
    | refine EV.block ?_
    | refine EV.inBlock ?_
    | refine rg ?_
    | (refine cX (fun h => ?_) (fun h => ?_) <;> try exact Ah h)
    | (refine EV.exit rfl ?_)
    | exact ⟨⟩
    | fail
  ·have hi' : i < p.length := by omega
   obtain ⟨pb, po, rfl, hat⟩ := Sl.at (enc := A2) (fun _ => rfl) (by omega) hrd (by omega)
   obtain ⟨fb, fo, rfl, hat2⟩ := Sl.at (sz := 1) (enc := ei) (fun _ => rfl) (by decide) hrf (by omega)
   have hpi := Sl.evAt hat i hi'
   have hfi : rd M1 fb (fo + i) 1 [vi (fr[i]?.getD 0)] := by
    have := hat2 i (by omega)
    rw [Nat.mul_one] at this
    rwa [List.getElem?_eq_getElem (by omega : i < fr.length)]
   have hwr := hfo i hi'
   have hiI : (i : Int) < fr.length := by omega
   generalize hsi : Co p fr sx i = s at *
   have hls : s.Len p.length := hsi ▸ L8 hlx i
   have hstep : Co p fr sx (i + 1) = Cb p (B2 p fr s i) i := by simp only [Co, hsi, Yq]
   have hlr := hls.r
   have hlw := hls.w
   have hlk := hls.k
   have hlt := hls.t
   have hri : i < s.r.length := by omega
   have hki : i < s.k.length := by omega
   have ih3 := ih2 (i + 1) (by omega) (by omega)
   rw [hstep] at ih3
   clear ih ih2 hat hat2 hrd hrf
   repeat' first
     | (with_reducible intro b; try refine nx ?_)
     | (refine And.intro (by omega) ?_)
     | (refine xm ?_; try refine nx ?_)
     | (refine xw ?_; refine nx ?_)
     | exact ⟨⟩
     | fail
   rename Nat => eb0
   refine EV.seq (EV.thru (fun ρ' M' G' => M' = M1 ∧ (∀ q ∈ [(0, .slice (some ⟨pb, po, none⟩) p.length c), (3, pv xb 0), (4, A8 rb p.length p.length), (5, A8 wb p.length p.length), (6, A8 kb p.length p.length), (7, A8 tb p.length p.length), (8, vi i), (9, pv eb0 0), (25, vi ((p.length : Int) + 1)), (26, vi x), (28, .slice (some ⟨pb, po, none⟩) p.length c), (29, vi p.length), (30, vi i)], get ρ' q.1 = some q.2) ∧
    G' = (eb0, Cl 121 (A2 (evAt p i))) :: wdG (B2 p fr s i) xb rb wb kb tb (.slice (some ⟨fb, fo, none⟩) fr.length fc) d o n) ?_ ?_)
   ·intro k' key
    clear ih3
    cases hre : (evAt p i).reads with
    | false =>
     have e1 : B2 p fr s i = s := by simp [B2, hre]
     rw [e1] at key
     repeat' first
       | refine EV.seq ?_
       | refine EV.skip ?_
       | refine EV.block ?_
       | refine EV.inBlock ?_
       | (refine EV.reg ?_; (conv => (arg 2; whnf)); (repeat first | refine nx ?_ | simp only [hre, Bool.false_and, Bool.true_and]))
       | (refine Aq.call (Bv (evAt p i)) ?_; (repeat first | refine nx ?_ | simp only [hre, Bool.false_and, Bool.true_and]))
       | with_reducible assumption
       | (refine Az.merge ?_ (fun hc K' hK => ?_) ?_; rotate_left)
       | (refine cX (fun h => ?_) (fun h => ?_) <;> try exact Ah h)
       | (refine And.intro (by omega) ?_)
       | ((first | refine xm ?_ | refine xrA rfl ?_ | refine xsA rfl ?_ | fail); (repeat first | refine nx ?_ | simp only [hre, Bool.false_and, Bool.true_and]))
       | (exfalso; simp at hc; done)
       | exact false
       | fail
     refine key _ _ _ ⟨rfl, ?_, rfl⟩
     exact eE
    | true =>
     have hwr := hwr hre
     by_cases hm1 : fr[i]?.getD 0 = -1
     ·have e1 : B2 p fr s i = { s with k := s.k.set i true } := by simp [B2, hre, hm1]
      rw [e1] at key
      repeat' first
        | refine EV.seq ?_
        | refine EV.block ?_
        | refine EV.inBlock ?_
        | (refine EV.reg ?_; (conv => (arg 2; whnf)); (repeat first | refine nx ?_ | simp only [hre, Bool.false_and, Bool.true_and, Ao, List.length_map, hlr, hlw, hlk, hlt, hi']))
        | (refine Aq.call (Bv (evAt p i)) ?_; (repeat first | refine nx ?_ | simp only [hre, Bool.false_and, Bool.true_and, Ao, List.length_map, hlr, hlw, hlk, hlt, hi']))
        | with_reducible assumption
        | (refine Az.merge ?_ (fun hc K' hK => ?_) ?_; rotate_left)
        | (refine cX (fun h => ?_) (fun h => ?_) <;> try exact Ah h)
        | (refine And.intro (by omega) ?_)
        | ((first | refine xm ?_ | refine xrA rfl ?_ | refine xsA rfl ?_ | fail); (repeat first | refine nx ?_ | simp only [hre, Bool.false_and, Bool.true_and, Ao, List.length_map, hlr, hlw, hlk, hlt, hi']))
        | (refine xw ?_; (repeat first | refine nx ?_ | simp only [hre, Bool.false_and, Bool.true_and, Ao, List.length_map, hlr, hlw, hlk, hlt, hi']))
        | fail
      refine key _ _ _ ⟨rfl, ?_, rfl⟩
      exact eE
     ·have hge := hwr.resolve_left hm1
      have hft : (fr[i]?.getD 0).toNat < s.t.length := by omega
      have hfw : (fr[i]?.getD 0).toNat < s.w.length := by omega
      have et : s.t[(fr[i]?.getD 0).toNat]?.getD false = s.t[(fr[i]?.getD 0).toNat] := by rw [List.getElem?_eq_getElem hft]; rfl
      have ew : s.w[(fr[i]?.getD 0).toNat]?.getD 0 = s.w[(fr[i]?.getD 0).toNat] := by rw [List.getElem?_eq_getElem hfw]; rfl
      have e1 : B2 p fr s i = if s.t[(fr[i]?.getD 0).toNat] = true then { s with r := s.r.set i (s.w[(fr[i]?.getD 0).toNat]), k := s.k.set i true } else s := by
       simp only [B2, hre, hm1, et, ew]; simp
      rw [e1] at key
      clear et ew e1
      repeat' first
        | refine EV.seq ?_
        | refine EV.skip ?_
        | refine EV.block ?_
        | refine EV.inBlock ?_
        | (refine EV.reg ?_; (conv => (arg 2; whnf)); (repeat first | refine nx ?_ | simp only [hre, Bool.false_and, Bool.true_and, Ao, List.length_map, hlr, hlw, hlk, hlt, hi']))
        | ((first | refine Exists.intro _ (And.intro (B4 (f := vi) hfw) ?_) | refine Exists.intro _ (And.intro (B4 (f := vb) hft) ?_) | refine Aq.call (Bv (evAt p i)) ?_ | fail); (repeat first | refine nx ?_ | simp only [hre, Bool.false_and, Bool.true_and, Ao, List.length_map, hlr, hlw, hlk, hlt, hi']))
        | with_reducible assumption
        | (refine Az.merge ?_ (fun hc K' hK => ?_) ?_; rotate_left)
        | (refine cX (fun h => ?_) (fun h => ?_) <;> try exact Ah h)
        | (refine And.intro (by omega) ?_)
        | ((first | refine xm ?_ | refine xrA rfl ?_ | refine xsA rfl ?_ | fail); (repeat first | refine nx ?_ | simp only [hre, Bool.false_and, Bool.true_and, Ao, List.length_map, hlr, hlw, hlk, hlt, hi']))
        | (refine xw ?_; (repeat first | refine nx ?_ | simp only [hre, Bool.false_and, Bool.true_and, Ao, List.length_map, hlr, hlw, hlk, hlt, hi']))
        | fail
      ·rw [if_pos (by assumption)] at key
       refine key _ _ _ ⟨rfl, ?_, rfl⟩
       exact eE
      ·rw [if_neg (by simp_all)] at key
       refine key _ _ _ ⟨rfl, ?_, rfl⟩
       exact eE
   rintro ρ2 M2 G2 ⟨rfl, hq, rfl⟩
   refine EV.toS (G' := (eb0, Cl 121 (A2 (evAt p i))) :: wdG (B2 p fr s i) xb rb wb kb tb (.slice (some ⟨fb, fo, none⟩) fr.length fc) d o n) ?_ hq
   clear hq
   have hls2 : (B2 p fr s i).Len p.length := Oz hls
   generalize B2 p fr s i = s2 at *
   have hlr2 := hls2.r
   have hlw2 := hls2.w
   have hlk2 := hls2.k
   have hlt2 := hls2.t
   have hri2 : i < s2.r.length := by omega
   have hki2 : i < s2.k.length := by omega
   have er : s2.r[i]?.getD 0 = s2.r[i] := by rw [List.getElem?_eq_getElem hri2]; rfl
   have ek : s2.k[i]?.getD false = s2.k[i] := by rw [List.getElem?_eq_getElem hki2]; rfl
   have e1 : Cb p s2 i = if (evAt p i).op.kind = 1 then { s2 with w := s2.w.set i (evAt p i).op.v, t := s2.t.set i true }
    else if (evAt p i).op.kind = 2 then { s2 with w := s2.w.set i (IntKind.i64.wrap (s2.r[i] + (evAt p i).op.v)), t := s2.t.set i s2.k[i] }
    else if (evAt p i).op.kind = 3 ∨ (evAt p i).op.kind = 4 then { s2 with w := s2.w.set i (evAt p i).op.w, t := s2.t.set i true } else s2 := by simp only [Cb, er, ek]
   rw [e1] at ih3
   clear er ek e1 hwr hfi hfo
   repeat' first
     | refine EV.seq ?_
     | refine EV.skip ?_
     | refine EV.block ?_
     | refine EV.inBlock ?_
     | (refine EV.reg ?_; (conv => (arg 2; whnf)); (repeat first | refine nx ?_ | simp only [Ao, List.length_map, hlr2, hlw2, hlk2, hlt2, hi']))
     | (refine cX (fun h => ?_) (fun h => ?_) <;> try exact Ah h)
     | (refine And.intro (by omega) ?_)
     | (refine xiA rfl ?_; (repeat first | refine nx ?_ | simp only [Ao, List.length_map, hlr2, hlw2, hlk2, hlt2, hi']))
     | (refine xw ?_; (repeat first | refine nx ?_ | simp only [Ao, List.length_map, hlr2, hlw2, hlk2, hlt2, hi']))
     | fail
   rotate_left
   ·refine EV.any (t := Yh) [(eb0, Cl 121 (A2 (evAt p i))), (rb, Cl 3 (s2.r.map vi)), (kb, Cl 4 (s2.k.map vb))] eS ?_
    (repeat first | refine nx ?_ | simp only [Yh])
    repeat' first
      | refine EV.inBlock ?_
      | (refine EV.reg ?_; (conv => (arg 2; whnf)); (repeat first | refine nx ?_ | simp only [Ao, List.length_map, hlr2, hlw2, hlk2, hlt2, hi']))
      | ((first | refine Exists.intro _ (And.intro (B4 (f := vb) (i := i) hki2) ?_) | refine Exists.intro _ (And.intro (B4 (f := vi) (i := i) hri2) ?_) | fail); (repeat first | refine nx ?_ | simp only [Ao, List.length_map, hlr2, hlw2, hlk2, hlt2, hi']))
      | (refine And.intro (by omega) ?_)
      | (refine xiA rfl ?_; (repeat first | refine nx ?_ | simp only [Ao, List.length_map, hlr2, hlw2, hlk2, hlt2, hi']))
      | (refine xw ?_; (repeat first | refine nx ?_ | simp only [Ao, List.length_map, hlr2, hlw2, hlk2, hlt2, hi']))
      | (refine And.intro (Aa.le_refl _) (And.intro (Ba ?_) ?_); focus ((repeat' first | exact List.Sublist.refl _ | exact List.nil_sublist _ | exact List.sublist_append_left _ _ | refine List.Sublist.cons_cons _ ?_ | refine List.Sublist.append_left ?_ _ | refine List.sublist_append_of_sublist_right ?_ | refine List.Sublist.cons _ ?_); done); (repeat first | refine nx ?_ | simp only [Ao, List.length_map, hlr2, hlw2, hlk2, hlt2, hi']))
      | fail
    rw [if_neg (show ¬ (evAt p i).op.kind = 1 by assumption), if_pos (show (evAt p i).op.kind = 2 by assumption)] at ih3
    refine EV.toS ih3 ?_
    exact eE
   all_goals
    first
     | rw [if_pos (show (evAt p i).op.kind = 1 by assumption)] at ih3
     | rw [if_neg (show ¬ (evAt p i).op.kind = 1 by assumption), if_pos (show (evAt p i).op.kind = 2 by assumption)] at ih3
     | rw [if_neg (show ¬ (evAt p i).op.kind = 1 by assumption), if_neg (show ¬ (evAt p i).op.kind = 2 by assumption), if_pos (show (evAt p i).op.kind = 3 ∨ (evAt p i).op.kind = 4 by omega)] at ih3
     | rw [if_neg (show ¬ (evAt p i).op.kind = 1 by assumption), if_neg (show ¬ (evAt p i).op.kind = 2 by assumption), if_neg (show ¬ ((evAt p i).op.kind = 3 ∨ (evAt p i).op.kind = 4) by omega)] at ih3
    refine EV.toS ih3 ?_
    exact eE
  ·have hi2 : i = p.length := by omega
   subst hi2
   have ih3 := ih (x + 1) (by omega) (by omega)
   simp only [Bb, hsx] at ih3
   refine EV.toS ih3 ?_
   exact eE
 ·have hx2 : x = p.length + 1 := by omega
  subst hx2
  have hlx := Ew p fr (p.length + 1)
  refine EV.frz (wdG (Bb p fr (p.length + 1)) xb rb wb kb tb (.slice fa fr.length fc) d o n) ?_
  (refine rt Q39_ok ?_; try with_reducible exact ⟨⟩)
  have er := hlx.r
  have ew := hlx.w
  have ek := hlx.k
  refine ⟨A8 rb p.length p.length, A8 wb p.length p.length, A8 kb p.length p.length, rfl, ⟨some ⟨rb, 0, none⟩, p.length, by rw [Ap, er], Or.inr ⟨rb, 0, rfl, ?_⟩⟩, ⟨some ⟨wb, 0, none⟩, p.length, by rw [Ap, ew], Or.inr ⟨wb, 0, rfl, ?_⟩⟩, ⟨some ⟨kb, 0, none⟩, p.length, by rw [Ap, ek], Or.inr ⟨kb, 0, rfl, ?_⟩⟩⟩
  ·exact An 1 rfl (by rw [Av, Ap, Nat.mul_one, List.drop_zero, List.take_of_length_le (by rw [List.length_map]; exact Nat.le_refl _)]) (by rw [List.length_map, Ap]; omega)
  ·exact An 2 rfl (by rw [Av, Ap, Nat.mul_one, List.drop_zero, List.take_of_length_le (by rw [List.length_map]; exact Nat.le_refl _)]) (by rw [List.length_map, Ap]; omega)
  ·exact An 3 rfl (by rw [Hx, Ap, Nat.mul_one, List.drop_zero, List.take_of_length_le (by rw [List.length_map]; exact Nat.le_refl _)]) (by rw [List.length_map, Ap]; omega)
end
end Go.EV

namespace Go.EV
open Go.Proofs
abbrev vu (n : Nat) : Value := .int .u32 n
abbrev Rel := List Nat
def A0 (r : Rel) (a b : Nat) : Bool := (r[a]?.getD 0).testBit b
def orR (r : Rel) (a m : Nat) : Rel := r.set a (r[a]?.getD 0 ||| m)
def Li (r : Rel) (a b : Nat) : Rel := orR r a (2 ^ b)
def closeRow (r : Rel) (k : Nat) : Nat → Rel
 | 0 => r
 | a + 1 => if A0 (closeRow r k a) a k then orR (closeRow r k a) a ((closeRow r k a)[k]?.getD 0) else closeRow r k a
def closeGo (r : Rel) : Nat → Rel
 | 0 => r
 | k + 1 => closeRow (closeGo r k) k r.length
def Cc (r : Rel) : Rel := closeGo r r.length
def Bn (r : Rel) : Bool := (List.range r.length).any fun a => A0 r a a
structure RelOk (n : Nat) (r : Rel) : Prop where
 len : r.length = n
 lt : ∀ a : Nat, r[a]?.getD 0 < 2 ^ n
theorem RelOk.or {n : Nat} {r : Rel} (h : RelOk n r) (a : Nat) {m : Nat} (hm : m < 2 ^ n) : RelOk n (orR r a m) := by
 refine ⟨by simp [orR, h.len], fun b => ?_⟩
 simp only [orR, List.getElem?_set]
 split
 ·split
  ·simp only [Option.getD_some]; exact Nat.or_lt_two_pow (h.lt a) hm
  ·simp only [Option.getD_none]; exact Nat.two_pow_pos n
 ·exact h.lt b
theorem RelOk.put {n : Nat} {r : Rel} (h : RelOk n r) (a : Nat) {b : Nat} (hb : b < n) : RelOk n (Li r a b) := h.or a (Nat.pow_lt_pow_right (by decide) hb)
theorem RelOk.zero (n : Nat) : RelOk n (List.replicate n 0) := by
 refine ⟨by simp, fun a => ?_⟩
 rw [List.getElem?_replicate]
 split <;> simp [Nat.two_pow_pos]
theorem RelOk.closeRow {n : Nat} {r : Rel} (h : RelOk n r) (k : Nat) : ∀ a, RelOk n (closeRow r k a)
 | 0 => h
 | a + 1 => by
  simp only [EV.closeRow]
  split
  ·exact (RelOk.closeRow h k a).or a ((RelOk.closeRow h k a).lt k)
  ·exact RelOk.closeRow h k a
theorem RelOk.closeGo {n : Nat} {r : Rel} (h : RelOk n r) : ∀ k, RelOk n (closeGo r k)
 | 0 => h
 | k + 1 => RelOk.closeRow (RelOk.closeGo h k) k _
theorem RelOk.close {n : Nat} {r : Rel} (h : RelOk n r) : RelOk n (Cc r) := RelOk.closeGo h _
theorem Ys {x : Nat} (h : x < 2 ^ 32) : BitVec.ofInt IntKind.u32.bits (x : Int) = (BitVec.ofNat 32 x : BitVec IntKind.u32.bits) := BitVec.ofInt_natCast 32 x
theorem P5 {x : Nat} (h : x < 2 ^ 32) : IntKind.u32.wrap (x : Int) = x := by
 have e : (2 : Int) ^ IntKind.u32.bits = 4294967296 := rfl
 have e3 : IntKind.u32.signed = false := rfl
 have h' : x < 4294967296 := h
 simp only [IntKind.wrap, e, e3, Bool.false_and]
 simp only [Bool.false_eq_true, if_false]
 omega
theorem O0 {x y : Nat} (hx : x < 2 ^ 32) (hy : y < 2 ^ 32) : IntKind.u32.wrap ((BitVec.ofInt IntKind.u32.bits (x : Int) ||| BitVec.ofInt IntKind.u32.bits (y : Int)).toNat : Int) = ((x ||| y : Nat) : Int) := by
 rw [Ys hx, Ys hy]
 have e : (BitVec.ofNat 32 x ||| BitVec.ofNat 32 y).toNat = x ||| y := by
  rw [BitVec.toNat_or, BitVec.toNat_ofNat, BitVec.toNat_ofNat, Nat.mod_eq_of_lt hx, Nat.mod_eq_of_lt hy]
 show IntKind.u32.wrap ((BitVec.ofNat 32 x ||| BitVec.ofNat 32 y).toNat : Int) = _
 rw [e]
 exact P5 (Nat.or_lt_two_pow hx hy)
theorem Cv {b : Nat} (hb : b < 32) : IntKind.u32.wrap (1 * 2 ^ min b IntKind.u32.bits) = ((2 ^ b : Nat) : Int) := by
 rw [show IntKind.u32.bits = 32 from rfl, Nat.min_eq_left (by omega), Int.one_mul]
 rw [show ((2 : Int) ^ b) = ((2 ^ b : Nat) : Int) from by simp]
 exact P5 (Nat.pow_lt_pow_right (by decide) hb)
theorem Ip {x b : Nat} (hx : x < 2 ^ 32) (hb : b < 32) : IntKind.u32.wrap ((BitVec.ofInt IntKind.u32.bits (x : Int) ||| BitVec.ofInt IntKind.u32.bits (2 ^ b)).toNat : Int) = ((x ||| 2 ^ b : Nat) : Int) := by
 have := O0 (y := 2 ^ b) hx (Nat.pow_lt_pow_right (by decide) hb)
 rwa [show ((2 ^ b : Nat) : Int) = 2 ^ b from by simp] at this
theorem Yt {x b : Nat} (hx : x < 2 ^ 32) (hb : b < 32) : decide (IntKind.u32.wrap ((BitVec.ofInt IntKind.u32.bits ((x : Int).fdiv (2 ^ min b IntKind.u32.bits)) &&& BitVec.ofInt IntKind.u32.bits 1).toNat : Int) = 1) = x.testBit b := by
 have e0 : min b IntKind.u32.bits = b := Nat.min_eq_left (show b ≤ 32 by omega)
 rw [e0]
 have e1 : (x : Int).fdiv (2 ^ b) = ((x / 2 ^ b : Nat) : Int) := by
  rw [Int.fdiv_eq_ediv_of_nonneg _ (by exact_mod_cast Nat.zero_le _)]; simp
 have hd : x / 2 ^ b < 2 ^ 32 := Nat.lt_of_le_of_lt (Nat.div_le_self _ _) hx
 rw [e1, Ys hd]
 have e : (BitVec.ofNat 32 (x / 2 ^ b) &&& BitVec.ofInt 32 1).toNat = (x / 2 ^ b) % 2 := by
  rw [BitVec.toNat_and, BitVec.toNat_ofNat, Nat.mod_eq_of_lt hd]
  show (x / 2 ^ b) &&& 1 = _
  exact Nat.and_one_is_mod _
 show decide (IntKind.u32.wrap ((BitVec.ofNat 32 (x / 2 ^ b) &&& BitVec.ofInt 32 1).toNat : Int) = 1) = _
 rw [e, P5 (by omega)]
 rw [Nat.testBit_eq_decide_div_mod_eq]
 simp only [decide_eq_decide]
 omega
section
variable {M : Aa}
theorem Jh (s : Value) (p : List Ev) (hs : Sl M 6 A2 s p) (hb : p.length ≤ 32) : Con Tryz.prog 136 #[s] M [] fun v _ G' => ∃ b, v = A8 b p.length p.length ∧ G' = [(b, Cl 144 ((List.replicate p.length 0).map vu))] := by
 obtain ⟨a, c, rfl, hrd⟩ := hs
 refine Con.enter Q35_ok (args := [.slice a p.length c]) (by simp [Q35]) fun w0 => ?_
 simp only [Q35, A3]
 repeat' first
   | refine EV.seq ?_
   | (refine EV.reg ?_; (conv => (arg 2; whnf)); (repeat first | refine nx ?_ | simp only [A1]))
   | (with_reducible intro b; (repeat first | refine nx ?_ | simp only [A1]))
   | (refine And.intro (by omega) ?_)
   | fail
 (refine rt Q35_ok ?_; try with_reducible exact ⟨⟩)
 exact ⟨b, rfl, by simp⟩
theorem Ln {b n a j c x : Nat} (h : rd M b a 1 [vu x]) (ha : a < n) (hn : n < 1000000) (hj : j < 32) (hx : x < 2 ^ 32) : Aq Tryz.prog 68 #[A8 b n c, vi a, vi j] M (vb (x.testBit j)) := by
 refine Con.enter Q44_ok (args := [A8 b n c, vi a, vi j]) (by simp [Q44]) fun w0 => ?_
 simp only [Q44, A3]
 have ha' : (a : Int) < n := by omega
 have hjn : ¬ ((j : Int) < 0) := by omega
 repeat' first
   | refine EV.seq ?_
   | (refine EV.reg ?_; (conv => (arg 2; whnf)); (repeat first | refine nx ?_ | simp only [hjn]))
   | (refine EV.ret Q44_ok ?_; (repeat first | refine nx ?_ | simp only [hjn, Q44]))
   | (refine And.intro (by omega) ?_)
   | (refine xm ?_; (repeat first | refine nx ?_ | simp only [hjn]))
   | fail
 rw [Yt hx hj]
theorem Ab8 {b n a j c : Nat} {r : Rel} (hr : RelOk n r) (hn : n ≤ 32) (ha : a < n) (hj : j < n) : Con Tryz.prog 121 #[A8 b n c, vi a, vi j] M [(b, Cl 144 (r.map vu))] fun _ _ G' => G' = [(b, Cl 144 ((Li r a j).map vu))] := by
 refine Con.enter Q45_ok (args := [A8 b n c, vi a, vi j]) (by simp [Q45]) fun w0 => ?_
 simp only [Q45, A3]
 have ha' : (a : Int) < n := by omega
 have hjn : ¬ ((j : Int) < 0) := by omega
 have hal : a < r.length := by rw [hr.len]; exact ha
 have hx : r[a] < 2 ^ 32 := by
  have := hr.lt a
  rw [List.getElem?_eq_getElem hal] at this
  exact Nat.lt_of_lt_of_le this (Nat.pow_le_pow_right (by decide) hn)
 have h2 : 2 ^ j < 2 ^ 32 := Nat.pow_lt_pow_right (by decide) (by omega)
 repeat' first
   | (refine EV.any _ (List.Sublist.refl _) ?_; (conv => (arg 2; whnf)); (repeat first | refine nx ?_ | simp only [hjn, Ao, hal, ha, List.length_map, hr.len, Cv (show j < 32 by omega), Ip hx (show j < 32 by omega)]))
   | (refine Exists.intro _ (And.intro (B4 (f := vu) hal) ?_); (repeat first | refine nx ?_ | simp only [hjn, Ao, hal, ha, List.length_map, hr.len, Cv (show j < 32 by omega), Ip hx (show j < 32 by omega)]))
   | (refine And.intro (by omega) ?_)
   | (refine xw ?_; (repeat first | refine nx ?_ | simp only [hjn, Ao, hal, ha, List.length_map, hr.len, Cv (show j < 32 by omega), Ip hx (show j < 32 by omega)]))
   | fail
 refine EV.done Q45_ok ?_
 (repeat first | refine nx ?_ | simp only [Q45])
 simp only [Li, orR, List.getElem?_eq_getElem hal, Option.getD_some]
theorem Fs {b n c : Nat} {a j : Int} {r : Rel} (hr : RelOk n r) (hn : n ≤ 32) (ha0 : 0 ≤ a) (ha : a < n) (hj0 : 0 ≤ j) (hj : j < n) : Con Tryz.prog 121 #[A8 b n c, vi a, vi j] M [(b, Cl 144 (r.map vu))] fun _ _ G' => G' = [(b, Cl 144 ((Li r a.toNat j.toNat).map vu))] := by
 obtain ⟨a', rfl⟩ := Int.eq_ofNat_of_zero_le ha0
 obtain ⟨j', rfl⟩ := Int.eq_ofNat_of_zero_le hj0
 simp only [Int.toNat_natCast]
 exact Ab8 hr hn (by omega) (by omega)
theorem RelOk.at {n : Nat} {r : Rel} (h : RelOk n r) (hn : n ≤ 32) (a : Nat) : r[a]?.getD 0 < 2 ^ 32 := Nat.lt_of_lt_of_le (h.lt a) (Nat.pow_le_pow_right (by decide) hn)
theorem RelOk.get {n : Nat} {r : Rel} (h : RelOk n r) {a : Nat} (ha : a < n) : ∃ h' : a < r.length, r[a]?.getD 0 = r[a] := by
 have h' : a < r.length := by rw [h.len]; exact ha
 exact ⟨h', by rw [List.getElem?_eq_getElem h']; rfl⟩
theorem J4 {b n c : Nat} {r : Rel} (hr : RelOk n r) (hn : n ≤ 32) : Con Tryz.prog 106 #[A8 b n c] M [(b, Cl 144 (r.map vu))] fun v _ G' => v = A8 b n c ∧ G' = [(b, Cl 144 ((Cc r).map vu))] := by
 refine Con.enter Q43_ok (args := [A8 b n c]) (by simp [Q43]) fun w0 => ?_
 simp only [Q43, A3]
 repeat' first
   | refine EV.seq ?_
   | refine EV.block ?_
   | refine rg ?_
   | exact ⟨⟩
   | fail
 refine EV.loopTo (fun k : Nat => ([(0, A8 b n c), (6, vi n), (7, vi k)], M, [(b, Cl 144 ((closeGo r k).map vu))])) (fun k => k ≤ n) (fun k => n - k) 0 rfl (Nat.zero_le _) ?env1 (List.Sublist.refl _) ?_
 case env1 =>
  exact eE
 intro k hk ih
 dsimp only at hk ih ⊢
 have hrk := RelOk.closeGo hr k
 repeat' first
   | refine EV.seq ?_
   | refine EV.skip ?_
   | refine EV.block ?_
   | refine rg ?_
   | (refine cX (fun h => ?_) (fun h => ?_) <;> try exact Ah h)
   | (refine EV.exit rfl ?_)
   | exact ⟨⟩
   | fail
 ·refine EV.loopTo (fun a : Nat => ([(0, A8 b n c), (3, vi k), (6, vi n), (7, vi k), (11, vi n), (12, vi a)], M, [(b, Cl 144 ((closeRow (closeGo r k) k a).map vu))])) (fun a => a ≤ n) (fun a => n - a) 0 rfl (Nat.zero_le _) ?env2 (List.Sublist.refl _) ?_
  case env2 =>
   exact eE
  intro a ha ih2
  dsimp only at ha ih2 ⊢
  have hra := RelOk.closeRow hrk k a
  repeat' first
    | refine EV.seq ?_
    | refine EV.skip ?_
    | refine EV.block ?_
    | refine EV.inBlock ?_
    | refine rg ?_
    | (refine cX (fun h => ?_) (fun h => ?_) <;> try exact Ah h)
    | (refine EV.exit rfl ?_)
    | exact ⟨⟩
    | fail
  ·have ha' : a < n := by omega
   have hk' : k < n := by omega
   have ih3 := ih2 (a + 1) (by omega) (by omega)
   have hs : closeRow (closeGo r k) k (a + 1) = if A0 (closeRow (closeGo r k) k a) a k then orR (closeRow (closeGo r k) k a) a ((closeRow (closeGo r k) k a)[k]?.getD 0) else closeRow (closeGo r k) k a := rfl
   rw [hs] at ih3
   clear hs ih ih2
   generalize closeRow (closeGo r k) k a = q at *
   obtain ⟨hal, ea⟩ := hra.get ha'
   obtain ⟨hkl, ek⟩ := hra.get hk'
   have hxa := hra.at (by omega) a
   have hxk := hra.at (by omega) k
   simp only [A0, orR, ea, ek] at ih3 hxa hxk
   have hqn := hra.len
   repeat' first
     | refine EV.skip ?_
     | refine EV.inBlock ?_
     | ((first | refine EV.reg ?_ | refine EV.any _ (List.Sublist.refl _) ?_ | fail); (conv => (arg 2; whnf)); (repeat first | refine nx ?_ | simp only [Ao, ha', List.length_map, O0 hxa hxk, hqn]))
     | ((first | refine Exists.intro _ (And.intro (B4 (f := vu) hkl) ?_) | refine Exists.intro _ (And.intro (B4 (f := vu) hal) ?_) | refine Aq.call (Ln (j := k) (B4 (f := vu) hal) ha' (by omega) (by omega) hxa) ?_ | fail); (repeat first | refine nx ?_ | simp only [Ao, ha', List.length_map, O0 hxa hxk, hqn]))
     | (refine cX (fun h => ?_) (fun h => ?_) <;> try exact Ah h)
     | (refine And.intro (by omega) ?_)
     | (refine xw ?_; (repeat first | refine nx ?_ | simp only [Ao, ha', List.length_map, O0 hxa hxk, hqn]))
     | fail
   ·rw [if_pos (by assumption)] at ih3
    refine EV.toS ih3 ?_
    exact eE
   ·rw [if_neg (by simp_all)] at ih3
    refine EV.toS ih3 ?_
    exact eE
  ·have hi2 : a = n := by omega
   subst hi2
   have ih3 := ih (k + 1) (by omega) (by omega)
   have e : closeGo r (k + 1) = closeRow (closeGo r k) k a := by rw [closeGo, hr.len]
   rw [e] at ih3
   refine EV.toS ih3 ?_
   exact eE
 ·have hi2 : k = n := by omega
  subst hi2
  (refine rt Q43_ok ?_; try with_reducible exact ⟨⟩)
  simp only [Cc, hr.len]
theorem Rr {r : Rel} {i : Nat} (h : ∀ a, a < i → A0 r a a = false) (hi : r.length ≤ i) : Bn r = false := by
 simp only [Bn, List.any_eq_false, List.mem_range]
 intro a ha
 rw [h a (by omega)]; simp
theorem L9 {b n c : Nat} {r : Rel} (hr : RelOk n r) (hn : n ≤ 32) (hrw : rd M b 0 n (r.map vu)) : Aq Tryz.prog 122 #[A8 b n c] M (vb (Bn r)) := by
 refine Con.enter Q42_ok (args := [A8 b n c]) (by simp [Q42]) fun w0 => ?_
 simp only [Q42, A3]
 repeat' first
   | refine EV.seq ?_
   | refine EV.block ?_
   | refine rg ?_
   | exact ⟨⟩
   | fail
 refine EV.loopTo (fun k : Nat => ([(0, A8 b n c), (5, vi n), (6, vi k)], M, [])) (fun k => k ≤ n ∧ ∀ a, a < k → A0 r a a = false) (fun k => n - k) 0 rfl ⟨Nat.zero_le _, fun a ha => absurd ha (Nat.not_lt_zero _)⟩ ?env1 (List.Sublist.refl _) ?_
 case env1 =>
  exact eE
 rintro k ⟨hk, hno⟩ ih
 dsimp only at hk hno ih ⊢
 repeat' first
   | refine EV.seq ?_
   | refine EV.skip ?_
   | refine EV.block ?_
   | refine rg ?_
   | (refine cX (fun h => ?_) (fun h => ?_) <;> try exact Ah h)
   | (refine EV.exit rfl ?_)
   | exact ⟨⟩
   | fail
 ·have hk' : k < n := by omega
  obtain ⟨hkl, ek⟩ := hr.get hk'
  have hxk := hr.at (by omega) k
  have hq : rd M b k 1 [vu r[k]] := by
   have := hrw.pt k 1 (by omega) (Jf vu r hkl)
   rwa [Nat.zero_add] at this
  rw [ek] at hxk
  repeat' first
    | refine EV.seq ?_
    | refine EV.skip ?_
    | refine EV.inBlock ?_
    | refine rg ?_
    | (refine Aq.call (Ln (j := k) (Ai8 hq) hk' (by omega) (by omega) hxk) ?_; try refine nx ?_)
    | (refine cX (fun h => ?_) (fun h => ?_) <;> try exact Ah h)
    | exact ⟨⟩
    | fail
  ·(refine rt Q42_ok ?_; try with_reducible exact ⟨⟩)
   have : Bn r = true := by
    simp only [Bn, List.any_eq_true, List.mem_range]
    exact ⟨k, hkl, by simp only [A0, ek]; assumption⟩
   rw [this]
  ·refine EV.toS (ih (k + 1) ⟨by omega, fun a ha => ?_⟩ (by omega)) ?_
   ·by_cases e : a = k
    ·subst e; simp only [A0, ek]; assumption
    ·exact hno a (by omega)
   ·exact eE
 ·(refine rt Q42_ok ?_; try with_reducible exact ⟨⟩)
  rw [Rr hno (by rw [hr.len]; omega)]
end
end Go.EV

namespace Go.EV
open Go.Proofs
def Wp (p : List Ev) : Prop := ∀ i, i < p.length → Bq (evAt p i).op.ord = true
def Ep (p : List Ev) (w : Nat) : Nat → Nat → Nat
 | 0, s => s
 | a + 1, s => if (evAt p a).th = (evAt p w).th then Ep p w a (if (evAt p a).op.kind = 5 ∧ (evAt p a).rel = true then s ||| 2 ^ a else s) else s
def E3 (p : List Ev) (w : Nat) : Nat := Ep p w w (if (evAt p w).rel then 2 ^ w else 0)
def Ji (p : List Ev) (r : Nat) : Nat → Nat → Nat → Nat
 | 0, _, s => s
 | f + 1, b, s => if (evAt p b).th = (evAt p r).th then Ji p r f (b + 1) (if (evAt p b).op.kind = 5 ∧ (evAt p b).acq = true then s ||| 2 ^ b else s) else s
def Iq (p : List Ev) (r : Nat) : Nat := Ji p r (p.length - (r + 1)) (r + 1) (if (evAt p r).acq then 2 ^ r else 0)
theorem Ma {p : List Ev} {w n : Nat} : ∀ (a s : Nat), a ≤ n → s < 2 ^ n → Ep p w a s < 2 ^ n
 | 0, s, _, h => h
 | a + 1, s, ha, h => by
  simp only [Ep]
  split
  ·refine Ma a _ (by omega) ?_
   split
   ·exact Nat.or_lt_two_pow h (Nat.pow_lt_pow_right (by decide) (by omega))
   ·exact h
  ·exact h
theorem O1 {p : List Ev} {w : Nat} (hw : w < p.length) : E3 p w < 2 ^ p.length := by
 refine Ma _ _ (by omega) ?_
 split
 ·exact Nat.pow_lt_pow_right (by decide) hw
 ·exact Nat.two_pow_pos _
theorem Rs {p : List Ev} {r n : Nat} : ∀ (f b s : Nat), b + f ≤ n → s < 2 ^ n → Ji p r f b s < 2 ^ n
 | 0, _, s, _, h => h
 | f + 1, b, s, hb, h => by
  simp only [Ji]
  split
  ·refine Rs f _ _ (by omega) ?_
   split
   ·exact Nat.or_lt_two_pow h (Nat.pow_lt_pow_right (by decide) (by omega))
   ·exact h
  ·exact h
theorem Vf {p : List Ev} {r : Nat} (hr : r < p.length) : Iq p r < 2 ^ p.length := by
 refine Rs _ _ _ (by omega) ?_
 split
 ·exact Nat.pow_lt_pow_right (by decide) hr
 ·exact Nat.two_pow_pos _
theorem Wq {s n : Nat} (h : s < 2 ^ n) (hn : n ≤ 32) : s < 2 ^ 32 := Nat.lt_of_lt_of_le h (Nat.pow_le_pow_right (by decide) hn)
def C2 (p : List Ev) : Nat → Rel
 | 0 => List.replicate p.length 0
 | i + 1 => if (evAt p (i + 1)).th = (evAt p i).th then Li (C2 p i) i (i + 1) else C2 p i
def Gt (r : Rel) (fen : List Int) : Nat → Rel
 | 0 => r
 | k + 1 => Li (Gt r fen k) (fen[k]?.getD 0).toNat (fen[k + 1]?.getD 0).toNat
def Hd (p : List Ev) (fen : List Int) : Rel := Gt (C2 p (p.length - 1)) fen (fen.length - 1)
def He (p : List Ev) (l : List Int) : Prop := ∀ x ∈ l, 0 ≤ x ∧ x < p.length
theorem He.at {p : List Ev} {l : List Int} (h : He p l) {k : Nat} (hk : k < l.length) : 0 ≤ l[k]?.getD 0 ∧ l[k]?.getD 0 < p.length := by
 rw [List.getElem?_eq_getElem hk]; exact h _ (List.getElem_mem hk)
theorem stepsA_ok (p : List Ev) : ∀ i, i ≤ p.length - 1 → RelOk p.length (C2 p i)
 | 0, _ => RelOk.zero _
 | i + 1, h => by
  simp only [C2]
  split
  ·exact (stepsA_ok p i (by omega)).put i (by omega)
  ·exact stepsA_ok p i (by omega)
theorem stepsB_ok {p : List Ev} {r : Rel} (hr : RelOk p.length r) {fen : List Int} (hf : He p fen) : ∀ k, k ≤ fen.length - 1 → RelOk p.length (Gt r fen k)
 | 0, _ => hr
 | k + 1, h => by
  have := hf.at (k := k + 1) (by omega)
  exact (stepsB_ok hr hf k (by omega)).put _ (by omega)
theorem stepsP_ok {p : List Ev} {fen : List Int} (hf : He p fen) : RelOk p.length (Hd p fen) := stepsB_ok (stepsA_ok p _ (Nat.le_refl _)) hf _ (Nat.le_refl _)
section
variable {M : Aa}
theorem N9 (p : List Ev) (s : Value) (hs : Sl M 6 A2 s p) (hb : p.length < 1000000) (f d o n : Value) (dn : List Bool) (hd : Sl M 1 eb d dn) (w : Nat) (hw : w < p.length) (hl : dn.length = p.length) :
  Aq Tryz.prog 104 #[s, .agg #[f, d, o, n], vi w] M (vb ((evAt p w).reads && (dn[w]?.getD false))) := by
 obtain ⟨a, c, rfl, hrd⟩ := hs
 obtain ⟨da, dc, rfl, hrd2⟩ := hd
 obtain ⟨pb, po, rfl, hat⟩ := Sl.at (enc := A2) (fun _ => rfl) (by decide) hrd (by omega)
 obtain ⟨db, do', rfl, hat2⟩ := Sl.at (sz := 1) (enc := eb) (fun _ => rfl) (by decide) hrd2 (by omega)
 have hpw := Sl.evAt hat w hw
 have hdw : rd M db (do' + w) 1 [vb (dn[w]?.getD false)] := by
  have := hat2 w (by omega)
  rw [Nat.mul_one] at this
  rwa [List.getElem?_eq_getElem (by omega : w < dn.length)]
 have hw1 : (w : Int) < p.length := by omega
 have hw2 : (w : Int) < dn.length := by omega
 refine Con.enter Q16_ok (args := [.slice (some ⟨pb, po, none⟩) p.length c, .agg #[f, .slice (some ⟨db, do', none⟩) dn.length dc, o, n], vi w]) (by simp [Q16]) fun w0 => ?_
 simp only [Q16, A3]
 repeat' first
   | refine EV.seq ?_
   | refine rg ?_
   | (refine Aq.call (Bv (evAt p w)) ?_; try refine nx ?_)
   | with_reducible assumption
   | (refine Az.merge ?_ (fun hc K' hK => ?_) ?_; rotate_left)
   | refine rt Q16_ok ?_
   | (with_reducible intro b; try refine nx ?_)
   | (refine And.intro (by omega) ?_)
   | ((first | refine xm ?_ | refine xsA rfl ?_ | fail); try refine nx ?_)
   | exact ⟨⟩
   | fail
 all_goals simp_all
theorem T1 (p : List Ev) (s : Value) (hs : Sl M 6 A2 s p) (hb : p.length ≤ 32) (ho : Wp p) (w : Nat) (hw : w < p.length) :
  Aq Tryz.prog 103 #[s, vi w] M (vu (E3 p w)) := by
 obtain ⟨a, c, rfl, hrd⟩ := hs
 obtain ⟨pb, po, rfl, hat⟩ := Sl.at (enc := A2) (fun _ => rfl) (by decide) hrd (by omega)
 have hat := Sl.evAt hat
 have hpw := hat w hw
 have hpw5 := hpw.pt 5 1 (by omega) rfl
 have hw1 : (w : Int) < p.length := by omega
 have hwn : ¬ ((w : Int) < 0) := by omega
 refine Con.enter Q37_ok (args := [.slice (some ⟨pb, po, none⟩) p.length c, vi w]) (by simp [Q37]) fun w0 => ?_
 simp only [Q37, A3]
 refine EV.seq (EV.reg ?_)
 (repeat first | refine nx ?_ | simp only [Bz1])
 refine EV.seq (EV.reg ?_)
 (repeat first | refine nx ?_ | simp only [Bz2])
 refine EV.seq (EV.thru (fun ρ' M' G' => M' = M ∧ (∀ q ∈ [(0, .slice (some ⟨pb, po, none⟩) p.length c), (1, vi w), (5, vu (if (evAt p w).rel then 2 ^ w else 0))], get ρ' q.1 = some q.2) ∧ G' = []) ?_ ?_)
 ·intro k' key
  have h0 : IntKind.u32.wrap ((BitVec.ofInt IntKind.u32.bits (0 : Int) ||| BitVec.ofInt IntKind.u32.bits (2 ^ w)).toNat : Int) = ((2 ^ w : Nat) : Int) := by
   have := Ip (x := 0) (b := w) (by decide) (by omega)
   simpa using this
  repeat' first
    | refine EV.seq ?_
    | refine EV.skip ?_
    | (refine EV.reg ?_; (conv => (arg 2; whnf)); (repeat first | refine nx ?_ | simp only [hwn, Cv (show w < 32 by omega), h0]))
    | (refine Aq.call (Ve (evAt p w) (ho w hw)) ?_; (repeat first | refine nx ?_ | simp only [hwn, Cv (show w < 32 by omega), h0]))
    | (refine cX (fun h => ?_) (fun h => ?_) <;> try exact Ah h)
    | (refine And.intro (by omega) ?_)
    | (refine xm ?_; (repeat first | refine nx ?_ | simp only [hwn, Cv (show w < 32 by omega), h0]))
    | fail
  all_goals
   refine key _ _ _ ⟨rfl, ?_, rfl⟩
   simp only [*, Bool.false_eq_true, if_true, if_false]
   exact eE
 rintro ρ2 M2 G2 ⟨rfl, hq, rfl⟩
 refine EV.to (G' := []) ?_ hq (List.Sublist.refl _)
 clear hq
 generalize hs0 : (if (evAt p w).rel then 2 ^ w else 0) = s0
 have hs0l : s0 < 2 ^ p.length := by
  rw [← hs0]; split
  ·exact Nat.pow_lt_pow_right (by decide) hw
  ·exact Nat.two_pow_pos _
 have hww : IntKind.i64.wrap ((w : Int) - 1) = (w : Int) - 1 := w64 (by omega) (by omega)
 repeat' first
   | refine EV.seq ?_
   | refine EV.block ?_
   | (refine EV.reg ?_; (conv => (arg 2; whnf)); (repeat first | refine nx ?_ | simp only [hww]))
   | fail
 refine EV.loopTo (fun x : Nat × Nat => ([(0, .slice (some ⟨pb, po, none⟩) p.length c), (1, vi w), (5, vu x.2), (6, vi ((x.1 : Int) - 1))], M2, [])) (fun x => x.1 ≤ w ∧ x.2 < 2 ^ p.length ∧ Ep p w x.1 x.2 = E3 p w) (fun x => x.1) (w, s0) rfl ⟨Nat.le_refl _, hs0l, by rw [← hs0]; rfl⟩ ?env1 (List.Sublist.refl _) ?_
 case env1 =>
  exact eE
 rintro ⟨x, s⟩ ⟨hx, hsl, hst⟩ ih
 dsimp only at hx hsl hst ih ⊢
 cases x with
 | zero =>
  have e0 : decide (0 ≤ ((0 : Nat) : Int) - 1) = false := by decide
  repeat' first
    | refine EV.seq ?_
    | ((first | refine EV.reg ?_ | refine EV.any _ (List.Sublist.refl _) ?_ | fail); (conv => (arg 2; whnf)); (repeat first | refine nx ?_ | simp only [e0]))
    | (refine Px.mk ?_ (fun hc => ?_) ?_; rotate_left; (try simp only [decide_eq_true_eq, decide_eq_false_iff_not, Bool.not_eq_true', Bool.not_eq_false', Bool.and_eq_true, Bool.or_eq_true, Bool.and_eq_false_iff, Bool.or_eq_false_iff] at hc))
    | (refine cX (fun h => ?_) (fun h => ?_) <;> try exact Ah h)
    | (refine EV.exit rfl ?_)
    | (refine And.intro (by omega) ?_)
    | (exfalso; simp at hc; done)
    | exact false
    | fail
  (refine rt Q37_ok ?_; try with_reducible exact ⟨⟩)
  rw [← hst]; rfl
 | succ a =>
  have ea : ((a + 1 : Nat) : Int) - 1 = a := by omega
  have hge : decide ((a : Int) ≥ 0) = true := by simp
  have hge2 : decide (0 ≤ (a : Int)) = true := by simp
  have hpa := hat a (by omega)
  have hpa5 := hpa.pt 5 1 (by omega) rfl
  have hpa0 := hpa.pt 0 1 (by omega) rfl
  have ha1 : (a : Int) < p.length := by omega
  have han : ¬ ((a : Int) < 0) := by omega
  have ew : IntKind.i64.wrap ((a : Int) - 1) = (a : Int) - 1 := w64 (by omega) (by omega)
  have hor := Ip (x := s) (b := a) (Wq hsl hb) (by omega)
  rw [ea]
  simp only [Ep] at hst
  repeat' first
    | refine EV.seq ?_
    | refine EV.skip ?_
    | refine EV.block ?_
    | refine EV.inBlock ?_
    | ((first | refine EV.reg ?_ | refine EV.any _ (List.Sublist.refl _) ?_ | fail); (conv => (arg 2; whnf)); (repeat first | refine nx ?_ | simp only [hge, hge2, han, Cv (show a < 32 by omega), hor, ew]))
    | (refine Aq.call (Ve (evAt p a) (ho a (by omega))) ?_; (repeat first | refine nx ?_ | simp only [hge, hge2, han, Cv (show a < 32 by omega), hor, ew]))
    | with_reducible assumption
    | (refine Az.merge ?_ (fun hc K' hK => ?_) ?_; rotate_left)
    | (refine Px.mk ?_ (fun hc => ?_) ?_; rotate_left; (try simp only [decide_eq_true_eq, decide_eq_false_iff_not, Bool.not_eq_true', Bool.not_eq_false', Bool.and_eq_true, Bool.or_eq_true, Bool.and_eq_false_iff, Bool.or_eq_false_iff] at hc))
    | (with_reducible rfl)
    | (refine cX (fun h => ?_) (fun h => ?_) <;> try exact Ah h)
    | (refine EV.exit rfl ?_)
    | (refine And.intro (by omega) ?_)
    | (refine xm ?_; (repeat first | refine nx ?_ | simp only [hge, hge2, han, Cv (show a < 32 by omega), hor, ew]))
    | fail
  ·rw [if_pos (by simp_all), if_pos (by simp_all)] at hst
   refine EV.to (ih (a, s ||| 2 ^ a) ⟨by dsimp only; omega, Nat.or_lt_two_pow hsl (Nat.pow_lt_pow_right (by decide) (by omega)), hst⟩ (by dsimp only; omega)) ?_ (List.Sublist.refl _)
   exact eE
  ·rw [if_pos (by simp_all), if_neg (by grind)] at hst
   refine EV.to (ih (a, s) ⟨by dsimp only; omega, hsl, hst⟩ (by dsimp only; omega)) ?_ (List.Sublist.refl _)
   exact eE
  ·rw [if_neg (by simp_all)] at hst
   (refine rt Q37_ok ?_; try with_reducible exact ⟨⟩)
   rw [← hst]
theorem Yu (p : List Ev) (s : Value) (hs : Sl M 6 A2 s p) (hb : p.length ≤ 32) (ho : Wp p) (w : Nat) (hw : w < p.length) :
  Aq Tryz.prog 105 #[s, vi w] M (vu (Iq p w)) := by
 obtain ⟨a, c, rfl, hrd⟩ := hs
 obtain ⟨pb, po, rfl, hat⟩ := Sl.at (enc := A2) (fun _ => rfl) (by decide) hrd (by omega)
 have hat := Sl.evAt hat
 have hpw := hat w hw
 have hpw5 := hpw.pt 5 1 (by omega) rfl
 have hw1 : (w : Int) < p.length := by omega
 have hwn : ¬ ((w : Int) < 0) := by omega
 refine Con.enter Q15_ok (args := [.slice (some ⟨pb, po, none⟩) p.length c, vi w]) (by simp [Q15]) fun w0 => ?_
 simp only [Q15, A3]
 refine EV.seq (EV.reg ?_)
 (repeat first | refine nx ?_ | simp only [Bz4])
 refine EV.seq (EV.reg ?_)
 (repeat first | refine nx ?_ | simp only [Bz5])
 refine EV.seq (EV.thru (fun ρ' M' G' => M' = M ∧ (∀ q ∈ [(0, .slice (some ⟨pb, po, none⟩) p.length c), (1, vi w), (5, vu (if (evAt p w).acq then 2 ^ w else 0))], get ρ' q.1 = some q.2) ∧ G' = []) ?_ ?_)
 ·intro k' key
  have h0 : IntKind.u32.wrap ((BitVec.ofInt IntKind.u32.bits (0 : Int) ||| BitVec.ofInt IntKind.u32.bits (2 ^ w)).toNat : Int) = ((2 ^ w : Nat) : Int) := by
   have := Ip (x := 0) (b := w) (by decide) (by omega)
   simpa using this
  repeat' first
    | refine EV.seq ?_
    | refine EV.skip ?_
    | (refine EV.reg ?_; (conv => (arg 2; whnf)); (repeat first | refine nx ?_ | simp only [hwn, Cv (show w < 32 by omega), h0]))
    | (refine Aq.call (Vd (evAt p w) (ho w hw)) ?_; (repeat first | refine nx ?_ | simp only [hwn, Cv (show w < 32 by omega), h0]))
    | (refine cX (fun h => ?_) (fun h => ?_) <;> try exact Ah h)
    | (refine And.intro (by omega) ?_)
    | (refine xm ?_; (repeat first | refine nx ?_ | simp only [hwn, Cv (show w < 32 by omega), h0]))
    | fail
  all_goals
   refine key _ _ _ ⟨rfl, ?_, rfl⟩
   simp only [*, Bool.false_eq_true, if_true, if_false]
   exact eE
 rintro ρ2 M2 G2 ⟨rfl, hq, rfl⟩
 refine EV.to (G' := []) ?_ hq (List.Sublist.refl _)
 clear hq
 generalize hs0 : (if (evAt p w).acq then 2 ^ w else 0) = s0
 have hs0l : s0 < 2 ^ p.length := by
  rw [← hs0]; split
  ·exact Nat.pow_lt_pow_right (by decide) hw
  ·exact Nat.two_pow_pos _
 have hww : IntKind.i64.wrap ((w : Int) + 1) = ((w + 1 : Nat) : Int) := w64 (by omega) (by omega)
 repeat' first
   | refine EV.seq ?_
   | refine EV.block ?_
   | refine rg ?_
   | exact ⟨⟩
   | fail
 rw [hww]
 refine EV.loopTo (fun x : Nat × Nat => ([(0, .slice (some ⟨pb, po, none⟩) p.length c), (1, vi w), (5, vu x.2), (6, vi x.1)], M2, [])) (fun x => x.1 ≤ p.length ∧ x.2 < 2 ^ p.length ∧ Ji p w (p.length - x.1) x.1 x.2 = Iq p w) (fun x => p.length - x.1) (w + 1, s0) rfl ⟨hw, hs0l, by rw [← hs0]; rfl⟩ ?env1 (List.Sublist.refl _) ?_
 case env1 =>
  exact eE
 rintro ⟨a, s⟩ ⟨hx, hsl, hst⟩ ih
 dsimp only at hx hsl hst ih ⊢
 by_cases ha : a < p.length
 ·have hlt : decide ((a : Int) < p.length) = true := by simpa using ha
  have hpa := hat a (by omega)
  have hpa5 := hpa.pt 5 1 (by omega) rfl
  have hpa0 := hpa.pt 0 1 (by omega) rfl
  have ha1 : (a : Int) < p.length := by omega
  have han : ¬ ((a : Int) < 0) := by omega
  have hor := Ip (x := s) (b := a) (Wq hsl hb) (by omega)
  have ef : p.length - a = (p.length - (a + 1)) + 1 := by omega
  rw [ef] at hst
  simp only [Ji] at hst
  repeat' first
    | refine EV.seq ?_
    | refine EV.skip ?_
    | refine EV.block ?_
    | refine EV.inBlock ?_
    | ((first | refine EV.reg ?_ | refine EV.any _ (List.Sublist.refl _) ?_ | fail); (conv => (arg 2; whnf)); (repeat first | refine nx ?_ | simp only [hlt, han, Cv (show a < 32 by omega), hor]))
    | (refine Aq.call (Vd (evAt p a) (ho a (by omega))) ?_; (repeat first | refine nx ?_ | simp only [hlt, han, Cv (show a < 32 by omega), hor]))
    | with_reducible assumption
    | (refine Az.merge ?_ (fun hc K' hK => ?_) ?_; rotate_left)
    | (refine Px.mk ?_ (fun hc => ?_) ?_; rotate_left; (try simp only [decide_eq_true_eq, decide_eq_false_iff_not, Bool.not_eq_true', Bool.not_eq_false', Bool.and_eq_true, Bool.or_eq_true, Bool.and_eq_false_iff, Bool.or_eq_false_iff] at hc))
    | (with_reducible rfl)
    | (refine cX (fun h => ?_) (fun h => ?_) <;> try exact Ah h)
    | (refine EV.exit rfl ?_)
    | (refine And.intro (by omega) ?_)
    | (refine xm ?_; (repeat first | refine nx ?_ | simp only [hlt, han, Cv (show a < 32 by omega), hor]))
    | fail
  ·rw [if_pos (by simp_all), if_pos (by simp_all)] at hst
   refine EV.to (ih (a + 1, s ||| 2 ^ a) ⟨by dsimp only; omega, Nat.or_lt_two_pow hsl (Nat.pow_lt_pow_right (by decide) (by omega)), hst⟩ (by dsimp only; omega)) ?_ (List.Sublist.refl _)
   exact eE
  ·rw [if_pos (by simp_all), if_neg (by grind)] at hst
   refine EV.to (ih (a + 1, s) ⟨by dsimp only; omega, hsl, hst⟩ (by dsimp only; omega)) ?_ (List.Sublist.refl _)
   exact eE
  ·rw [if_neg (by simp_all)] at hst
   (refine rt Q15_ok ?_; try with_reducible exact ⟨⟩)
   rw [← hst]
 ·have e0 : decide ((a : Int) < p.length) = false := by simp; omega
  have ea : p.length - a = 0 := by omega
  rw [ea] at hst
  repeat' first
    | refine EV.seq ?_
    | ((first | refine EV.reg ?_ | refine EV.any _ (List.Sublist.refl _) ?_ | fail); (conv => (arg 2; whnf)); (repeat first | refine nx ?_ | simp only [e0]))
    | (refine Px.mk ?_ (fun hc => ?_) ?_; rotate_left; (try simp only [decide_eq_true_eq, decide_eq_false_iff_not, Bool.not_eq_true', Bool.not_eq_false', Bool.and_eq_true, Bool.or_eq_true, Bool.and_eq_false_iff, Bool.or_eq_false_iff] at hc))
    | (refine cX (fun h => ?_) (fun h => ?_) <;> try exact Ah h)
    | (refine EV.exit rfl ?_)
    | (refine And.intro (by omega) ?_)
    | (exfalso; simp at hc; done)
    | exact false
    | fail
  (refine rt Q15_ok ?_; try with_reducible exact ⟨⟩)
  rw [← hst]; rfl
theorem O2 (p : List Ev) (s : Value) (hs : Sl M 6 A2 s p) (hb : p.length ≤ 32) (f d o n : Value) (fen : List Int) (hn : Sl M 1 ei n fen) (hin : He p fen) (hfl : fen.length < 1000000) :
  Con Tryz.prog 102 #[s, .agg #[f, d, o, n]] M [] fun v _ G' => ∃ b, v = A8 b p.length p.length ∧ G' = [(b, Cl 144 ((Hd p fen).map vu))] := by
 have hs0 := hs
 obtain ⟨a, c, rfl, hrd⟩ := hs
 obtain ⟨na, nc, rfl, hrn⟩ := hn
 refine Con.enter Q38_ok (args := [.slice a p.length c, .agg #[f, d, o, .slice na fen.length nc]]) (by simp [Q38]) fun w0 => ?_
 simp only [Q38, A3]
 repeat' first
   | refine EV.seq ?_
   | refine rg ?_
   | (with_reducible intro b; try refine nx ?_)
   | exact ⟨⟩
   | fail
 rename Nat => xb
 refine Con.callB (G1 := []) (Jh _ p (hs0.mono (Aa.le_add _ _)) hb) (Aa.le_refl _) (List.Perm.refl _) ?_
 rintro v M' G' ⟨rb, rfl, rfl⟩
 (refine nx ?_; try with_reducible exact ⟨⟩)
 repeat' first
   | refine EV.seq ?_
   | refine EV.block ?_
   | refine rg ?_
   | exact ⟨⟩
   | fail
 refine EV.loopTo (fun x : Nat => ([(0, .slice a p.length c), (3, pv xb 0), (5, A8 rb p.length p.length), (6, vi ((x : Int) + 1))], M, [(xb, Cl 45 [f, d, o, .slice na fen.length nc]), (rb, Cl 144 ((C2 p x).map vu))]))
  (fun x => x ≤ p.length - 1) (fun x => p.length - x) 0 rfl (Nat.zero_le _) ?env1 (List.Sublist.refl _) ?_
 case env1 =>
  exact eE
 intro x hx ih
 dsimp only at hx ih ⊢
 have ht : ((x : Int) + 1).toNat = x + 1 := by omega
 have hw1 : IntKind.i64.wrap ((x : Int) + 1 - 1) = x := w64 (by omega) (by omega) |>.trans (by omega)
 repeat' first
   | refine EV.seq ?_
   | refine EV.skip ?_
   | refine EV.block ?_
   | ((first | refine EV.reg ?_ | refine EV.any _ (List.Sublist.refl _) ?_ | fail); (conv => (arg 2; whnf)); (repeat first | refine nx ?_ | simp only [ht, hw1]))
   | (refine cX (fun h => ?_) (fun h => ?_) <;> try exact Ah h)
   | (refine EV.exit rfl ?_)
   | fail
 ·have hx' : x + 1 < p.length := by omega
  obtain ⟨pb, po, rfl, hat⟩ := Sl.at (enc := A2) (fun _ => rfl) (by decide) hrd (by omega)
  have hat := Sl.evAt hat
  have hp1 := (hat (x + 1) (by omega)).pt 5 1 (by omega) rfl
  have hp0 := (hat x (by omega)).pt 5 1 (by omega) rfl
  have ih3 := ih (x + 1) (by omega) (by omega)
  rw [show C2 p (x + 1) = if (evAt p (x + 1)).th = (evAt p x).th then Li (C2 p x) x (x + 1) else C2 p x from rfl] at ih3
  have hok := stepsA_ok p x (by omega)
  clear ih
  repeat' first
    | refine EV.skip ?_
    | refine EV.inBlock ?_
    | (refine EV.reg ?_; (conv => (arg 2; whnf)); (repeat first | refine nx ?_ | simp only [ht, hw1]))
    | (refine cX (fun h => ?_) (fun h => ?_) <;> try exact Ah h)
    | (refine And.intro (by omega) ?_)
    | (refine xm ?_; (repeat first | refine nx ?_ | simp only [ht, hw1]))
    | fail
  ·refine Con.callK (Fs hok hb (by omega) (by omega) (by omega) (by omega)) (Aa.le_add _ _) ?_
   rintro v M' G' rfl
   rw [if_pos h] at ih3
   simp only [Int.toNat_natCast, ht]
   (refine nx ?_; try with_reducible exact ⟨⟩)
   repeat' first
     | refine EV.inBlock ?_
     | refine rg ?_
     | exact ⟨⟩
     | fail
   refine EV.toS ih3 ?_
   exact eE
  ·rw [if_neg (by simp_all)] at ih3
   refine EV.toS ih3 ?_
   exact eE
 ·have hxe : x = p.length - 1 := by omega
  subst hxe
  clear ih
  have hok := stepsA_ok p (p.length - 1) (Nat.le_refl _)
  repeat' first
    | fail
  refine EV.loopTo (fun x : Nat => ([(0, .slice a p.length c), (3, pv xb 0), (5, A8 rb p.length p.length), (7, vi ((x : Int) + 1))], M, [(xb, Cl 45 [f, d, o, .slice na fen.length nc]), (rb, Cl 144 ((Gt (C2 p (p.length - 1)) fen x).map vu))]))
   (fun x => x ≤ fen.length - 1) (fun x => fen.length - x) 0 rfl (Nat.zero_le _) ?env2 (List.Sublist.refl _) ?_
  case env2 =>
   exact eE
  intro x hx ih
  dsimp only at hx ih ⊢
  have ht : ((x : Int) + 1).toNat = x + 1 := by omega
  have hw1 : IntKind.i64.wrap ((x : Int) + 1 - 1) = x := w64 (by omega) (by omega) |>.trans (by omega)
  repeat' first
    | refine EV.seq ?_
    | refine EV.skip ?_
    | refine EV.block ?_
    | (refine EV.reg ?_; (conv => (arg 2; whnf)); (repeat first | refine nx ?_ | simp only [ht, hw1]))
    | (refine cX (fun h => ?_) (fun h => ?_) <;> try exact Ah h)
    | (refine EV.exit rfl ?_)
    | (refine xsA rfl ?_; (repeat first | refine nx ?_ | simp only [ht, hw1]))
    | fail
  ·have hx' : x + 1 < fen.length := by omega
   obtain ⟨pb, po, rfl, hat⟩ := Sl.at (sz := 1) (enc := ei) (fun _ => rfl) (by decide) hrn (by omega)
   have hp1 := hat (x + 1) (by omega)
   have hp0 := hat x (by omega)
   have q1 := hin.at (k := x + 1) hx'
   have q0 := hin.at (k := x) (by omega)
   rw [Nat.mul_one] at hp1 hp0
   rw [← show fen[x + 1]?.getD 0 = fen[x + 1] from by rw [List.getElem?_eq_getElem hx']; rfl] at hp1
   rw [← show fen[x]?.getD 0 = fen[x] from by rw [List.getElem?_eq_getElem]; rfl] at hp0
   have ih3 := ih (x + 1) (by omega) (by omega)
   rw [show Gt (C2 p (p.length - 1)) fen (x + 1) = Li (Gt (C2 p (p.length - 1)) fen x) (fen[x]?.getD 0).toNat (fen[x + 1]?.getD 0).toNat from rfl] at ih3
   have hokb := stepsB_ok hok hin x (by omega)
   generalize fen[x]?.getD 0 = ea at *
   generalize fen[x + 1]?.getD 0 = eb2 at *
   clear ih
   refine EV.any (t := Ao5) _ (List.Sublist.refl _) ?_
   (repeat first | refine nx ?_ | simp only [Ao5])
   repeat' first
     | (refine And.intro (by omega) ?_)
     | ((first | refine xm ?_ | refine xsA rfl ?_ | fail); (repeat first | refine nx ?_ | simp only [ht, hw1]))
     | fail
   refine Con.callK (Fs hokb hb (by omega) (by omega) (by omega) (by omega)) (Aa.le_add _ _) ?_
   rintro v M' G' rfl
   (refine nx ?_; try with_reducible exact ⟨⟩)
   repeat' first
     | refine EV.inBlock ?_
     | (refine EV.reg ?_; (conv => (arg 2; whnf)); (repeat first | refine nx ?_ | simp only [ht, hw1]))
     | fail
   refine EV.toS ih3 ?_
   exact eE
  ·have hxe : x = fen.length - 1 := by omega
   subst hxe
   refine EV.toS (ρ' := [(4, A8 rb p.length p.length)]) (G' := [(rb, Cl 144 ((Gt (C2 p (p.length - 1)) fen (fen.length - 1)).map vu))]) ?_ ?env3
   case env3 =>
    exact eE
   (refine rt Q38_ok ?_; try with_reducible exact ⟨⟩)
   exact ⟨rb, rfl, rfl⟩
end
end Go.EV

namespace Go.EV
open Go.Proofs
structure Exec where
 frm : List Int
 dn : List Bool
 ord : List (List Int)
 fen : List Int
structure POk (p : List Ev) : Prop where
 len : p.length ≤ 32
 ord : Wp p
 loc : ∀ i, i < p.length → 0 ≤ (evAt p i).op.loc ∧ (evAt p i).op.loc < 3
structure XOk (p : List Ev) (e : Exec) : Prop where
 fl : e.frm.length = p.length
 dl : e.dn.length = p.length
 ol : e.ord.length = 3
 fr : ∀ i : Nat, i < p.length → e.frm[i]?.getD 0 < p.length ∧ ((evAt p i).reads = true → -1 ≤ e.frm[i]?.getD 0)
 oin : ∀ l ∈ e.ord, He p l ∧ l.length ≤ p.length
 fin : He p e.fen ∧ e.fen.length ≤ p.length
theorem XOk.fromOk {p : List Ev} {e : Exec} (h : XOk p e) : Cs p e.frm := ⟨h.fl, fun i hi hr => by
 have := h.fr i hi
 have h2 := this.2 hr
 omega⟩
def IsX (M : Aa) (v : Value) (e : Exec) : Prop := ∃ f d o n, v = .agg #[f, d, o, n] ∧ Sl M 1 ei f e.frm ∧ Sl M 1 eb d e.dn ∧ Di M 1 ei o e.ord ∧ Sl M 1 ei n e.fen
theorem IsX.mono {M M' : Aa} (hM : M.le M') {v : Value} {e : Exec} (h : IsX M v e) : IsX M' v e := by
 obtain ⟨f, d, o, n, rfl, h1, h2, h3, h4⟩ := h
 exact ⟨f, d, o, n, rfl, h1.mono hM, h2.mono hM, h3.mono hM, h4.mono hM⟩
def Mb (p : List Ev) (e : Exec) (w : Nat) : Bool := (evAt p w).reads && (e.dn[w]?.getD false)
def Ae (e : Exec) (i : Nat) : Int := e.frm[i]?.getD 0
def Cw (p : List Ev) (e : Exec) : Nat → Nat → Nat → Nat
 | 0, _, s => s
 | k + 1, w, s => if Mb p e w = true ∧ 0 ≤ Ae e w then Cw p e k (Ae e w).toNat (s ||| E3 p w) else s ||| E3 p w
def Eb (p : List Ev) (e : Exec) (r : Nat) : Nat := Cw p e p.length (Ae e r).toNat 0
def H9 (q : Rel) (set to : Nat) : Nat → Rel
 | 0 => q
 | a + 1 => if set.testBit a then orR (H9 q set to a) a to else H9 q set to a
def Hf (p : List Ev) (e : Exec) : Nat → Rel
 | 0 => Hd p e.fen
 | r + 1 => if (evAt p r).reads = true ∧ 0 ≤ Ae e r then H9 (Hf p e r) (Eb p e r) (Iq p r) p.length else Hf p e r
def Fh (p : List Ev) (e : Exec) : Rel := Cc (Hf p e p.length)
theorem O3 {p : List Ev} {e : Exec} (hx : XOk p e) : ∀ (k w s : Nat), w < p.length → s < 2 ^ p.length → Cw p e k w s < 2 ^ p.length
 | 0, _, _, _, h => h
 | k + 1, w, s, hw, h => by
  have hs : s ||| E3 p w < 2 ^ p.length := Nat.or_lt_two_pow h (O1 hw)
  simp only [Cw]
  split
  ·rename_i hc
   have := (hx.fr w hw).1
   exact O3 hx k _ _ (by simp only [Ae] at hc ⊢; omega) hs
  ·exact hs
theorem orAll_ok {n : Nat} {q : Rel} (hq : RelOk n q) {set to : Nat} (ht : to < 2 ^ n) : ∀ a, RelOk n (H9 q set to a)
 | 0 => hq
 | a + 1 => by
  simp only [H9]
  split
  ·exact (orAll_ok hq ht a).or a ht
  ·exact orAll_ok hq ht a
theorem befGo_ok {p : List Ev} {e : Exec} (hx : XOk p e) : ∀ r, r ≤ p.length → RelOk p.length (Hf p e r)
 | 0, _ => stepsP_ok hx.fin.1
 | r + 1, h => by
  simp only [Hf]
  split
  ·exact orAll_ok (befGo_ok hx r (by omega)) (Vf (by omega)) _
  ·exact befGo_ok hx r (by omega)
section
variable {M : Aa}
set_option maxHeartbeats 4000000 in
theorem T2 (p : List Ev) (s : Value) (hs : Sl M 6 A2 s p) (hp : POk p) (e : Exec) (v : Value) (hv : IsX M v e) (hx : XOk p e) :
  Con Tryz.prog 67 #[s, v] M [] fun v _ G' => ∃ b, v = A8 b p.length p.length ∧ G' = [(b, Cl 144 ((Fh p e).map vu))] := by
 have hs0 := hs
 have hb := hp.len
 obtain ⟨a, c, rfl, hrd⟩ := hs
 obtain ⟨f, d, o, n, rfl, hf, hd, ho, hn⟩ := hv
 have hd0 := hd
 obtain ⟨fa, fc, rfl, hrf⟩ := hf
 obtain ⟨da, dc, rfl, hrdn⟩ := hd
 have hfl := hx.fl
 refine Con.enter Q9_ok (args := [.slice a p.length c, .agg #[.slice fa e.frm.length fc, .slice da e.dn.length dc, o, n]]) (by simp [Q9]) fun w0 => ?_
 simp only [Q9, A3]
 repeat' first
   | refine EV.seq ?_
   | refine rg ?_
   | ((first | with_reducible intro b | refine xrA rfl ?_ | fail); try refine nx ?_)
   | exact ⟨⟩
   | fail
 rename Nat => xb
 have hxf := hx.fin.2
 refine Con.callB (G1 := []) (O2 p _ (hs0.mono (Aa.le_add _ _)) hb _ _ _ _ e.fen (hn.mono (Aa.le_add _ _)) hx.fin.1 (by omega)) (Aa.le_refl _) (List.Perm.refl _) ?_
 rintro v M' G' ⟨rb, rfl, rfl⟩
 (refine nx ?_; try with_reducible exact ⟨⟩)
 repeat' first
   | refine EV.seq ?_
   | refine EV.block ?_
   | refine rg ?_
   | exact ⟨⟩
   | fail
 refine EV.loopTo (fun r : Nat => ([(0, .slice a p.length c), (3, pv xb 0), (5, A8 rb p.length p.length), (15, vi p.length), (16, vi r)], M, [(xb, Cl 45 [.slice fa e.frm.length fc, .slice da e.dn.length dc, o, n]), (rb, Cl 144 ((Hf p e r).map vu))]))
  (fun r => r ≤ p.length) (fun r => p.length - r) 0 rfl (Nat.zero_le _) ?env1 (List.Sublist.refl _) ?_
 case env1 =>
  exact eE
 intro r hr ih
 dsimp only at hr ih ⊢
 repeat' first
   | refine EV.seq ?_
   | refine EV.skip ?_
   | refine EV.block ?_
   | refine rg ?_
   | (refine cX (fun h => ?_) (fun h => ?_) <;> try exact Ah h)
   | (refine EV.exit rfl ?_)
   | exact ⟨⟩
   | fail
 ·have hr' : r < p.length := by omega
  obtain ⟨pb, po, rfl, hat⟩ := Sl.at (enc := A2) (fun _ => rfl) (by decide) hrd (by omega)
  obtain ⟨fb, fo, rfl, hat2⟩ := Sl.at (sz := 1) (enc := ei) (fun _ => rfl) (by decide) hrf (by omega)
  have hat := Sl.evAt hat
  have hatf : ∀ i, i < p.length → rd M fb (fo + i) 1 [vi (Ae e i)] := by
   intro i hi
   have := hat2 i (by omega)
   rw [Nat.mul_one] at this
   simp only [Ae]
   rwa [List.getElem?_eq_getElem (by omega : i < e.frm.length)]
  have hpr := hat r hr'
  have hfr := hatf r hr'
  have hlt : ∀ i, i < p.length → Ae e i < p.length := fun i hi => (hx.fr i hi).1
  have hltr := hlt r hr'
  have hfI : (r : Int) < e.frm.length := by omega
  have ih3 := ih (r + 1) (by omega) (by omega)
  rw [show Hf p e (r + 1) = if (evAt p r).reads = true ∧ 0 ≤ Ae e r then H9 (Hf p e r) (Eb p e r) (Iq p r) p.length else Hf p e r from rfl] at ih3
  have hok := befGo_ok hx r (by omega)
  generalize Hf p e r = q at *
  clear ih hat2
  repeat' first
    | refine EV.skip ?_
    | refine rg ?_
    | with_reducible assumption
    | (refine Aq.call (Bv (evAt p r)) ?_; try refine nx ?_)
    | (refine Az.merge ?_ (fun hc K' hK => ?_) ?_; rotate_left)
    | (refine cX (fun h => ?_) (fun h => ?_) <;> try exact Ah h)
    | (refine EV.exit rfl ?_)
    | (refine And.intro (by omega) ?_)
    | ((first | refine xm ?_ | refine xsA rfl ?_ | fail); try refine nx ?_)
    | exact ⟨⟩
    | fail
  ·rw [if_neg (by grind)] at ih3
   refine EV.toS ih3 ?_
   exact eE
  ·obtain ⟨hre, hge⟩ := h
   have hge : 0 ≤ Ae e r := by omega
   rw [if_pos ⟨hre, hge⟩] at ih3
   obtain ⟨w0', hw0⟩ := Int.eq_ofNat_of_zero_le hge
   refine EV.seq ?_
   repeat' first
     | refine rg ?_
     | exact ⟨⟩
     | fail
   refine EV.seq ?_
   repeat' first
     | refine rg ?_
     | (refine And.intro (by omega) ?_)
     | ((first | refine xm ?_ | refine xsA rfl ?_ | fail); try refine nx ?_)
     | exact ⟨⟩
     | fail
   refine EV.seq (EV.thru (fun ρ' M' G' => M' = M ∧ (∀ q ∈ [(0, .slice (some ⟨pb, po, none⟩) p.length c), (3, pv xb 0), (5, A8 rb p.length p.length), (6, vi r), (7, vu (Eb p e r)), (15, vi p.length), (16, vi r)], get ρ' q.1 = some q.2) ∧
    G' = [(xb, Cl 45 [.slice (some ⟨fb, fo, none⟩) e.frm.length fc, .slice da e.dn.length dc, o, n]), (rb, Cl 144 (q.map vu))]) ?_ ?_)
   ·intro k' key
    clear ih3
    repeat' first
      | refine EV.seq ?_
      | refine EV.block ?_
      | refine rg ?_
      | exact ⟨⟩
      | fail
    refine EV.loopTo (fun x : Nat × Nat × Nat => ([(0, .slice (some ⟨pb, po, none⟩) p.length c), (3, pv xb 0), (5, A8 rb p.length p.length), (6, vi r), (7, vu x.2.2), (8, vi x.2.1), (15, vi p.length), (16, vi r), (39, vi p.length), (40, vi x.1)], M, [(xb, Cl 45 [.slice (some ⟨fb, fo, none⟩) e.frm.length fc, .slice da e.dn.length dc, o, n]), (rb, Cl 144 (q.map vu))]))
     (fun x => x.1 ≤ p.length ∧ x.2.1 < p.length ∧ x.2.2 < 2 ^ p.length ∧ Cw p e (p.length - x.1) x.2.1 x.2.2 = Eb p e r) (fun x => p.length - x.1) (0, w0', 0) rfl ⟨Nat.zero_le _, by dsimp only; omega, Nat.two_pow_pos _, by simp only [Eb, hw0, Nat.sub_zero, Int.toNat_natCast]⟩ ?env2 (List.Sublist.refl _) ?_
    case env2 =>
     repeat' first
      | (refine List.forall_mem_cons.2 (And.intro ?_ ?_))
      | (intro _ hnil; cases hnil; done)
      | rfl
      | (simp (disch := omega) only [Al, As, reduceIte, Nat.reduceEqDiff, Option.some.injEq, Value.int.injEq, w64, Int.natCast_add, Int.natCast_one, Int.cast_ofNat_Int, Int.natCast_zero, hw0]; done)
      | fail
    rintro ⟨j, w, s⟩ ⟨hj, hw, hs, hst⟩ ih
    dsimp only at hj hw hs hst ih ⊢
    repeat' first
      | refine EV.seq ?_
      | refine EV.skip ?_
      | refine EV.block ?_
      | refine rg ?_
      | (refine cX (fun h => ?_) (fun h => ?_) <;> try exact Ah h)
      | (refine EV.exit rfl ?_)
      | exact ⟨⟩
      | fail
    ·have hsl := O1 hw
     have hor := O0 (Wq hs hb) (Wq hsl hb)
     have hfw := hatf w hw
     have hltw := hlt w hw
     have hwI : (w : Int) < e.frm.length := by omega
     have ef : p.length - j = (p.length - (j + 1)) + 1 := by omega
     rw [ef] at hst
     simp only [Cw] at hst
     repeat' first
       | refine EV.seq ?_
       | refine EV.skip ?_
       | refine EV.inBlock ?_
       | (refine EV.reg ?_; (conv => (arg 2; whnf)); (repeat first | refine nx ?_ | simp only [hor]))
       | ((first | refine Aq.call (N9 p _ (hs0.mono (Aa.le_add _ _)) (by omega) _ _ _ _ e.dn (hd0.mono (Aa.le_add _ _)) w hw hx.dl) ?_ | refine Aq.call (T1 p _ (hs0.mono (Aa.le_add _ _)) hb hp.ord w hw) ?_ | fail); (repeat first | refine nx ?_ | simp only [hor]))
       | with_reducible assumption
       | (refine Az.merge ?_ (fun hc K' hK => ?_) ?_; rotate_left)
       | (refine cX (fun h => ?_) (fun h => ?_) <;> try exact Ah h)
       | (refine EV.exit rfl ?_)
       | (refine And.intro (by omega) ?_)
       | ((first | refine xm ?_ | refine xrA rfl ?_ | refine xsA rfl ?_ | fail); (repeat first | refine nx ?_ | simp only [hor]))
       | fail
     ·rw [if_neg (show ¬ (Mb p e w = true ∧ 0 ≤ Ae e w) by simp only [Mb]; grind)] at hst
      refine key _ _ _ ⟨rfl, ?_, rfl⟩
      simp only [hst]
      exact eE
     ·rw [if_pos (show Mb p e w = true ∧ 0 ≤ Ae e w by simp only [Mb]; grind)] at hst
      obtain ⟨w1, hw1⟩ := Int.eq_ofNat_of_zero_le (show 0 ≤ Ae e w by omega)
      rw [hw1, Int.toNat_natCast] at hst
      refine EV.toS (ih (j + 1, w1, s ||| E3 p w) ⟨by dsimp only; omega, by dsimp only; omega, Nat.or_lt_two_pow hs hsl, hst⟩ (by dsimp only; omega)) ?_
      simp only [hw1]
      exact eE
    ·have : p.length - j = 0 := by omega
     rw [this] at hst
     simp only [Cw] at hst
     refine key _ _ _ ⟨rfl, ?_, rfl⟩
     repeat' first
      | (refine List.forall_mem_cons.2 (And.intro ?_ ?_))
      | (intro _ hnil; cases hnil; done)
      | rfl
      | (simp (disch := omega) only [Al, As, reduceIte, Nat.reduceEqDiff, Option.some.injEq, Value.int.injEq, w64, Int.natCast_add, Int.natCast_one, Int.cast_ofNat_Int, Int.natCast_zero, hst]; done)
      | fail
   rintro ρ2 M2 G2 ⟨rfl, hq, rfl⟩
   refine EV.to ?_ hq (List.Sublist.refl _)
   clear hq
   have hh : Eb p e r < 2 ^ p.length := O3 hx _ _ _ (by omega) (Nat.two_pow_pos _)
   have he := Vf hr'
   repeat' first
     | refine EV.seq ?_
     | refine EV.block ?_
     | refine rg ?_
     | (refine Aq.call (Yu p _ (hs0.mono (Aa.le_add _ _)) hb hp.ord r hr') ?_; try refine nx ?_)
     | exact ⟨⟩
     | fail
   refine EV.loopTo (fun x : Nat => ([(0, .slice (some ⟨pb, po, none⟩) p.length c), (3, pv xb 0), (5, A8 rb p.length p.length), (6, vi r), (7, vu (Eb p e r)), (9, vu (Iq p r)), (15, vi p.length), (16, vi r), (70, vi p.length), (71, vi x)], M2, [(xb, Cl 45 [.slice (some ⟨fb, fo, none⟩) e.frm.length fc, .slice da e.dn.length dc, o, n]), (rb, Cl 144 ((H9 q (Eb p e r) (Iq p r) x).map vu))]))
    (fun x => x ≤ p.length) (fun x => p.length - x) 0 rfl (Nat.zero_le _) ?env3 (List.Sublist.refl _) ?_
   case env3 =>
    exact eE
   intro x hxl ih
   dsimp only at hxl ih ⊢
   have hok2 := orAll_ok (set := Eb p e r) hok he x
   by_cases hx' : x < p.length
   ·have hxI : (x : Int) < p.length := by omega
    have ih4 := ih (x + 1) (by omega) (by omega)
    rw [show H9 q (Eb p e r) (Iq p r) (x + 1) = if (Eb p e r).testBit x then orR (H9 q (Eb p e r) (Iq p r) x) x (Iq p r) else H9 q (Eb p e r) (Iq p r) x from rfl] at ih4
    generalize H9 q (Eb p e r) (Iq p r) x = q2 at *
    generalize Eb p e r = hh2 at *
    generalize Iq p r = ee2 at *
    obtain ⟨hal, ea⟩ := hok2.get hx'
    have hxa := hok2.at hb x
    simp only [orR, ea] at ih4 hxa
    have hqn := hok2.len
    have hbit := Yt (b := x) (Wq hh hb) (by omega)
    have hor := O0 hxa (Wq he hb)
    have hxn : ¬ ((x : Int) < 0) := by omega
    clear ih ih3
    repeat' first
      | refine EV.seq ?_
      | refine EV.skip ?_
      | refine EV.block ?_
      | refine EV.inBlock ?_
      | (refine EV.reg ?_; (conv => (arg 2; whnf)); (repeat first | refine nx ?_ | simp only [hbit, hor, hxn, Ao, hx', List.length_map, hqn]))
      | (refine Exists.intro _ (And.intro (B4 (f := vu) hal) ?_); (repeat first | refine nx ?_ | simp only [hbit, hor, hxn, Ao, hx', List.length_map, hqn]))
      | (refine cX (fun h => ?_) (fun h => ?_) <;> try exact Ah h)
      | (refine And.intro (by omega) ?_)
      | (refine xw ?_; (repeat first | refine nx ?_ | simp only [hbit, hor, hxn, Ao, hx', List.length_map, hqn]))
      | fail
    ·rw [if_pos (by assumption)] at ih4
     refine EV.toS ih4 ?_
     exact eE
    ·rw [if_neg (by simp_all)] at ih4
     refine EV.toS ih4 ?_
     exact eE
   ·have hxe : x = p.length := by omega
    subst hxe
    repeat' first
      | refine EV.seq ?_
      | refine EV.inBlock ?_
      | refine rg ?_
      | (refine cX (fun h => ?_) (fun h => ?_) <;> try exact Ah h)
      | (refine EV.exit rfl ?_)
      | exact ⟨⟩
      | fail
    refine EV.toS ih3 ?_
    exact eE
 ·have hxe : r = p.length := by omega
  subst hxe
  have hok := befGo_ok hx p.length (Nat.le_refl _)
  refine Con.callK (J4 hok hb) (Aa.le_add _ _) ?_
  rintro v M' G' ⟨rfl, rfl⟩
  (refine nx ?_; try with_reducible exact ⟨⟩)
  repeat' first
    | fail
  refine EV.toS (ρ' := [(4, A8 rb p.length p.length)]) (G' := [(rb, Cl 144 ((Cc (Hf p e p.length)).map vu))]) ?_ ?env4
  case env4 =>
   exact eE
  (refine rt Q9_ok ?_; try with_reducible exact ⟨⟩)
  exact ⟨rb, rfl, rfl⟩
end
end Go.EV

namespace Go.EV
open Go.Proofs
def Ad (l : List Int) (i : Nat) : Int := l[i]?.getD 0
def Z7 (q : Rel) (l : List Int) (i : Nat) : Nat → Rel
 | 0 => q
 | j + 1 => Li (Z7 q l i j) (Ad l i).toNat (Ad l (i + 1 + j)).toNat
def Yv (q : Rel) (l : List Int) : Nat → Rel
 | 0 => q
 | i + 1 => Z7 (Yv q l i) l i (l.length - (i + 1))
def Xn (q : Rel) (ord : List (List Int)) : Nat → Rel
 | 0 => q
 | k + 1 => Yv (Xn q ord k) (ord[k]?.getD []) (ord[k]?.getD []).length
def P6 (q : Rel) (r : Nat) (fr : Int) (l : List Int) : Nat → Rel × Bool
 | 0 => (q, decide (fr = -1))
 | i + 1 => (if (P6 q r fr l i).2 = true ∧ Ad l i ≠ r then Li (P6 q r fr l i).1 r (Ad l i).toNat else (P6 q r fr l i).1, (P6 q r fr l i).2 || decide (Ad l i = fr))
def J5 (p : List Ev) (e : Exec) (r : Nat) : List Int := e.ord[(evAt p r).op.loc.toNat]?.getD []
def Mc (q : Rel) (e : Exec) (r : Nat) : Rel := if 0 ≤ Ae e r then Li q (Ae e r).toNat r else q
def Oa (p : List Ev) (e : Exec) : Nat → Rel
 | 0 => Xn (List.replicate p.length 0) e.ord e.ord.length
 | r + 1 => if (evAt p r).reads = true then (P6 (Mc (Oa p e r) e r) r (Ae e r) (J5 p e r) (J5 p e r).length).1 else Oa p e r
def Ar8 (p : List Ev) (e : Exec) : Rel := Cc (Oa p e p.length)
theorem Er {p : List Ev} {l : List Int} (h : He p l) {k : Nat} (hk : k < l.length) : 0 ≤ Ad l k ∧ Ad l k < p.length := h.at hk
theorem comC_ok {p : List Ev} {q : Rel} (hq : RelOk p.length q) {l : List Int} (hl : He p l) (i : Nat) : ∀ j, i + 1 + j ≤ l.length → RelOk p.length (Z7 q l i j)
 | 0, _ => hq
 | j + 1, h => by
  have := Er hl (k := i + 1 + j) (by omega)
  exact (comC_ok hq hl i j (by omega)).put _ (by omega)
theorem comB_ok {p : List Ev} {q : Rel} (hq : RelOk p.length q) {l : List Int} (hl : He p l) : ∀ i, i ≤ l.length → RelOk p.length (Yv q l i)
 | 0, _ => hq
 | i + 1, h => comC_ok (comB_ok hq hl i (by omega)) hl i _ (by omega)
theorem comA_ok {p : List Ev} {q : Rel} (hq : RelOk p.length q) {ord : List (List Int)} (ho : ∀ l ∈ ord, He p l ∧ l.length ≤ p.length) : ∀ k, k ≤ ord.length → RelOk p.length (Xn q ord k)
 | 0, _ => hq
 | k + 1, h => by
  have hk : k < ord.length := by omega
  have e : ord[k]?.getD [] = ord[k] := by rw [List.getElem?_eq_getElem hk]; rfl
  simp only [Xn, e]
  exact comB_ok (comA_ok hq ho k (by omega)) (ho _ (List.getElem_mem hk)).1 _ (Nat.le_refl _)
theorem comE_ok {p : List Ev} {q : Rel} (hq : RelOk p.length q) {r : Nat} {fr : Int} {l : List Int} (hl : He p l) : ∀ i, i ≤ l.length → RelOk p.length (P6 q r fr l i).1
 | 0, _ => hq
 | i + 1, h => by
  have := Er hl (k := i) (by omega)
  simp only [P6]
  split
  ·exact (comE_ok hq hl i (by omega)).put _ (by omega)
  ·exact comE_ok hq hl i (by omega)
theorem comD1_ok {p : List Ev} {q : Rel} (hq : RelOk p.length q) {e : Exec} {r : Nat} (hr : r < p.length) : RelOk p.length (Mc q e r) := by
 simp only [Mc]; split
 ·exact hq.put _ hr
 ·exact hq
theorem P7 {p : List Ev} (hp : POk p) {e : Exec} (hx : XOk p e) {r : Nat} (hr : r < p.length) : ∃ h : (evAt p r).op.loc.toNat < e.ord.length, J5 p e r = e.ord[(evAt p r).op.loc.toNat] ∧ He p (J5 p e r) ∧ (J5 p e r).length ≤ p.length := by
 have := hp.loc r hr
 have hl : (evAt p r).op.loc.toNat < e.ord.length := by rw [hx.ol]; omega
 have e1 : J5 p e r = e.ord[(evAt p r).op.loc.toNat] := by simp only [J5]; rw [List.getElem?_eq_getElem hl]; rfl
 have := hx.oin _ (List.getElem_mem hl)
 exact ⟨hl, e1, by rw [e1]; exact this.1, by rw [e1]; exact this.2⟩
theorem comD_ok {p : List Ev} (hp : POk p) {e : Exec} (hx : XOk p e) : ∀ r, r ≤ p.length → RelOk p.length (Oa p e r)
 | 0, _ => comA_ok (RelOk.zero _) hx.oin _ (Nat.le_refl _)
 | r + 1, h => by
  simp only [Oa]
  split
  ·exact comE_ok (comD1_ok (comD_ok hp hx r (by omega)) (by omega)) (P7 hp hx (by omega)).choose_spec.2.1 _ (Nat.le_refl _)
  ·exact comD_ok hp hx r (by omega)
theorem Cd {M : Aa} {wb wo : Nat} {l : List Int} (hat : ∀ i (hi : i < l.length), rd M wb (wo + i * 1) 1 (ei l[i])) (i : Nat) (hi : i < l.length) : rd M wb (wo + i) 1 [vi (Ad l i)] := by
 have := hat i hi
 rw [Nat.mul_one] at this
 simp only [Ad]
 rwa [List.getElem?_eq_getElem hi]
section
variable {M : Aa}
set_option maxHeartbeats 4000000 in
theorem Ab9 (p : List Ev) (s : Value) (hs : Sl M 6 A2 s p) (hp : POk p) (e : Exec) (v : Value) (hv : IsX M v e) (hx : XOk p e) :
  Con Tryz.prog 123 #[s, v] M [] fun v _ G' => ∃ b, v = A8 b p.length p.length ∧ G' = [(b, Cl 144 ((Ar8 p e).map vu))] := by
 have hs0 := hs
 have hb := hp.len
 obtain ⟨a, c, rfl, hrd⟩ := hs
 obtain ⟨f, d, o, n, rfl, hf, hd, ho, hn⟩ := hv
 obtain ⟨fa, fc, rfl, hrf⟩ := hf
 obtain ⟨oa, oc, ovs, rfl, hol, hro, hko⟩ := ho
 have hfl := hx.fl
 have hol3 := hx.ol
 obtain ⟨ob, oo, rfl, hato⟩ := Di.at hro hol hko (by omega)
 refine Con.enter Q11_ok (args := [.slice a p.length c, .agg #[.slice fa e.frm.length fc, d, .slice (some ⟨ob, oo, none⟩) e.ord.length oc, n]]) (by simp [Q11]) fun w0 => ?_
 simp only [Q11, A3]
 repeat' first
   | refine EV.seq ?_
   | refine rg ?_
   | (with_reducible intro b; try refine nx ?_)
   | exact ⟨⟩
   | fail
 rename Nat => xb
 refine Con.callB (G1 := []) (Jh _ p (hs0.mono (Aa.le_add _ _)) hb) (Aa.le_refl _) (List.Perm.refl _) ?_
 rintro v M' G' ⟨rb, rfl, rfl⟩
 (refine nx ?_; try with_reducible exact ⟨⟩)
 repeat' first
   | refine EV.seq ?_
   | refine EV.block ?_
   | refine rg ?_
   | (refine xsA rfl ?_; try refine nx ?_)
   | exact ⟨⟩
   | fail
 refine EV.loopTo (fun k : Nat => ([(0, .slice a p.length c), (3, pv xb 0), (5, A8 rb p.length p.length), (20, .slice (some ⟨ob, oo, none⟩) e.ord.length oc), (21, vi e.ord.length), (22, vi k)], M,
   [(xb, Cl 45 [.slice fa e.frm.length fc, d, .slice (some ⟨ob, oo, none⟩) e.ord.length oc, n]), (rb, Cl 144 ((Xn (List.replicate p.length 0) e.ord k).map vu))]))
  (fun k => k ≤ e.ord.length) (fun k => e.ord.length - k) 0 rfl (Nat.zero_le _) ?env1 (List.Sublist.refl _) ?_
 case env1 =>
  exact eE
 intro k hk ih
 dsimp only at hk ih ⊢
 repeat' first
   | refine EV.seq ?_
   | refine EV.skip ?_
   | refine EV.block ?_
   | refine rg ?_
   | (refine cX (fun h => ?_) (fun h => ?_) <;> try exact Ah h)
   | (refine EV.exit rfl ?_)
   | (refine And.intro (by omega) ?_)
   | (refine xsA rfl ?_; try refine nx ?_)
   | exact ⟨⟩
   | fail
 ·have hk' : k < e.ord.length := by omega
  obtain ⟨la, lc, hr1, hlc, hr2⟩ := hato k hk'
  rw [Nat.mul_one] at hr1
  obtain ⟨hin, hln⟩ := hx.oin _ (List.getElem_mem hk')
  have hokA := comA_ok (RelOk.zero p.length) hx.oin k (by omega)
  have ih1 := ih (k + 1) (by omega) (by omega)
  have eo : e.ord[k]?.getD [] = e.ord[k] := by rw [List.getElem?_eq_getElem hk']; rfl
  simp only [Xn, eo] at ih1
  generalize e.ord[k] = l at *
  generalize Xn (List.replicate p.length 0) e.ord k = q at *
  clear ih
  repeat' first
    | refine EV.seq ?_
    | refine EV.block ?_
    | refine rg ?_
    | (refine xn ?_; try refine nx ?_)
    | exact ⟨⟩
    | fail
  refine EV.loopTo (fun i : Nat => ([(0, .slice a p.length c), (3, pv xb 0), (5, A8 rb p.length p.length), (7, .slice la l.length lc), (20, .slice (some ⟨ob, oo, none⟩) e.ord.length oc), (21, vi e.ord.length), (22, vi k), (26, .slice la l.length lc), (27, vi l.length), (28, vi i)], M,
    [(xb, Cl 45 [.slice fa e.frm.length fc, d, .slice (some ⟨ob, oo, none⟩) e.ord.length oc, n]), (rb, Cl 144 ((Yv q l i).map vu))]))
   (fun i => i ≤ l.length) (fun i => l.length - i) 0 rfl (Nat.zero_le _) ?env2 (List.Sublist.refl _) ?_
  case env2 =>
   exact eE
  intro i hi ih
  dsimp only at hi ih ⊢
  repeat' first
    | refine EV.seq ?_
    | refine EV.skip ?_
    | refine EV.block ?_
    | refine EV.inBlock ?_
    | refine rg ?_
    | (refine cX (fun h => ?_) (fun h => ?_) <;> try exact Ah h)
    | (refine EV.exit rfl ?_)
    | exact ⟨⟩
    | fail
  ·have hi' : i < l.length := by omega
   obtain ⟨wb, wo, rfl, hatl⟩ := Sl.at (sz := 1) (enc := ei) (fun _ => rfl) (by decide) hr2 (by omega)
   have hatl := Cd hatl
   have hli := hatl i hi'
   have hiin := Er hin hi'
   have hokB := comB_ok hokA hin i hi
   have ih2 := ih (i + 1) (by omega) (by omega)
   simp only [Yv] at ih2
   generalize Yv q l i = q2 at *
   clear ih
   have hw1 : IntKind.i64.wrap ((i : Int) + 1) = ((i + 1 : Nat) : Int) := w64 (by omega) (by omega)
   repeat' first
     | refine EV.seq ?_
     | (refine EV.reg ?_; (conv => (arg 2; whnf)); (repeat first | refine nx ?_ | simp only [hw1]))
     | (refine And.intro (by omega) ?_)
     | (refine xm ?_; (repeat first | refine nx ?_ | simp only [hw1]))
     | fail
   simp only [Option.map_some, Ch]
   refine ⟨i + 1, by simp, by omega, hlc, Or.inr rfl, ?_⟩
   obtain ⟨ro, hro', ero⟩ := P4 (wb := wb) (wo := wo) (n := l.length) (c := lc) (i := i + 1) hlc
   rw [ero]
   have hIn : (((l.length - (i + 1) : Nat)) : Int) = ((l.length - (i + 1) : Nat) : Int) := rfl
   generalize hm : l.length - (i + 1) = m at *
   refine EV.block ?_
   refine EV.loopTo (fun j : Nat => ([(0, .slice a p.length c), (3, pv xb 0), (5, A8 rb p.length p.length), (7, .slice (some ⟨wb, wo, none⟩) l.length lc), (8, vi i), (9, vi (Ad l i)), (20, .slice (some ⟨ob, oo, none⟩) e.ord.length oc), (21, vi e.ord.length), (22, vi k), (26, .slice (some ⟨wb, wo, none⟩) l.length lc), (27, vi l.length), (28, vi i),
     (36, .slice (some ⟨wb, ro, none⟩) m (lc - (i + 1))), (37, vi m), (38, vi j)], M,
     [(xb, Cl 45 [.slice fa e.frm.length fc, d, .slice (some ⟨ob, oo, none⟩) e.ord.length oc, n]), (rb, Cl 144 ((Z7 q2 l i j).map vu))]))
    (fun j => j ≤ m) (fun j => m - j) 0 rfl (Nat.zero_le _) ?env3 (List.Sublist.refl _) ?_
   case env3 =>
    exact eE
   intro j hj ih
   dsimp only at hj ih ⊢
   repeat' first
     | refine EV.seq ?_
     | refine EV.skip ?_
     | refine EV.block ?_
     | refine EV.inBlock ?_
     | refine rg ?_
     | (refine cX (fun h => ?_) (fun h => ?_) <;> try exact Ah h)
     | (refine EV.exit rfl ?_)
     | (refine And.intro (by omega) ?_)
     | exact ⟨⟩
     | fail
   ·have hj' : j < m := by omega
    have hro2 := hro' (by omega)
    subst hro2
    have hlj := hatl (i + 1 + j) (by omega)
    rw [← Nat.add_assoc] at hlj
    have hjin := Er hin (k := i + 1 + j) (by omega)
    have hokC := comC_ok hokB hin i j (by omega)
    have ih3 := ih (j + 1) (by omega) (by omega)
    simp only [Z7] at ih3
    clear ih
    repeat' first
      | refine rg ?_
      | (refine xm ?_; try refine nx ?_)
      | exact ⟨⟩
      | fail
    refine Con.callK (Fs hokC hb hiin.1 hiin.2 hjin.1 hjin.2) (Aa.le_add _ _) ?_
    rintro v M'' G' rfl
    (refine nx ?_; try with_reducible exact ⟨⟩)
    repeat' first
      | refine EV.inBlock ?_
      | refine rg ?_
      | exact ⟨⟩
      | fail
    refine EV.toS ih3 ?_
    exact eE
   ·have hje : j = m := by omega
    subst hje
    refine EV.toS ih2 ?_
    exact eE
  ·have hie : i = l.length := by omega
   subst hie
   refine EV.toS ih1 ?_
   exact eE
 ·have hke : k = e.ord.length := by omega
  subst hke
  clear ih
  repeat' first
    | fail
  refine EV.loopTo (fun r : Nat => ([(0, .slice a p.length c), (3, pv xb 0), (5, A8 rb p.length p.length), (50, .slice fa e.frm.length fc), (51, vi e.frm.length), (52, vi r)], M,
    [(xb, Cl 45 [.slice fa e.frm.length fc, d, .slice (some ⟨ob, oo, none⟩) e.ord.length oc, n]), (rb, Cl 144 ((Oa p e r).map vu))]))
   (fun r => r ≤ e.frm.length) (fun r => e.frm.length - r) 0 rfl (Nat.zero_le _) ?env4 (List.Sublist.refl _) ?_
  case env4 =>
   exact eE
  intro r hr ih
  dsimp only at hr ih ⊢
  repeat' first
    | refine EV.seq ?_
    | refine EV.skip ?_
    | refine EV.block ?_
    | refine rg ?_
    | (refine cX (fun h => ?_) (fun h => ?_) <;> try exact Ah h)
    | (refine EV.exit rfl ?_)
    | exact ⟨⟩
    | fail
  ·have hr' : r < p.length := by omega
   obtain ⟨pb, po, rfl, hat⟩ := Sl.at (enc := A2) (fun _ => rfl) (by decide) hrd (by omega)
   obtain ⟨fb, fo, rfl, hat2⟩ := Sl.at (sz := 1) (enc := ei) (fun _ => rfl) (by decide) hrf (by omega)
   have hpr := Sl.evAt hat r hr'
   have hpr1 := hpr.pt 1 1 (by omega) rfl
   have hfr : rd M fb (fo + r) 1 [vi (Ae e r)] := Cd hat2 r (by omega)
   obtain ⟨hltr, hlo⟩ := hx.fr r hr'
   obtain ⟨hlc, eo, hin, hln⟩ := P7 hp hx hr'
   have hloc := hp.loc r hr'
   obtain ⟨la, lc, hr1, _, hr2⟩ := hato _ hlc
   rw [← eo] at hr1 hr2
   rw [Nat.mul_one] at hr1
   have hlocI : (evAt p r).op.loc < (e.ord.length : Int) := by omega
   have hokD := comD_ok hp hx r (by omega)
   have ih1 := ih (r + 1) (by omega) (by omega)
   simp only [Oa] at ih1
   have hokD1 := comD1_ok (e := e) hokD hr'
   have hD1 : Mc (Oa p e r) e r = if 0 ≤ Ae e r then Li (Oa p e r) (Ae e r).toNat r else Oa p e r := rfl
   generalize Oa p e r = q at *
   generalize J5 p e r = l at *
   change Ae e r < _ at hltr
   clear ih hat hat2 eo
   cases hre : (evAt p r).reads with
   | false =>
    rw [if_neg (by rw [hre]; simp)] at ih1
    repeat' first
      | refine EV.seq ?_
      | (refine EV.reg ?_; (conv => (arg 2; whnf)); (repeat first | refine nx ?_ | simp only [hre]))
      | (refine Aq.call (Bv (evAt p r)) ?_; (repeat first | refine nx ?_ | simp only [hre]))
      | (refine cX (fun h => ?_) (fun h => ?_) <;> try exact Ah h)
      | (refine EV.exit rfl ?_)
      | (refine And.intro (by omega) ?_)
      | (refine xm ?_; (repeat first | refine nx ?_ | simp only [hre]))
      | fail
    refine EV.toS ih1 ?_
    exact eE
   | true =>
    rw [if_pos hre] at ih1
    repeat' first
      | (refine And.intro (by omega) ?_)
      | (refine xm ?_; try refine nx ?_)
      | exact ⟨⟩
      | fail
    refine EV.seq ?_
    refine EV.seq ?_
    repeat' first
      | refine EV.skip ?_
      | (refine EV.reg ?_; (conv => (arg 2; whnf)); (repeat first | refine nx ?_ | simp only [hre]))
      | (refine Aq.call (Bv (evAt p r)) ?_; (repeat first | refine nx ?_ | simp only [hre]))
      | (refine cX (fun h => ?_) (fun h => ?_) <;> try exact Ah h)
      | (refine And.intro (by omega) ?_)
      | (refine xm ?_; (repeat first | refine nx ?_ | simp only [hre]))
      | fail
    refine EV.seq (EV.thru (fun ρ' M' G' => M' = M ∧ (∀ q ∈ [(0, .slice (some ⟨pb, po, none⟩) p.length c), (3, pv xb 0), (5, A8 rb p.length p.length), (12, vi r), (13, vi (Ae e r)), (50, .slice (some ⟨fb, fo, none⟩) e.frm.length fc), (51, vi e.frm.length), (52, vi r)], get ρ' q.1 = some q.2) ∧
     G' = [(xb, Cl 45 [.slice (some ⟨fb, fo, none⟩) e.frm.length fc, d, .slice (some ⟨ob, oo, none⟩) e.ord.length oc, n]), (rb, Cl 144 ((Mc q e r).map vu))]) ?_ ?_)
    ·intro k' key
     clear ih1
     rw [hD1] at key
     repeat' first
       | refine EV.seq ?_
       | refine EV.skip ?_
       | refine rg ?_
       | (refine cX (fun h => ?_) (fun h => ?_) <;> try exact Ah h)
       | exact ⟨⟩
       | fail
     ·refine Con.callK (Fs hokD hb (by omega) hltr (by omega) (by omega)) (Aa.le_add _ _) ?_
      rintro v M'' G' rfl
      (refine nx ?_; try with_reducible exact ⟨⟩)
      repeat' first
        | fail
      rw [if_pos (by omega)] at key
      refine EV.reS (key _ _ _ ⟨rfl, ?_, rfl⟩)
      exact eE
     ·rw [if_neg (by omega)] at key
      refine EV.reS (key _ _ _ ⟨rfl, ?_, rfl⟩)
      exact eE
    rintro ρ2 M2 G2 ⟨rfl, hq, rfl⟩
    refine EV.to ?_ hq (List.Sublist.refl _)
    clear hq hD1
    generalize Mc q e r = q1 at *
    repeat' first
      | refine EV.seq ?_
      | refine EV.block ?_
      | ((first | refine EV.reg ?_ | refine EV.any _ (List.Sublist.refl _) ?_ | fail); (conv => (arg 2; whnf)); refine nx ?_)
      | (refine And.intro (by omega) ?_)
      | ((first | refine xm ?_ | refine xn ?_ | refine xsA rfl ?_ | fail); try refine nx ?_)
      | exact ⟨⟩
      | fail
    refine EV.loopTo (fun i : Nat => ([(0, .slice (some ⟨pb, po, none⟩) p.length c), (3, pv xb 0), (5, A8 rb p.length p.length), (12, vi r), (13, vi (Ae e r)), (14, vb (P6 q1 r (Ae e r) l i).2), (50, .slice (some ⟨fb, fo, none⟩) e.frm.length fc), (51, vi e.frm.length), (52, vi r), (80, .slice la l.length lc), (81, vi l.length), (82, vi i)], M2,
      [(xb, Cl 45 [.slice (some ⟨fb, fo, none⟩) e.frm.length fc, d, .slice (some ⟨ob, oo, none⟩) e.ord.length oc, n]), (rb, Cl 144 ((P6 q1 r (Ae e r) l i).1.map vu))]))
     (fun i => i ≤ l.length) (fun i => l.length - i) 0 rfl (Nat.zero_le _) ?env5 (List.Sublist.refl _) ?_
    case env5 =>
     exact eE
    intro i hi ih
    dsimp only at hi ih ⊢
    repeat' first
      | refine EV.seq ?_
      | refine EV.skip ?_
      | refine EV.block ?_
      | refine EV.inBlock ?_
      | refine rg ?_
      | (refine cX (fun h => ?_) (fun h => ?_) <;> try exact Ah h)
      | (refine EV.exit rfl ?_)
      | exact ⟨⟩
      | fail
    ·have hi' : i < l.length := by omega
     obtain ⟨wb, wo, rfl, hatl⟩ := Sl.at (sz := 1) (enc := ei) (fun _ => rfl) (by decide) hr2 (by omega)
     have hli := Cd hatl i hi'
     have hiin := Er hin hi'
     have hokE := comE_ok (r := r) (fr := Ae e r) hokD1 hin i hi
     have ih2 := ih (i + 1) (by omega) (by omega)
     simp only [P6] at ih2
     generalize P6 q1 r (Ae e r) l i = qe at *
     obtain ⟨qe1, qe2⟩ := qe
     dsimp only at hokE ih2 ⊢
     clear ih ih1 hatl
     repeat' first
       | refine EV.seq ?_
       | refine EV.skip ?_
       | refine EV.inBlock ?_
       | refine rg ?_
       | with_reducible assumption
       | (refine Az.merge ?_ (fun hc K' hK => ?_) ?_; rotate_left)
       | (refine cX (fun h => ?_) (fun h => ?_) <;> try exact Ah h)
       | (refine And.intro (by omega) ?_)
       | (refine xm ?_; try refine nx ?_)
       | exact ⟨⟩
       | fail
     ·refine Con.callK (Fs hokE hb (by omega) (by omega) hiin.1 hiin.2) (Aa.le_add _ _) ?_
      rintro v M'' G' rfl
      (refine nx ?_; try with_reducible exact ⟨⟩)
      rw [if_pos (by simp_all)] at ih2
      repeat' first
        | refine EV.inBlock ?_
        | refine rg ?_
        | with_reducible assumption
        | (refine Az.merge ?_ (fun hc K' hK => ?_) ?_; rotate_left)
        | exact ⟨⟩
        | fail
      refine EV.toS ih2 ?_
      exact eE
     ·rw [if_neg (by grind)] at ih2
      refine EV.toS ih2 ?_
      exact eE
    ·have hie : i = l.length := by omega
     subst hie
     refine EV.toS ih1 ?_
     exact eE
  ·have hre : r = e.frm.length := by omega
   subst hre
   have hok := comD_ok hp hx p.length (Nat.le_refl _)
   rw [hfl]
   refine Con.callK (J4 hok hb) (Aa.le_add _ _) ?_
   rintro v M' G' ⟨rfl, rfl⟩
   (refine nx ?_; try with_reducible exact ⟨⟩)
   repeat' first
     | fail
   refine EV.toS (ρ' := [(4, A8 rb p.length p.length)]) (G' := [(rb, Cl 144 ((Cc (Oa p e p.length)).map vu))]) ?_ ?env6
   case env6 =>
    exact eE
   (refine rt Q11_ok ?_; try with_reducible exact ⟨⟩)
   exact ⟨rb, rfl, rfl⟩
end
end Go.EV

namespace Go.EV
open Go.Proofs
def Dk (q : Rel) (e : Exec) : Nat → Rel
 | 0 => q
 | r + 1 => if 0 ≤ Ae e r then Li (Dk q e r) (Ae e r).toNat r else Dk q e r
def Rt (p : List Ev) (e : Exec) : Rel := Cc (Dk (Hd p e.fen) e p.length)
def Md (p : List Ev) (e : Exec) : Bool := (List.range p.length).any fun a => (List.range p.length).any fun b => A0 (Fh p e) a b && A0 (Ar8 p e) b a
def Fi (l : List Int) : Nat → Int
 | 0 => -1
 | i + 1 => Ad l i
def P8 (p : List Ev) (e : Exec) (l : List Int) (i : Nat) : Bool := (evAt p (Ad l i).toNat).reads && decide (Ae e (Ad l i).toNat ≠ Fi l i)
def Ce (p : List Ev) (e : Exec) (l : List Int) : Bool := (List.range l.length).any (P8 p e l)
def Cp (p : List Ev) (e : Exec) : Int :=
 if Bn (Rt p e) then 2 else if Bn (Fh p e) || Md p e then 3 else if e.ord.any (Ce p e) then 4 else 0
theorem roundGo_ok {p : List Ev} {q : Rel} (hq : RelOk p.length q) {e : Exec} (hx : XOk p e) : ∀ r, r ≤ p.length → RelOk p.length (Dk q e r)
 | 0, _ => hq
 | r + 1, h => by
  simp only [Dk]
  split
  ·exact (roundGo_ok hq hx r (by omega)).put _ (by omega)
  ·exact roundGo_ok hq hx r (by omega)
theorem beforeP_ok {p : List Ev} {e : Exec} (hx : XOk p e) : RelOk p.length (Fh p e) := (befGo_ok hx _ (Nat.le_refl _)).close
theorem comP_ok {p : List Ev} (hp : POk p) {e : Exec} (hx : XOk p e) : RelOk p.length (Ar8 p e) := (comD_ok hp hx _ (Nat.le_refl _)).close
theorem E8 {M : Aa} {G : Own} {α : Type} {b n : Nat} {T : TypeId} {f : α → Value} {xs : List α} [h : At G b T (xs.map f)] (hn : xs.length = n) : rd (M.add G) b 0 n (xs.map f) :=
 Bz h.mem (by rw [List.drop_zero, List.take_of_length_le (by rw [List.length_map]; omega)]) (by rw [List.length_map]; omega)
theorem E9 {n : Nat} {f : Nat → Bool} (h : ∀ a, a < n → f a = false) : (List.range n).any f = false := by
 simp only [List.any_eq_false, List.mem_range]
 intro a ha; rw [h a ha]; simp
theorem Es {n : Nat} {f : Nat → Bool} {a : Nat} (ha : a < n) (h : f a = true) : (List.range n).any f = true := by
 simp only [List.any_eq_true, List.mem_range]; exact ⟨a, ha, h⟩
section
variable {M : Aa}
set_option maxHeartbeats 4000000 in
theorem Ir (p : List Ev) (s : Value) (hs : Sl M 6 A2 s p) (hp : POk p) (e : Exec) (v : Value) (hv : IsX M v e) (hx : XOk p e) :
  Aq Tryz.prog 83 #[s, v] M (vi (Cp p e)) := by
 have hs0 := hs
 have hv0 := hv
 have hb := hp.len
 obtain ⟨a, c, rfl, hrd⟩ := hs
 obtain ⟨f, d, o, n, rfl, hf, hd, ho, hn⟩ := hv
 have hn0 := hn
 obtain ⟨fa, fc, rfl, hrf⟩ := hf
 obtain ⟨oa, oc, ovs, rfl, hol, hro, hko⟩ := ho
 have hfl := hx.fl
 have hol3 := hx.ol
 have hfin := hx.fin.2
 obtain ⟨ob, oo, rfl, hato⟩ := Di.at hro hol hko (by omega)
 refine Con.enter Q10_ok (args := [.slice a p.length c, .agg #[.slice fa e.frm.length fc, d, .slice (some ⟨ob, oo, none⟩) e.ord.length oc, n]]) (by simp [Q10]) fun w0 => ?_
 simp only [Q10, A3]
 repeat' first
   | refine EV.seq ?_
   | refine rg ?_
   | ((first | with_reducible intro b | refine xrA rfl ?_ | fail); try refine nx ?_)
   | exact ⟨⟩
   | fail
 rename Nat => xb
 refine Con.callB (G1 := []) (O2 p _ (hs0.mono (Aa.le_add _ _)) hb _ _ _ _ e.fen (hn0.mono (Aa.le_add _ _)) hx.fin.1 (by omega)) (Aa.le_refl _) (List.Perm.refl _) ?_
 rintro v M' G' ⟨rb, rfl, rfl⟩
 (refine nx ?_; try with_reducible exact ⟨⟩)
 repeat' first
   | refine EV.seq ?_
   | refine EV.block ?_
   | refine rg ?_
   | (refine xsA rfl ?_; try refine nx ?_)
   | exact ⟨⟩
   | fail
 refine EV.loopTo (fun r : Nat => ([(0, .slice a p.length c), (3, pv xb 0), (5, A8 rb p.length p.length), (21, .slice fa e.frm.length fc), (22, vi e.frm.length), (23, vi r)], M,
   [(xb, Cl 45 [.slice fa e.frm.length fc, d, .slice (some ⟨ob, oo, none⟩) e.ord.length oc, n]), (rb, Cl 144 ((Dk (Hd p e.fen) e r).map vu))]))
  (fun r => r ≤ e.frm.length) (fun r => e.frm.length - r) 0 rfl (Nat.zero_le _) ?env1 (List.Sublist.refl _) ?_
 case env1 =>
  exact eE
 intro r hr ih
 dsimp only at hr ih ⊢
 have hokr := roundGo_ok (stepsP_ok hx.fin.1) hx r (by omega)
 repeat' first
   | refine EV.seq ?_
   | refine EV.skip ?_
   | refine EV.block ?_
   | refine rg ?_
   | (refine cX (fun h => ?_) (fun h => ?_) <;> try exact Ah h)
   | (refine EV.exit rfl ?_)
   | exact ⟨⟩
   | fail
 ·have hr' : r < p.length := by omega
  obtain ⟨fb, fo, rfl, hat2⟩ := Sl.at (sz := 1) (enc := ei) (fun _ => rfl) (by decide) hrf (by omega)
  have hfr : rd M fb (fo + r) 1 [vi (Ae e r)] := Cd hat2 r (by omega)
  obtain ⟨hltr, hlo⟩ := hx.fr r hr'
  change Ae e r < _ at hltr
  have ih1 := ih (r + 1) (by omega) (by omega)
  simp only [Dk] at ih1
  generalize Dk (Hd p e.fen) e r = q at *
  clear ih hat2
  repeat' first
    | refine EV.seq ?_
    | refine EV.skip ?_
    | refine EV.inBlock ?_
    | refine rg ?_
    | (refine cX (fun h => ?_) (fun h => ?_) <;> try exact Ah h)
    | (refine And.intro (by omega) ?_)
    | (refine xm ?_; try refine nx ?_)
    | exact ⟨⟩
    | fail
  ·refine Con.callK (Fs hokr hb (by omega) hltr (by omega) (by omega)) (Aa.le_add _ _) ?_
   rintro v M'' G' rfl
   (refine nx ?_; try with_reducible exact ⟨⟩)
   rw [if_pos (by omega)] at ih1
   repeat' first
     | refine EV.inBlock ?_
     | refine rg ?_
     | exact ⟨⟩
     | fail
   refine EV.toS ih1 ?_
   exact eE
  ·rw [if_neg (by omega)] at ih1
   refine EV.toS ih1 ?_
   exact eE
 ·have hre : r = p.length := by omega
  subst hre
  clear ih
  refine Con.callK (J4 hokr hb) (Aa.le_add _ _) ?_
  rintro v M' G' ⟨rfl, rfl⟩
  (refine nx ?_; try with_reducible exact ⟨⟩)
  have hokR : RelOk p.length (Rt p e) := hokr.close
  rw [show Cc (Dk (Hd p e.fen) e p.length) = Rt p e from rfl]
  repeat' first
    | refine EV.seq ?_
    | refine EV.skip ?_
    | refine rg ?_
    | (refine Aq.call (L9 hokR hb (E8 (f := vu) hokR.len)) ?_; try refine nx ?_)
    | (refine cX (fun h => ?_) (fun h => ?_) <;> try exact Ah h)
    | exact ⟨⟩
    | fail
  ·(refine rt Q10_ok ?_; try with_reducible exact ⟨⟩)
   rw [Cp, if_pos (by assumption)]
  have hb2 : Cp p e = if Bn (Fh p e) || Md p e then 3 else if e.ord.any (Ce p e) then 4 else 0 := by rw [Cp, if_neg (by simp_all)]
  rw [hb2]
  refine EV.toS (ρ' := [(0, .slice a p.length c), (3, pv xb 0)]) (G' := [(xb, Cl 45 [.slice fa e.frm.length fc, d, .slice (some ⟨ob, oo, none⟩) e.ord.length oc, n])]) ?_ ?env2
  case env2 =>
   exact eE
  clear hokR hokr hb2
  refine EV.any (t := Yg) _ (List.Sublist.refl _) ?_
  (repeat first | refine nx ?_ | simp only [Yg])
  repeat' first
    | (refine xrA rfl ?_; try refine nx ?_)
    | exact ⟨⟩
    | fail
  refine Con.callB (G1 := []) (T2 p _ (hs0.mono (Aa.le_add _ _)) hp e _ (hv0.mono (Aa.le_add _ _)) hx) (Aa.le_refl _) (List.Perm.refl _) ?_
  rintro v M1 G1 ⟨hbb, rfl, rfl⟩
  (refine nx ?_; try with_reducible exact ⟨⟩)
  repeat' first
    | (refine And.intro (Aa.le_refl _) (And.intro (Ba ?_) ?_); focus ((repeat' first | exact List.Sublist.refl _ | exact List.nil_sublist _ | exact List.sublist_append_left _ _ | refine List.Sublist.cons_cons _ ?_ | refine List.Sublist.append_left ?_ _ | refine List.sublist_append_of_sublist_right ?_ | refine List.Sublist.cons _ ?_); done); try refine nx ?_)
    | exact ⟨⟩
    | fail
  refine Con.callB (G1 := []) (Ab9 p _ (hs0.mono (Aa.le_add _ _)) hp e _ (hv0.mono (Aa.le_add _ _)) hx) (Aa.le_refl _) (List.Perm.refl _) ?_
  rintro v M2 G2 ⟨cb, rfl, rfl⟩
  (refine nx ?_; try with_reducible exact ⟨⟩)
  have hokB := beforeP_ok hx
  have hokC := comP_ok hp hx
  have hcd : Md p e = (List.range p.length).any fun a => (List.range p.length).any fun b => A0 (Fh p e) a b && A0 (Ar8 p e) b a := rfl
  generalize Fh p e = hbR at *
  generalize Ar8 p e = coR at *
  repeat' first
    | refine EV.seq ?_
    | refine EV.skip ?_
    | refine EV.block ?_
    | refine rg ?_
    | (refine Aq.call (L9 hokB hb (E8 (f := vu) hokB.len)) ?_; try refine nx ?_)
    | (refine cX (fun h => ?_) (fun h => ?_) <;> try exact Ah h)
    | exact ⟨⟩
    | fail
  ·(refine rt Q10_ok ?_; try with_reducible exact ⟨⟩)
   rw [if_pos (by simp_all)]
  have hci : Bn (hbR) = false := by simp_all
  refine EV.loopTo (fun x : Nat => ([(0, .slice a p.length c), (3, pv xb 0), (8, A8 hbb p.length p.length), (9, A8 cb p.length p.length), (47, vi p.length), (48, vi x)], M,
    [(xb, Cl 45 [.slice fa e.frm.length fc, d, .slice (some ⟨ob, oo, none⟩) e.ord.length oc, n]), (hbb, Cl 144 ((hbR).map vu)), (cb, Cl 144 ((coR).map vu))]))
   (fun x => x ≤ p.length ∧ ∀ x', x' < x → ((List.range p.length).any fun y => A0 (hbR) x' y && A0 (coR) y x') = false) (fun x => p.length - x) 0 rfl ⟨Nat.zero_le _, fun _ h => absurd h (Nat.not_lt_zero _)⟩ ?env3 (List.Sublist.refl _) ?_
  case env3 =>
   exact eE
  rintro x ⟨hxn, hno⟩ ih
  dsimp only at hxn hno ih ⊢
  repeat' first
    | refine EV.seq ?_
    | refine EV.skip ?_
    | refine EV.block ?_
    | refine rg ?_
    | (refine cX (fun h => ?_) (fun h => ?_) <;> try exact Ah h)
    | (refine EV.exit rfl ?_)
    | (refine xsA rfl ?_; try refine nx ?_)
    | exact ⟨⟩
    | fail
  ·have hx' : x < p.length := by omega
   refine EV.loopTo (fun y : Nat => ([(0, .slice a p.length c), (3, pv xb 0), (8, A8 hbb p.length p.length), (9, A8 cb p.length p.length), (10, vi x), (47, vi p.length), (48, vi x), (52, vi p.length), (53, vi y)], M,
     [(xb, Cl 45 [.slice fa e.frm.length fc, d, .slice (some ⟨ob, oo, none⟩) e.ord.length oc, n]), (hbb, Cl 144 ((hbR).map vu)), (cb, Cl 144 ((coR).map vu))]))
    (fun y => y ≤ p.length ∧ ∀ y', y' < y → (A0 (hbR) x y' && A0 (coR) y' x) = false) (fun y => p.length - y) 0 rfl ⟨Nat.zero_le _, fun _ h => absurd h (Nat.not_lt_zero _)⟩ ?env4 (List.Sublist.refl _) ?_
   case env4 =>
    exact eE
   rintro y ⟨hyn, hno2⟩ ih2
   dsimp only at hyn hno2 ih2 ⊢
   repeat' first
     | refine EV.seq ?_
     | refine EV.skip ?_
     | refine EV.block ?_
     | refine EV.inBlock ?_
     | refine rg ?_
     | (refine cX (fun h => ?_) (fun h => ?_) <;> try exact Ah h)
     | (refine EV.exit rfl ?_)
     | exact ⟨⟩
     | fail
   ·have hy' : y < p.length := by omega
    obtain ⟨hbl, eb1⟩ := hokB.get hx'
    obtain ⟨hcl, ec1⟩ := hokC.get hy'
    have hxa := hokB.at hb x
    have hxc := hokC.at hb y
    have hcross : (A0 (hbR) x y && A0 (coR) y x) = ((hbR)[x].testBit y && (coR)[y].testBit x) := by simp only [A0, eb1, ec1]
    rw [eb1] at hxa
    rw [ec1] at hxc
    have ih3 := ih2 (y + 1)
    clear ih ih2
    repeat' first
      | fail
    refine Aq.call (Ln (j := y) (B4 (f := vu) hbl) hx' (by omega) (by omega) hxa) ?_
    (refine nx ?_; try with_reducible exact ⟨⟩)
    have next : (hbR[x].testBit y && coR[y].testBit x) = false → _ := fun hcc => ih3 ⟨by omega, fun y' hy2 => by
     by_cases e1 : y' = y
     ·subst e1; rw [hcross]; exact hcc
     ·exact hno2 y' (by omega)⟩ (by omega)
    repeat' first
      | refine EV.seq ?_
      | refine EV.skip ?_
      | refine EV.inBlock ?_
      | refine rg ?_
      | (refine Az.intro (fun hc => ?_) (fun hc => ?_) <;> try simp only [ne_eq, Bool.not_true, Bool.not_false, not_true_eq_false, not_false_eq_true, reduceCtorEq] at hc <;> try (exfalso; first | exact hc | omega | (simp at hc; done)))
      | (refine cX (fun h => ?_) (fun h => ?_) <;> try exact Ah h)
      | exact ⟨⟩
      | fail
    all_goals try (exfalso; exact hc h; done)
    ·refine Aq.call (Ln (j := x) (B4 (f := vu) hcl) hy' (by omega) (by omega) hxc) ?_
     (refine nx ?_; try with_reducible exact ⟨⟩)
     repeat' first
       | refine EV.seq ?_
       | refine EV.skip ?_
       | refine EV.inBlock ?_
       | refine rg ?_
       | (refine cX (fun h => ?_) (fun h => ?_) <;> try exact Ah h)
       | exact ⟨⟩
       | fail
     ·(refine rt Q10_ok ?_; try with_reducible exact ⟨⟩)
      have hcr : Md p e = true := hcd ▸ Es hx' (Es hy' (by rw [hcross]; simp_all))
      rw [if_pos (by rw [hcr]; simp)]
     ·refine EV.toS (next (by grind)) ?_
      exact eE
    ·refine EV.toS (next (by grind)) ?_
     exact eE
   ·refine EV.toS (ih (x + 1) ⟨by omega, fun x' hx2 => ?_⟩ (by omega)) ?_
    ·by_cases e1 : x' = x
     ·subst e1; exact E9 fun y' hy2 => hno2 y' (by omega)
     ·exact hno x' (by omega)
    ·exact eE
  ·have hcr : Md p e = false := hcd ▸ E9 fun x' hx2 => hno x' (by omega)
   rw [hci, hcr]
   simp only [Bool.or_self, Bool.false_eq_true, if_false]
   clear ih
   refine EV.loopTo (fun k : Nat => ([(0, .slice a p.length c), (3, pv xb 0), (69, .slice (some ⟨ob, oo, none⟩) e.ord.length oc), (70, vi e.ord.length), (71, vi k)], M,
     [(xb, Cl 45 [.slice fa e.frm.length fc, d, .slice (some ⟨ob, oo, none⟩) e.ord.length oc, n])]))
    (fun k => k ≤ e.ord.length ∧ (e.ord.take k).any (Ce p e) = false) (fun k => e.ord.length - k) 0 rfl ⟨Nat.zero_le _, by simp⟩ ?env5 (by simp) ?_
   case env5 =>
    exact eE
   rintro k ⟨hk, hno⟩ ih
   dsimp only at hk hno ih ⊢
   repeat' first
     | refine EV.seq ?_
     | refine EV.skip ?_
     | refine EV.block ?_
     | refine rg ?_
     | (refine cX (fun h => ?_) (fun h => ?_) <;> try exact Ah h)
     | (refine EV.exit rfl ?_)
     | (refine And.intro (by omega) ?_)
     | exact ⟨⟩
     | fail
   ·have hk' : k < e.ord.length := by omega
    obtain ⟨la, lc, hr1, hlc, hr2⟩ := hato k hk'
    rw [Nat.mul_one] at hr1
    obtain ⟨hin, hln⟩ := hx.oin _ (List.getElem_mem hk')
    have hmem := List.getElem_mem hk'
    have hna : (e.ord.take (k + 1)).any (Ce p e) = Ce p e e.ord[k] := by
     rw [List.take_succ_eq_append_getElem hk', List.any_append, hno]; simp
    have ih1 := ih (k + 1)
    rw [hna] at ih1
    generalize e.ord[k] = l at *
    clear ih hna
    repeat' first
      | refine EV.seq ?_
      | refine EV.block ?_
      | refine rg ?_
      | (refine xn ?_; try refine nx ?_)
      | exact ⟨⟩
      | fail
    refine EV.loopTo (fun i : Nat => ([(0, .slice a p.length c), (3, pv xb 0), (13, .slice la l.length lc), (14, vi (Fi l i)), (69, .slice (some ⟨ob, oo, none⟩) e.ord.length oc), (70, vi e.ord.length), (71, vi k), (75, .slice la l.length lc), (76, vi l.length), (77, vi i)], M,
      [(xb, Cl 45 [.slice fa e.frm.length fc, d, .slice (some ⟨ob, oo, none⟩) e.ord.length oc, n])]))
     (fun i => i ≤ l.length ∧ ∀ i', i' < i → P8 p e l i' = false) (fun i => l.length - i) 0 rfl ⟨Nat.zero_le _, fun _ h => absurd h (Nat.not_lt_zero _)⟩ ?env6 (List.Sublist.refl _) ?_
    case env6 =>
     exact eE
    rintro i ⟨hi, hno2⟩ ih2
    dsimp only at hi hno2 ih2 ⊢
    repeat' first
      | refine EV.seq ?_
      | refine EV.skip ?_
      | refine EV.block ?_
      | refine EV.inBlock ?_
      | refine rg ?_
      | (refine cX (fun h => ?_) (fun h => ?_) <;> try exact Ah h)
      | (refine EV.exit rfl ?_)
      | exact ⟨⟩
      | fail
    ·have hi' : i < l.length := by omega
     obtain ⟨wb, wo, rfl, hatl⟩ := Sl.at (sz := 1) (enc := ei) (fun _ => rfl) (by decide) hr2 (by omega)
     have hli := Cd hatl i hi'
     have hiin := Er hin hi'
     obtain ⟨pb, po, rfl, hat⟩ := Sl.at (enc := A2) (fun _ => rfl) (by decide) hrd (by omega)
     obtain ⟨fb, fo, rfl, hat2⟩ := Sl.at (sz := 1) (enc := ei) (fun _ => rfl) (by decide) hrf (by omega)
     have hpw := Sl.evAt hat (Ad l i).toNat (by omega)
     have hfw : rd M fb (fo + (Ad l i).toNat) 1 [vi (Ae e (Ad l i).toNat)] := Cd hat2 _ (by omega)
     have hwf : Ad l i < (e.frm.length : Int) := by omega
     have hbd : P8 p e l i = ((evAt p (Ad l i).toNat).reads && decide (Ae e (Ad l i).toNat ≠ Fi l i)) := rfl
     have ih3 := ih2 (i + 1)
     simp only [Fi] at ih3
     clear ih2 hatl hat hat2
     repeat' first
       | refine EV.seq ?_
       | refine EV.skip ?_
       | refine EV.inBlock ?_
       | refine rg ?_
       | (refine Aq.call (Bv (evAt p (Ad l i).toNat)) ?_; try refine nx ?_)
       | with_reducible assumption
       | (refine Az.merge ?_ (fun hc K' hK => ?_) ?_; rotate_left)
       | (refine cX (fun h => ?_) (fun h => ?_) <;> try exact Ah h)
       | (refine And.intro (by omega) ?_)
       | ((first | refine xm ?_ | refine xsA rfl ?_ | fail); try refine nx ?_)
       | exact ⟨⟩
       | fail
     ·(refine rt Q10_ok ?_; try with_reducible exact ⟨⟩)
      have hb1 : Ce p e l = true := Es hi' (by rw [hbd]; simp_all)
      rw [if_pos (List.any_eq_true.2 ⟨l, hmem, hb1⟩)]
     ·refine EV.toS (ih3 ⟨by omega, fun i' hi2 => ?_⟩ (by omega)) ?_
      ·by_cases e1 : i' = i
       ·subst e1; rw [hbd]; grind
       ·exact hno2 i' (by omega)
      ·exact eE
    ·refine EV.toS (ih1 ⟨by omega, E9 fun i' hi2 => hno2 i' (by omega)⟩ (by omega)) ?_
     exact eE
   ·have hke : k = e.ord.length := by omega
    subst hke
    rw [List.take_length] at hno
    (refine rt Q10_ok ?_; try with_reducible exact ⟨⟩)
    rw [hno]; rfl
end
end Go.EV

namespace Go.EV
open Go.Proofs
def Hg (p : List Ev) (e : Exec) (i : Nat) : Bool :=
 (decide ((evAt p i).op.kind = 3) && xor (e.dn[i]?.getD false) (decide ((Ap p e.frm).r[i]?.getD 0 = (evAt p i).op.v))) ||
 (decide ((evAt p i).op.kind = 4) && (e.dn[i]?.getD false) && decide ((Ap p e.frm).r[i]?.getD 0 ≠ (evAt p i).op.v))
def Dl (p : List Ev) (e : Exec) : Bool := !((List.range p.length).any (Hg p e)) && decide (Cp p e = 0)
section
variable {M : Aa}
set_option maxHeartbeats 4000000 in
theorem P9 (p : List Ev) (s : Value) (hs : Sl M 6 A2 s p) (hp : POk p) (e : Exec) (v : Value) (hv : IsX M v e) (hx : XOk p e) :
  Aq Tryz.prog 81 #[s, v] M (vb (Dl p e)) := by
 have hs0 := hs
 have hv0 := hv
 have hb := hp.len
 obtain ⟨a, c, rfl, hrd⟩ := hs
 obtain ⟨f, d, o, n, rfl, hf, hd, ho, hn⟩ := hv
 have hf0 := hf
 obtain ⟨da, dc, rfl, hrdn⟩ := hd
 have hdl := hx.dl
 refine Con.enter Q34_ok (args := [.slice a p.length c, .agg #[f, .slice da e.dn.length dc, o, n]]) (by simp [Q34]) fun w0 => ?_
 simp only [Q34, A3]
 repeat' first
   | refine EV.seq ?_
   | refine rg ?_
   | ((first | with_reducible intro b | refine xrA rfl ?_ | fail); try refine nx ?_)
   | exact ⟨⟩
   | fail
 rename Nat => xb
 refine Con.callS (G1 := []) (J3 p _ hs0 (by omega) e.frm _ _ _ _ hf0 hx.fromOk) ?_
 rintro v M1 G1 hM1 ⟨rv, wv, kv, rfl, hr, -, -⟩
 obtain ⟨ra, rc, rfl, hrr⟩ := hr
 have hrl : (Ap p e.frm).r.length = p.length := (Ew p e.frm _).r
 (refine nx ?_; try with_reducible exact ⟨⟩)
 repeat' first
   | refine EV.seq ?_
   | refine EV.block ?_
   | refine rg ?_
   | exact ⟨⟩
   | fail
 refine EV.toS (ρ' := [(0, .slice a p.length c), (3, pv xb 0), (5, .slice ra (Ap p e.frm).r.length rc), (17, .slice a p.length c), (18, vi p.length), (19, vi (0 : Nat))]) (G' := [(xb, Cl 45 [f, .slice da e.dn.length dc, o, n])]) ?_ ?env0
 case env0 =>
  exact eE
 refine EV.loopTo (fun i : Nat => ([(0, .slice a p.length c), (3, pv xb 0), (5, .slice ra (Ap p e.frm).r.length rc), (17, .slice a p.length c), (18, vi p.length), (19, vi i)], M1, [(xb, Cl 45 [f, .slice da e.dn.length dc, o, n])]))
  (fun i => i ≤ p.length ∧ ∀ i', i' < i → Hg p e i' = false) (fun i => p.length - i) 0 rfl ⟨Nat.zero_le _, fun _ h => absurd h (Nat.not_lt_zero _)⟩ ?env1 (List.Sublist.refl _) ?_
 case env1 =>
  exact eE
 rintro i ⟨hi, hno⟩ ih
 dsimp only at hi hno ih ⊢
 repeat' first
   | refine EV.seq ?_
   | refine EV.skip ?_
   | refine EV.block ?_
   | refine rg ?_
   | (refine cX (fun h => ?_) (fun h => ?_) <;> try exact Ah h)
   | (refine EV.exit rfl ?_)
   | (refine xrA rfl ?_; try refine nx ?_)
   | exact ⟨⟩
   | fail
 ·have hi' : i < p.length := by omega
  obtain ⟨pb, po, rfl, hat⟩ := Sl.at (enc := A2) (fun _ => rfl) (by decide) hrd (by omega)
  obtain ⟨db, do', rfl, hatd⟩ := Sl.at (sz := 1) (enc := eb) (fun _ => rfl) (by decide) hrdn (by omega)
  obtain ⟨rb, ro, rfl, hatr⟩ := Sl.at (sz := 1) (enc := ei) (fun _ => rfl) (by decide) hrr (by omega)
  have hpi := (Sl.evAt hat i hi').mono hM1
  have hdi : rd M1 db (do' + i) 1 [vb (e.dn[i]?.getD false)] := by
   have := (hatd i (by omega)).mono hM1
   rw [Nat.mul_one] at this
   rwa [List.getElem?_eq_getElem (by omega : i < e.dn.length)]
  have hri : rd M1 rb (ro + i) 1 [vi ((Ap p e.frm).r[i]?.getD 0)] := Cd hatr i (by omega)
  have hdI : (i : Int) < e.dn.length := by omega
  have hrI : (i : Int) < (Ap p e.frm).r.length := by omega
  have hwb : Hg p e i = ((decide ((evAt p i).op.kind = 3) && xor (e.dn[i]?.getD false) (decide ((Ap p e.frm).r[i]?.getD 0 = (evAt p i).op.v))) ||
   (decide ((evAt p i).op.kind = 4) && (e.dn[i]?.getD false) && decide ((Ap p e.frm).r[i]?.getD 0 ≠ (evAt p i).op.v))) := rfl
  have ih3 := ih (i + 1)
  have hpos : Hg p e i = true → Dl p e = false := fun h => by
   rw [Dl, Es hi' h]; rfl
  clear ih hat hatd hatr
  repeat' first
    | refine EV.seq ?_
    | refine EV.skip ?_
    | refine EV.inBlock ?_
    | ((first | refine EV.reg ?_ | refine EV.any _ (List.Sublist.refl _) ?_ | fail); (conv => (arg 2; whnf)); refine nx ?_)
    | (refine Px.mk ?_ (fun hc => ?_) ?_; rotate_left; (try simp only [decide_eq_true_eq, decide_eq_false_iff_not, Bool.not_eq_true', Bool.not_eq_false', Bool.and_eq_true, Bool.or_eq_true, Bool.and_eq_false_iff, Bool.or_eq_false_iff] at hc))
    | (with_reducible rfl)
    | (refine cX (fun h => ?_) (fun h => ?_) <;> try exact Ah h)
    | (with_reducible intro b; try refine nx ?_)
    | (refine And.intro (by omega) ?_)
    | ((first | refine xm ?_ | refine xiA rfl ?_ | refine xsA rfl ?_ | fail); try refine nx ?_)
    | (refine xw ?_; refine nx ?_)
    | exact ⟨⟩
    | fail
  ·have hw : Hg p e i = true := by rw [hwb]; simp_all
   (refine rt Q34_ok ?_; try with_reducible exact ⟨⟩)
   rw [hpos hw]
  ·have hw : Hg p e i = false := by rw [hwb]; grind
   refine EV.toS (ih3 ⟨by omega, fun i' hi2 => ?_⟩ (by omega)) ?_
   ·by_cases e1 : i' = i
    ·subst e1; exact hw
    ·exact hno i' (by omega)
   ·exact eE
 ·have hie : i = p.length := by omega
  subst hie
  have hpo : Dl p e = decide (Cp p e = 0) := by rw [Dl, E9 hno]; rfl
  repeat' first
    | (refine Aq.call (Ir p _ (hs0.mono (Aa.le_trans hM1 (Aa.le_add _ _))) hp e _ (hv0.mono (Aa.le_trans hM1 (Aa.le_add _ _))) hx) ?_; try refine nx ?_)
    | exact ⟨⟩
    | fail
  (refine rt Q34_ok ?_; try with_reducible exact ⟨⟩)
  rw [hpo]
end
end Go.EV

namespace Go.EV
open Go.Proofs
theorem Vg {H : Aa} {n : Nat} {cs : List Value} (h : rdS H 1 none n cs) : n = 0 ∧ cs = [] := by
 rcases h with ⟨h0, rfl⟩ | ⟨b, off, e, _⟩
 ·exact ⟨by omega, rfl⟩
 ·cases e
section
variable {M : Aa}
theorem Ft (xs : List Int) (s : Value) (hs : Sl M 1 ei s xs) (hb : xs.length < 1000000) : Con Tryz.prog 113 #[s] M [] (Ag4 xs) := by
 obtain ⟨a, c, rfl, hrd⟩ := hs
 rw [Av] at hrd
 refine Con.enter Q101_ok (args := [.slice a xs.length c]) (by simp [Ei2]) fun w0 => ?_
 simp only [Ei2, A3]
 cases a with
 | none =>
  obtain ⟨h0, hcs⟩ := Vg hrd
  repeat' first
    | refine EV.seq ?_
    | (refine EV.reg ?_; (conv => (arg 2; whnf)); (repeat first | refine nx ?_ | simp only [Option.isNone_none]))
    | (refine cX (fun h => ?_) (fun h => ?_) <;> try exact Ah h)
    | fail
  (refine rt Q101_ok ?_; try with_reducible exact ⟨⟩)
  exact ⟨none, by rw [h0]; rfl, ⟨h0, hcs⟩, rfl⟩
 | some ad =>
  repeat' first
    | refine EV.seq ?_
    | refine EV.skip ?_
    | (refine EV.reg ?_; (conv => (arg 2; whnf)); (repeat first | refine nx ?_ | simp only [Option.isNone_some]))
    | (refine cX (fun h => ?_) (fun h => ?_) <;> try exact Ah h)
    | (with_reducible intro b; (repeat first | refine nx ?_ | simp only [Option.isNone_some]))
    | fail
  refine ⟨xs.map vi, hrd.mono (Aa.le_add _ _), Yp xs, Or.inl ⟨some (b, 0, []), 0, rfl, [], ⟨rfl, rfl, Nat.le_refl _, by decide⟩, [], by simp [osg], ?_, ?_, ?_⟩⟩
  ·simp only [maxLen]; omega
  ·omega
  intro o' ho' _
  (refine nx ?_; try with_reducible exact ⟨⟩)
  repeat' first
    | fail
  rw [Nat.zero_add] at ho'
  rw [List.nil_append] at ho'
  (refine rt Q101_ok ?_; try with_reducible exact ⟨⟩)
  exact ⟨o', rfl, ho', rfl⟩
def Es4 (xs : List Bool) (v : Value) (_ : Aa) (G' : Own) : Prop := ∃ ov : Vec, v = osv ov xs.length ∧ E7 1 ov xs.length (xs.map vb) ∧ G' = osg 4 ov (xs.map vb)
theorem T3 (xs : List Bool) (s : Value) (hs : Sl M 1 eb s xs) (hb : xs.length < 1000000) : Con Tryz.prog 124 #[s] M [] (Es4 xs) := by
 obtain ⟨a, c, rfl, hrd⟩ := hs
 rw [Hx] at hrd
 refine Con.enter Q100_ok (args := [.slice a xs.length c]) (by simp [El9]) fun w0 => ?_
 simp only [El9, A3]
 cases a with
 | none =>
  obtain ⟨h0, hcs⟩ := Vg hrd
  repeat' first
    | refine EV.seq ?_
    | (refine EV.reg ?_; (conv => (arg 2; whnf)); (repeat first | refine nx ?_ | simp only [Option.isNone_none]))
    | (refine cX (fun h => ?_) (fun h => ?_) <;> try exact Ah h)
    | fail
  (refine rt Q100_ok ?_; try with_reducible exact ⟨⟩)
  exact ⟨none, by rw [h0]; rfl, ⟨h0, hcs⟩, rfl⟩
 | some ad =>
  repeat' first
    | refine EV.seq ?_
    | refine EV.skip ?_
    | (refine EV.reg ?_; (conv => (arg 2; whnf)); (repeat first | refine nx ?_ | simp only [Option.isNone_some]))
    | (refine cX (fun h => ?_) (fun h => ?_) <;> try exact Ah h)
    | (with_reducible intro b; (repeat first | refine nx ?_ | simp only [Option.isNone_some]))
    | fail
  refine ⟨xs.map vb, hrd.mono (Aa.le_add _ _), Cl1 xs, Or.inl ⟨some (b, 0, []), 0, rfl, [], ⟨rfl, rfl, Nat.le_refl _, by decide⟩, [], by simp [osg], ?_, ?_, ?_⟩⟩
  ·simp only [maxLen]; omega
  ·omega
  intro o' ho' _
  (refine nx ?_; try with_reducible exact ⟨⟩)
  repeat' first
    | fail
  rw [Nat.zero_add] at ho'
  rw [List.nil_append] at ho'
  (refine rt Q100_ok ?_; try with_reducible exact ⟨⟩)
  exact ⟨o', rfl, ho', rfl⟩
theorem Yw (a : Option Addr) (n c : Nat) (hc : n ≤ c) : Aq Tryz.prog 119 #[.slice a n c] M (.slice a n n) := by
 refine Con.enter Q99_ok (args := [.slice a n c]) (by simp [Q99]) fun w0 => ?_
 simp only [Q99, A3]
 repeat' first
   | refine EV.seq ?_
   | refine rg ?_
   | exact ⟨⟩
   | fail
 simp only [Option.map_some, Ch]
 refine ⟨n, rfl, n, rfl, Nat.le_refl _, hc, Or.inl rfl, ?_⟩
 have e : (if n = 0 then a else a.map fun x => x.add 0) = a := by
  split
  ·rfl
  ·cases a <;> simp [Addr.add]
 rw [e]
 (refine rt Q99_ok ?_; try with_reducible exact ⟨⟩)
def Fj (f : Int → Bool) (xs : List Int) : Int := if h : (xs.findIdx f) < xs.length then xs.findIdx f else -1
theorem Ob (xs : List Int) (s : Value) (hs : Sl M 1 ei s xs) (hb : xs.length < 1000000) (g : Nat) (caps : Array Value) (f : Int → Bool)
  (hf : ∀ M', M.le M' → ∀ x ∈ xs, Aq Tryz.prog g (#[vi x] ++ caps) M' (vb (f x))) : Aq Tryz.prog 140 #[s, .func (.func g) #[] caps] M (vi (Fj f xs)) := by
 obtain ⟨a, c, rfl, hrd⟩ := hs
 refine Con.enter Q109_ok (args := [.slice a xs.length c, .func (.func g) #[] caps]) (by simp [Eq0]) fun w0 => ?_
 simp only [Eq0, A3]
 repeat' first
   | refine EV.seq ?_
   | refine EV.block ?_
   | refine rg ?_
   | exact ⟨⟩
   | fail
 refine EV.loopTo (fun i : Nat => ([(0, .slice a xs.length c), (1, .func (.func g) #[] caps), (7, vi xs.length), (8, vi i)], M, [])) (fun i => i ≤ xs.length ∧ ∀ j (h : j < xs.length), j < i → f xs[j] = false) (fun i => xs.length - i) 0 rfl ⟨Nat.zero_le _, fun j _ h => absurd h (Nat.not_lt_zero _)⟩ ?env1 (List.Sublist.refl _) ?_
 case env1 =>
  exact eE
 rintro i ⟨hi, hno⟩ ih
 dsimp only at hi hno ih ⊢
 repeat' first
   | refine EV.seq ?_
   | refine EV.skip ?_
   | refine EV.block ?_
   | refine rg ?_
   | (refine cX (fun h => ?_) (fun h => ?_) <;> try exact Ah h)
   | (refine EV.exit rfl ?_)
   | exact ⟨⟩
   | fail
 ·have hi' : i < xs.length := by omega
  obtain ⟨wb, wo, rfl, hat⟩ := Sl.at (sz := 1) (enc := ei) (fun _ => rfl) (by decide) hrd (by omega)
  have hri := hat i hi'
  rw [Nat.mul_one] at hri
  repeat' first
    | refine EV.seq ?_
    | refine EV.skip ?_
    | refine EV.inBlock ?_
    | refine rg ?_
    | (refine Aq.call (hf _ (Aa.le_add _ _) xs[i] (List.getElem_mem hi')) ?_; try refine nx ?_)
    | (refine cX (fun h => ?_) (fun h => ?_) <;> try exact Ah h)
    | (refine And.intro (by omega) ?_)
    | (refine xm ?_; try refine nx ?_)
    | exact ⟨⟩
    | fail
  ·(refine rt Q109_ok ?_; try with_reducible exact ⟨⟩)
   have e : xs.findIdx f = i := by
    rw [List.findIdx_eq hi']
    exact ⟨by assumption, fun j hj => hno j (by omega) hj⟩
   rw [Fj, dif_pos (by omega), e]
  ·refine EV.to (ih (i + 1) ⟨by omega, fun j hj hji => ?_⟩ (by omega)) ?_ (List.Sublist.refl _)
   ·by_cases e : j = i
    ·subst e; assumption
    ·exact hno j hj (by omega)
   ·exact eE
 ·(refine rt Q109_ok ?_; try with_reducible exact ⟨⟩)
  have e : xs.findIdx f = xs.length := by
   rw [List.findIdx_eq_length]
   intro x hx
   obtain ⟨j, hj, rfl⟩ := List.getElem_of_mem hx
   exact hno j hj (by omega)
  rw [Fj, dif_neg (by omega)]
theorem J6 (xs : List Int) (s : Value) (hs : Sl M 1 ei s xs) (hb : xs.length < 1000000) (g : Nat) (caps : Array Value) (f : Int → Bool)
  (hf : ∀ M', M.le M' → ∀ x ∈ xs, Aq Tryz.prog g (#[vi x] ++ caps) M' (vb (f x))) : Aq Tryz.prog 117 #[s, .func (.func g) #[] caps] M (vb (xs.any f)) := by
 have hs0 := hs
 obtain ⟨a, c, rfl, hrd⟩ := hs
 refine Con.enter Q106_ok (args := [.slice a xs.length c, .func (.func g) #[] caps]) (by simp [Ej4]) fun w0 => ?_
 simp only [Ej4, A3]
 repeat' first
   | refine EV.seq ?_
   | refine rg ?_
   | (refine Aq.call (Ob xs _ (hs0.mono (Aa.le_add _ _)) hb g caps f (fun M' hM' => hf M' (Aa.le_trans (Aa.le_add _ _) hM'))) ?_; try refine nx ?_)
   | refine rt Q106_ok ?_
   | exact ⟨⟩
   | fail
 have e : decide (0 ≤ Fj f xs) = xs.any f := by
  rw [Bool.eq_iff_iff, decide_eq_true_iff, List.any_eq_true, Fj]
  constructor
  ·intro h
   split at h
   ·rename_i h2; exact List.findIdx_lt_length.1 h2
   ·omega
  ·intro h
   rw [dif_pos (List.findIdx_lt_length.2 h)]; omega
 first | rw [← e] | (rw [← e]; simp)
theorem Wr (xs : List Int) (s : Value) (hs : Sl M 1 ei s xs) (hb : xs.length < 1000000) (x : Int) : Aq Tryz.prog 114 #[s, vi x] M (vi (Fj (fun y => decide (x = y)) xs)) := by
 obtain ⟨a, c, rfl, hrd⟩ := hs
 refine Con.enter Q110_ok (args := [.slice a xs.length c, vi x]) (by simp [Ei3]) fun w0 => ?_
 simp only [Ei3, A3]
 repeat' first
   | refine EV.seq ?_
   | refine EV.block ?_
   | refine rg ?_
   | exact ⟨⟩
   | fail
 refine EV.loopTo (fun i : Nat => ([(0, .slice a xs.length c), (1, vi x), (7, vi xs.length), (8, vi i)], M, [])) (fun i => i ≤ xs.length ∧ ∀ j (h : j < xs.length), j < i → decide (x = xs[j]) = false) (fun i => xs.length - i) 0 rfl ⟨Nat.zero_le _, fun j _ h => absurd h (Nat.not_lt_zero _)⟩ ?env1 (List.Sublist.refl _) ?_
 case env1 =>
  exact eE
 rintro i ⟨hi, hno⟩ ih
 dsimp only at hi hno ih ⊢
 repeat' first
   | refine EV.seq ?_
   | refine EV.skip ?_
   | refine EV.block ?_
   | refine rg ?_
   | (refine cX (fun h => ?_) (fun h => ?_) <;> try exact Ah h)
   | (refine EV.exit rfl ?_)
   | exact ⟨⟩
   | fail
 ·have hi' : i < xs.length := by omega
  obtain ⟨wb, wo, rfl, hat⟩ := Sl.at (sz := 1) (enc := ei) (fun _ => rfl) (by decide) hrd (by omega)
  have hri := hat i hi'
  rw [Nat.mul_one] at hri
  repeat' first
    | refine EV.seq ?_
    | refine EV.skip ?_
    | refine EV.inBlock ?_
    | refine rg ?_
    | (refine cX (fun h => ?_) (fun h => ?_) <;> try exact Ah h)
    | (refine And.intro (by omega) ?_)
    | (refine xm ?_; try refine nx ?_)
    | exact ⟨⟩
    | fail
  ·(refine rt Q110_ok ?_; try with_reducible exact ⟨⟩)
   have e : xs.findIdx (fun y => decide (x = y)) = i := by
    rw [List.findIdx_eq hi']
    exact ⟨by simpa using by assumption, fun j hj => hno j (by omega) hj⟩
   rw [Fj, dif_pos (by omega), e]
  ·refine EV.to (ih (i + 1) ⟨by omega, fun j hj hji => ?_⟩ (by omega)) ?_ (List.Sublist.refl _)
   ·by_cases e : j = i
    ·subst e; simpa using by assumption
    ·exact hno j hj (by omega)
   ·exact eE
 ·(refine rt Q110_ok ?_; try with_reducible exact ⟨⟩)
  have e : xs.findIdx (fun y => decide (x = y)) = xs.length := by
   rw [List.findIdx_eq_length]
   intro y hy
   obtain ⟨j, hj, rfl⟩ := List.getElem_of_mem hy
   exact hno j hj (by omega)
  rw [Fj, dif_neg (by omega)]
theorem Yx (n : Nat) (hb : n < 1000000) : Con Tryz.prog 141 #[.slice none 0 0, vi n] M [] fun v _ G' => ∃ ov : Vec, v = osv ov 0 ∧ E7 1 ov 0 [] ∧ G' = osg 3 ov [] := by
 refine Con.enter Q108_ok (args := [.slice none 0 0, vi n]) (by simp [Eq1]) fun w0 => ?_
 simp only [Eq1, A3]
 have e0 : IntKind.i64.wrap ((n : Int) - IntKind.i64.wrap (0 - 0)) = n := by
  rw [show IntKind.i64.wrap (0 - 0) = 0 from by decide, Int.sub_zero]; exact w64 (by omega) (by omega)
 repeat' first
   | refine EV.seq ?_
   | refine EV.skip ?_
   | (refine EV.reg ?_; (conv => (arg 2; whnf)); (repeat first | refine nx ?_ | simp only [e0]))
   | (refine cX (fun h => ?_) (fun h => ?_) <;> try exact Ah h)
   | fail
 ·simp only [Option.map_some, Ch]
  refine ⟨0, rfl, Nat.le_refl _, Or.inl rfl, [], Or.inl ⟨by simp, rfl⟩, by omega, by omega, by simp only [maxLen]; omega, by omega, ?_⟩
  rintro b cap sp ⟨h1, h2, h3, h4⟩
  rw [List.nil_append] at h1 h2
  refine ⟨0, rfl, Nat.zero_le _, Or.inl rfl, ?_⟩
  have e : (if cap = 0 then some (⟨b, 0, none⟩ : Addr) else some ((⟨b, 0, none⟩ : Addr).add 0)) = some ⟨b, 0, none⟩ := by
   split
   ·rfl
   ·simp [Addr.add]
  rw [e]
  repeat' first
    | refine EV.seq ?_
    | refine rg ?_
    | exact ⟨⟩
    | fail
  (refine rt Q108_ok ?_; try with_reducible exact ⟨⟩)
  refine ⟨some (b, cap, (List.replicate n [vi 0]).flatten ++ sp), rfl, ⟨by simp, by simpa using h2, Nat.zero_le _, h4⟩, by simp [osg]⟩
 ·(refine rt Q108_ok ?_; try with_reducible exact ⟨⟩)
  exact ⟨none, rfl, ⟨rfl, rfl⟩, rfl⟩
theorem T4 (xss : List (List Int)) (s : Value) (hs : Gw M 1 ei s xss) (hb : xss.flatten.length < 1000000) (hb2 : xss.length < 1000000) : Con Tryz.prog 120 #[s] M [] (Ag4 xss.flatten) := by
 obtain ⟨a, c, vs, rfl, hl, hrd, hk⟩ := hs
 refine Con.enter Q105_ok (args := [.slice a xss.length c]) (by simp [Ej9]) fun w0 => ?_
 simp only [Ej9, A3]
 repeat' first
   | refine EV.seq ?_
   | refine EV.block ?_
   | refine rg ?_
   | exact ⟨⟩
   | fail
 refine EV.loopTo (fun i : Nat => ([(0, .slice a xss.length c), (3, vi (xss.take i).flatten.length), (9, .slice a xss.length c), (10, vi xss.length), (11, vi i)], M, [])) (fun i => i ≤ xss.length) (fun i => xss.length - i) 0 rfl (Nat.zero_le _) ?env1 (List.Sublist.refl _) ?_
 case env1 =>
  exact eE
 intro i hi ih
 dsimp only at hi ih ⊢
 repeat' first
   | refine EV.seq ?_
   | refine EV.skip ?_
   | refine EV.block ?_
   | refine rg ?_
   | (refine cX (fun h => ?_) (fun h => ?_) <;> try exact Ah h)
   | (refine EV.exit rfl ?_)
   | exact ⟨⟩
   | fail
 ·have hi' : i < xss.length := by omega
  obtain ⟨pb, po, rfl, hat⟩ := Gw.at hrd hl hk (by omega)
  obtain ⟨a', c', hr1, hr2⟩ := hat i hi'
  rw [Nat.mul_one] at hr1
  have e := Dh (ts := xss) hi'
  have hle := B9 xss (i + 1)
  have hw : IntKind.i64.wrap (((xss.take i).flatten.length : Int) + (xss[i].length : Int)) = ((xss.take (i + 1)).flatten.length : Int) := by
   rw [e, List.length_append]; rw [e, List.length_append] at hle; exact (w64 (by omega) (by omega)).trans (by omega)
  have hng : ¬ (((xss.take (i + 1)).flatten.length : Int) < 0) := by omega
  have ih3 := ih (i + 1) (by omega) (by omega)
  clear ih
  repeat' first
    | refine EV.seq ?_
    | refine EV.skip ?_
    | refine EV.inBlock ?_
    | (refine EV.reg ?_; (conv => (arg 2; whnf)); (repeat first | refine nx ?_ | simp only [hw, hng]))
    | (refine cX (fun h => ?_) (fun h => ?_) <;> try exact Ah h)
    | (refine And.intro (by omega) ?_)
    | (refine xn ?_; (repeat first | refine nx ?_ | simp only [hw, hng]))
    | fail
  all_goals try (exfalso; omega)
  refine EV.to ih3 ?_ (List.Sublist.refl _)
  exact eE
 ·have hie : i = xss.length := by omega
  subst hie
  rw [List.take_length]
  clear ih
  repeat' first
    | fail
  refine Con.callB (G1 := []) (Yx xss.flatten.length hb) (Aa.le_refl _) (List.Perm.refl _) ?_
  rintro v M' G' ⟨ov0, rfl, hov0, rfl⟩
  (refine nx ?_; try with_reducible exact ⟨⟩)
  repeat' first
    | refine EV.seq ?_
    | refine EV.block ?_
    | refine rg ?_
    | exact ⟨⟩
    | fail
  refine EV.loopTo (fun x : Nat × Vec => ([(6, osv x.2 (xss.take x.1).flatten.length), (25, .slice a xss.length c), (26, vi xss.length), (27, vi x.1)], M, osg 3 x.2 ((xss.take x.1).flatten.map vi))) (fun x => x.1 ≤ xss.length ∧ E7 1 x.2 (xss.take x.1).flatten.length ((xss.take x.1).flatten.map vi)) (fun x => xss.length - x.1) (0, ov0) rfl ⟨Nat.zero_le _, hov0⟩ ?env2 (List.Sublist.refl _) ?_
  case env2 =>
   exact eE
  rintro ⟨i, ov⟩ ⟨hi, hov⟩ ih
  dsimp only at hi hov ih ⊢
  repeat' first
    | refine EV.seq ?_
    | refine EV.skip ?_
    | refine EV.block ?_
    | refine rg ?_
    | (refine cX (fun h => ?_) (fun h => ?_) <;> try exact Ah h)
    | (refine EV.exit rfl ?_)
    | exact ⟨⟩
    | fail
  ·have hi' : i < xss.length := by omega
   obtain ⟨pb, po, rfl, hat⟩ := Gw.at hrd hl hk (by omega)
   obtain ⟨a', c', hr1, hr2⟩ := hat i hi'
   rw [Nat.mul_one] at hr1
   rw [Av] at hr2
   have e := Dh (ts := xss) hi'
   have hle := B9 xss (i + 1)
   rw [e, List.length_append] at hle
   repeat' first
     | refine rg ?_
     | (refine And.intro (by omega) ?_)
     | (refine xn ?_; try refine nx ?_)
     | exact ⟨⟩
     | fail
   refine ⟨xss[i].map vi, Yb hr2, Yp _, Or.inl ⟨ov, _, rfl, _, hov, [], by simp, ?_, ?_, ?_⟩⟩
   ·simp only [maxLen]; omega
   ·omega
   intro o2 ho2 _
   (refine nx ?_; try with_reducible exact ⟨⟩)
   have ih3 := ih (i + 1, o2) ⟨by dsimp only; omega, by rw [e, List.length_append, List.map_append]; exact ho2⟩ (by dsimp only; omega)
   dsimp only at ih3
   rw [e, List.length_append, List.map_append] at ih3
   repeat' first
     | refine EV.inBlock ?_
     | refine rg ?_
     | exact ⟨⟩
     | fail
   refine EV.to ih3 ?_ eS
   exact eE
  ·have hie : i = xss.length := by omega
   subst hie
   rw [List.take_length] at hov ⊢
   (refine rt Q105_ok ?_; try with_reducible exact ⟨⟩)
   exact ⟨ov, rfl, hov, rfl⟩
theorem O4 (xs ys : List Int) (s t : Value) (hs : Sl M 1 ei s xs) (ht : Sl M 1 ei t ys) (hb : xs.length < 1000000) (hb2 : ys.length < 1000000) : Aq Tryz.prog 41 #[s, t] M (vb (decide (xs = ys))) := by
 obtain ⟨a, c, rfl, hrd⟩ := hs
 obtain ⟨a2, c2, rfl, hrd2⟩ := ht
 refine Con.enter Q107_ok (args := [.slice a xs.length c, .slice a2 ys.length c2]) (by simp [Bb3]) fun w0 => ?_
 simp only [Bb3, A3]
 repeat' first
   | refine EV.seq ?_
   | refine EV.skip ?_
   | refine EV.block ?_
   | refine rg ?_
   | (refine cX (fun h => ?_) (fun h => ?_) <;> try exact Ah h)
   | exact ⟨⟩
   | fail
 ·(refine rt Q107_ok ?_; try with_reducible exact ⟨⟩)
  rw [decide_eq_false (by rintro rfl; simp_all)]
 have hlen : xs.length = ys.length := by omega
 refine EV.loopTo (fun i : Nat => ([(0, .slice a xs.length c), (1, .slice a2 ys.length c2), (12, vi xs.length), (13, vi i)], M, [])) (fun i => i ≤ xs.length ∧ xs.take i = ys.take i) (fun i => xs.length - i) 0 rfl ⟨Nat.zero_le _, rfl⟩ ?env1 (List.Sublist.refl _) ?_
 case env1 =>
  exact eE
 rintro i ⟨hi, hsame⟩ ih
 dsimp only at hi hsame ih ⊢
 repeat' first
   | refine EV.seq ?_
   | refine EV.skip ?_
   | refine EV.block ?_
   | ((first | refine EV.reg ?_ | refine EV.any _ (List.Sublist.refl _) ?_ | fail); (conv => (arg 2; whnf)); refine nx ?_)
   | (refine cX (fun h => ?_) (fun h => ?_) <;> try exact Ah h)
   | (refine EV.exit rfl ?_)
   | exact ⟨⟩
   | fail
 ·have hi' : i < xs.length := by omega
  have hi2 : i < ys.length := by omega
  obtain ⟨wb, wo, rfl, hat⟩ := Sl.at (sz := 1) (enc := ei) (fun _ => rfl) (by decide) hrd (by omega)
  obtain ⟨wb2, wo2, rfl, hat2⟩ := Sl.at (sz := 1) (enc := ei) (fun _ => rfl) (by decide) hrd2 (by omega)
  have hri := hat i hi'
  have hri2 := hat2 i hi2
  rw [Nat.mul_one] at hri hri2
  have hi3 : (i : Int) < (ys.length : Int) := by omega
  repeat' first
    | refine EV.seq ?_
    | refine EV.skip ?_
    | refine EV.inBlock ?_
    | refine rg ?_
    | (refine cX (fun h => ?_) (fun h => ?_) <;> try exact Ah h)
    | (refine And.intro (by omega) ?_)
    | (refine xm ?_; try refine nx ?_)
    | exact ⟨⟩
    | fail
  ·(refine rt Q107_ok ?_; try with_reducible exact ⟨⟩)
   rw [decide_eq_false (by rintro rfl; simp_all)]
  ·refine EV.to (ih (i + 1) ⟨by omega, ?_⟩ (by omega)) ?_ (List.Sublist.refl _)
   ·rw [List.take_succ_eq_append_getElem hi', List.take_succ_eq_append_getElem hi2, hsame]; simp_all
   ·exact eE
 ·have hie : i = xs.length := by omega
  subst hie
  rw [List.take_length] at hsame
  (refine rt Q107_ok ?_; try with_reducible exact ⟨⟩)
  rw [decide_eq_true (by rw [hsame, hlen, List.take_length])]
end
end Go.EV

namespace Go.EV
open Go.Proofs
def thI (p : List Ev) (x : Int) : Int := (evAt p x.toNat).th
def E4 (p : List Ev) (l : List Int) (i : Nat) : Bool := (l.take i).any fun x => decide (thI p x = thI p (Ad l i))
def Cf (p : List Ev) : Nat → List Int → List (List Int)
 | 0, _ => [[]]
 | n + 1, l => (List.range (n + 1)).flatMap fun i => if E4 p l i then [] else (Cf p n (l.eraseIdx i)).map (Ad l i :: ·)
def Cy (p : List Ev) (l : List Int) : List (List Int) := Cf p l.length l
section
variable {M : Aa}
theorem Oc (p : List Ev) {pb po pc b1 b2 : Nat} {y : Int} (h1 : rd M b1 0 1 [.slice (some ⟨pb, po, none⟩) p.length pc]) (h2 : rd M b2 0 1 [vi y]) (hat : ∀ i, i < p.length → rd M pb (po + i * 6) 6 (A2 (evAt p i)))
  (x : Int) (hx : 0 ≤ x ∧ x < p.length) (hy : 0 ≤ y ∧ y < p.length) : Aq Tryz.prog 118 #[vi x, pv b1 0, pv b2 0] M (vb (decide (thI p x = thI p y))) := by
 have hx1 := (hat x.toNat (by omega)).pt 5 1 (by omega) rfl
 have hy1 := (hat y.toNat (by omega)).pt 5 1 (by omega) rfl
 refine Con.enter Q29_ok (args := [vi x, pv b1 0, pv b2 0]) (by simp [Q29]) fun w0 => ?_
 simp only [Q29, A3]
 repeat' first
   | refine EV.seq ?_
   | ((first | refine EV.reg ?_ | refine EV.any _ (List.Sublist.refl _) ?_ | fail); (conv => (arg 2; whnf)); refine nx ?_)
   | refine rt Q29_ok ?_
   | (refine And.intro (by omega) ?_)
   | ((first | refine xm ?_ | refine xn ?_ | fail); try refine nx ?_)
   | exact ⟨⟩
   | fail
 all_goals rfl
theorem Hh {G : Own} {T : TypeId} {ov : Vec} {n : Nat} {xs : List Int} (hok : E7 1 ov n (xs.map vi)) (hn : n = xs.length) (hG : ∀ q ∈ osg T ov (xs.map vi), q ∈ G) : SlC (M.add G) 1 ei (osv ov n) xs := by
 subst hn
 refine ⟨oad ov, Lt ov, rfl, ?_, ?_⟩
 ·cases ov with
  | none => exact Nat.le_of_eq hok.1
  | some q => exact hok.2.2.1
 ·rw [Av]; exact D7 hok hG
structure WalkB (p : List Ev) (M : Aa) (l yb pb wb : Nat) (ea : Option Addr) (ec : Nat) : Prop where
 hy : rd M yb 0 1 [yv l]
 hp : rd M pb 0 1 [.slice ea p.length ec]
 hw : rd M wb 0 1 [.func (.func 116) #[] #[pv yb 0, pv pb 0, pv wb 0]]
 hat : 0 < p.length → ∃ eb eo, ea = some ⟨eb, eo, none⟩ ∧ ∀ i, i < p.length → rd M eb (eo + i * 6) 6 (A2 (evAt p i))
theorem WalkB.mono {p : List Ev} {M M' : Aa} {l yb pb wb : Nat} {ea : Option Addr} {ec : Nat} (h : WalkB p M l yb pb wb ea ec) (hM : M.le M') : WalkB p M' l yb pb wb ea ec :=
 ⟨h.hy.mono hM, h.hp.mono hM, h.hw.mono hM, fun h0 => let ⟨eb, eo, e, k⟩ := h.hat h0; ⟨eb, eo, e, fun i hi => (k i hi).mono hM⟩⟩
set_option maxHeartbeats 4000000 in
theorem Yy (p : List Ev) (hpl : p.length < 1000000) {l yb pb wb : Nat} {ea : Option Addr} {ec : Nat} {L : List (List Int)} {I : List (List Int) → Aa → Own → Prop} {S : Aa → Own → Prop} {M0 : Aa}
  (hmono : ∀ xs M2 M3 G2, M2.le M3 → I xs M2 G2 → I xs M3 G2)
  (hy : ∀ xs x, x ∈ L → ∀ M2 G2 v, M0.le M2 → I xs M2 G2 → SlC M2 1 ei v x → Kl Tryz.prog l #[v] M2 G2 fun b M3 G3 => (b = .bool true ∧ I (xs ++ [x]) M3 G3) ∨ (b = .bool false ∧ S M3 G3)) :
  ∀ (n : Nat) (left out : List Int) (xs : List (List Int)) (M : Aa) (G : Own) (ov lv : Value), left.length = n → out.length + n < 1000000 → M0.le M → WalkB p M l yb pb wb ea ec → He p left → SlC M 1 ei ov out → SlC M 1 ei lv left →
   (∀ m ∈ Cf p n left, out ++ m ∈ L) → I xs M G →
   Con Tryz.prog 116 #[ov, lv, pv yb 0, pv pb 0, pv wb 0] M G fun v M' G' => (v = .bool true ∧ I (xs ++ (Cf p n left).map (out ++ ·)) M' G') ∨ (v = .bool false ∧ S M' G') := by
 intro n
 induction n with
 | zero =>
  intro left out xs M G ov lv hn hol hM hw hin hov hlv hL hI
  have hov0 := hov
  obtain ⟨oa, oc, rfl, hoc, hor⟩ := hov
  obtain ⟨la, lc, rfl, hlc, hlr⟩ := hlv
  have hwy := hw.hy
  refine Con.enter Q28_ok (args := [.slice oa out.length oc, .slice la left.length lc, pv yb 0, pv pb 0, pv wb 0]) (by simp [Q28]) fun w0 => ?_
  simp only [Q28, A3]
  repeat' first
    | refine EV.seq ?_
    | (refine EV.reg ?_; (conv => (arg 2; whnf)); (repeat first | refine nx ?_ | simp only [hn]))
    | (refine cX (fun h => ?_) (fun h => ?_) <;> try exact Ah h)
    | fail
  refine EV.any (t := Ap6) [] (List.nil_sublist _) ?_
  (repeat first | refine nx ?_ | simp only [Ap6])
  refine ⟨_, hwy.mono (Aa.le_add _ _), ?_⟩
  refine Con.callS (G1 := []) (Ft out _ hov0.sl (by omega)) ?_
  rintro v1 M1 G1 hM1 ⟨o1, rfl, ho1, rfl⟩
  (refine nx ?_; try with_reducible exact ⟨⟩)
  refine ⟨hM1, fun q hq => absurd hq List.not_mem_nil, ?_⟩
  refine E0.keep G ?_
  have hmem : out ∈ L := by have := hL [] (by simp [Cf]); simpa using this
  have hsl : SlC (M1.add (osg 3 o1 (out.map vi))) 1 ei (osv o1 out.length) out := by
   refine ⟨oad o1, Lt o1, rfl, ?_, ?_⟩
   ·cases o1 with
    | none => exact Nat.le_of_eq ho1.1
    | some q => exact ho1.2.2.1
   ·rw [Av]; exact D7 ho1 (fun q hq => by simpa using hq)
  refine Kl.run (hy xs out hmem _ G _ (Aa.le_trans hM (Aa.le_trans hM1 (Aa.le_add _ _))) (hmono _ _ _ _ (Aa.le_trans hM1 (Aa.le_add _ _)) hI) (by simpa using hsl)) ?_
  rintro b M2 G2 hM2 hb
  (refine rt Q28_ok ?_; try with_reducible exact ⟨⟩)
  simpa [Cf] using hb
 | succ n ihn =>
  intro left out xs M G ov lv hn hol hM hw hin hov hlv hL hI
  have hov0 := hov
  have hlv0 := hlv
  obtain ⟨oa, oc, rfl, hoc, hor⟩ := hov
  obtain ⟨la, lc, rfl, hlc, hlr⟩ := hlv
  obtain ⟨wb1, wo1, rfl, hatl⟩ := Sl.at (sz := 1) (enc := ei) (fun _ => rfl) (by decide) hlr (by omega)
  have hatl := Cd hatl
  refine Con.enter Q28_ok (args := [.slice oa out.length oc, .slice (some ⟨wb1, wo1, none⟩) left.length lc, pv yb 0, pv pb 0, pv wb 0]) (by simp [Q28]) fun w0 => ?_
  simp only [Q28, A3]
  have hne : decide ((left.length : Int) = 0) = false := decide_eq_false (by omega)
  repeat' first
    | refine EV.seq ?_
    | refine EV.skip ?_
    | refine EV.block ?_
    | (refine EV.reg ?_; (conv => (arg 2; whnf)); (repeat first | refine nx ?_ | simp only [hne]))
    | (refine cX (fun h => ?_) (fun h => ?_) <;> try exact Ah h)
    | fail
  refine EV.loopTo (fun x : Nat × Aa × Own => ([(0, .slice oa out.length oc), (1, .slice (some ⟨wb1, wo1, none⟩) left.length lc), (2, pv yb 0), (3, pv pb 0), (4, pv wb 0), (18, .slice (some ⟨wb1, wo1, none⟩) left.length lc), (19, vi left.length), (20, vi x.1)], x.2.1, x.2.2))
   (fun x => x.1 ≤ left.length ∧ M.le x.2.1 ∧ I (xs ++ ((List.range x.1).flatMap fun i => if E4 p left i then [] else (Cf p n (left.eraseIdx i)).map (Ad left i :: ·)).map (out ++ ·)) x.2.1 x.2.2) (fun x => left.length - x.1) (0, M, G) rfl ⟨Nat.zero_le _, Aa.le_refl _, by simpa using hI⟩ ?env1 (List.Sublist.refl _) ?_
  case env1 =>
   exact eE
  rintro ⟨i, Mi, Gi⟩ ⟨hi, hMi, hIi⟩ ih
  dsimp only at hi hMi hIi ih ⊢
  repeat' first
    | refine EV.seq ?_
    | refine EV.skip ?_
    | refine EV.block ?_
    | refine rg ?_
    | (refine cX (fun h => ?_) (fun h => ?_) <;> try exact Ah h)
    | (refine EV.exit rfl ?_)
    | (refine And.intro (by omega) ?_)
    | exact ⟨⟩
    | fail
  ·have hi' : i < left.length := by omega
   have hli := (hatl i hi').mono hMi
   repeat' first
     | ((first | with_reducible intro b | refine xm ?_ | fail); try refine nx ?_)
     | (refine xw ?_; refine nx ?_)
     | exact ⟨⟩
     | fail
   rename Nat => xb
   refine EV.keep Gi ?_
   generalize hN : Mi.add _ = N
   have hMN : Mi.le N := hN ▸ Aa.le_add _ _
   have hrx : rd N xb 0 1 [vi (Ad left i)] := hN ▸ Bz (T := 3) (cs := [vi (Ad left i)]) (by simp) rfl (by simp)
   have hIN := hmono _ _ _ _ hMN hIi
   have hwN := (hw.mono hMi).mono hMN
   clear hN
   have hMN0 := Aa.le_trans hMi hMN
   refine EV.seq ?_
   repeat' first
     | refine rg ?_
     | exact ⟨⟩
     | fail
   simp only [Option.map_some, Ch]
   refine ⟨i, rfl, by omega, Or.inl rfl, ?_⟩
   rw [Ar7]
   have hlN := (hlr.mono hMN0)
   have hpre : Sl N 1 ei (.slice (some ⟨wb1, wo1, none⟩) i lc) (left.take i) := by
    refine ⟨some ⟨wb1, wo1, none⟩, lc, by rw [List.length_take, Nat.min_eq_left (by omega)], ?_⟩
    rw [List.length_take, Nat.min_eq_left (by omega), Av, List.map_take]
    rw [Av] at hlN
    exact hlN.pre (by omega)
   have hiin := Er hin hi'
   refine Aq.call (J6 (left.take i) _ (hpre.mono (Aa.le_add _ _)) (by simp; omega) _ _ (fun x => decide (thI p x = thI p (Ad left i))) ?_) ?_
   ·intro M' hM' x hx
    have hle := Aa.le_trans (Aa.le_add N Gi) hM'
    obtain ⟨eb, eo, e0, hat0⟩ := (hwN.mono hle).hat (by omega)
    have := Oc p (e0 ▸ (hwN.mono hle).hp) (hrx.mono hle) hat0 x (hin x (List.mem_of_mem_take hx)) hiin
    simpa using this
   rw [show (left.take i).any (fun x => decide (thI p x = thI p (Ad left i))) = E4 p left i from rfl]
   generalize hbl : E4 p left i = bl
   refine EV.seq ?_
   cases bl with
   | true =>
    refine EV.any (t := Ap7) [] (List.nil_sublist _) ?_
    simp only [Am, Au, Al, As, reduceIte, Nat.reduceEqDiff]
    repeat' first
      | ((refine L3 (by first | with_reducible assumption | rfl) rfl ?_ (fun lq hlq hc => ?_) (fun lq hlq => ?_); rotate_left) <;> (try (exfalso; simp at hc; done)) <;> (repeat first | refine nz ?_ | simp only [Bool.not_true]))
      | ((first | refine zo (fun lq hlq => ?_) | refine zl ?_ | fail); (repeat first | refine nz ?_ | simp only [Bool.not_true]))
      | refine zq (fun lq tq hlq htq => ?_)
      | refine zf ?_
      | refine Ck9 (by first | with_reducible assumption | rfl) (fun tq htq => ?_)
      | ((refine Ab7 (by first | with_reducible assumption | rfl) rfl (fun tq htq h => ?_) (fun tq htq h => ?_)) <;> try (exfalso; simp at h; done))
      | exact false
      | fail
    have ih3 := ih (i + 1, N, Gi) ⟨by dsimp only; omega, hMN0, ?_⟩ (by dsimp only; omega)
    ·dsimp only at ih3
     repeat' first
       | refine EV.skip ?_
       | refine EV.inBlock ?_
       | (refine EV.reg ?_; (conv => (arg 2; whnf)); (repeat first | refine nx ?_ | simp only [Bool.false_and]))
       | (refine cX (fun h => ?_) (fun h => ?_) <;> try exact Ah h)
       | fail
     refine EV.toS ih3 ?_
     exact eE
    ·rw [List.range_succ, List.flatMap_append, List.flatMap_singleton, if_pos hbl, List.append_nil]
     exact hIN
   | false =>
    refine EV.any (t := Ap7) [] (List.nil_sublist _) ?_
    simp only [Am, Au, Al, As, reduceIte, Nat.reduceEqDiff]
    repeat' first
      | ((first | refine zo (fun lq hlq => ?_) | refine zl ?_ | fail); (repeat first | refine nz ?_ | simp only [Bool.not_false]))
      | refine zq (fun lq tq hlq htq => ?_)
      | ((first | refine Exists.intro _ (And.intro (Ai8 hwN.hw) ?_) | refine Exists.intro _ (And.intro (Yw oa out.length oc hoc) ?_) | fail); (repeat first | refine nz ?_ | simp only [Bool.not_false]))
      | ((refine Ab7 (by first | with_reducible assumption | rfl) rfl (fun tq htq h => ?_) (fun tq htq h => ?_)) <;> try (exfalso; simp at h; done))
      | (refine xm ?_; (repeat first | refine nz ?_ | simp only [Bool.not_false]))
      | fail
    simp only [Option.map_some, Ch]
    refine ⟨i, rfl, by omega, Or.inl rfl, ?_⟩
    repeat' first
      | ((first | refine zo (fun lq hlq => ?_) | refine zl ?_ | fail); try refine nz ?_)
      | refine zq (fun lq tq hlq htq => ?_)
      | exact ⟨⟩
      | fail
    simp only [Option.map_some, Ch]
    have hw1 : IntKind.i64.wrap ((i : Int) + 1) = ((i + 1 : Nat) : Int) := w64 (by omega) (by omega)
    refine ⟨i + 1, by rw [hw1], by omega, hlc, Or.inr rfl, ?_⟩
    obtain ⟨ro, hro', ero⟩ := P4 (wb := wb1) (wo := wo1) (n := left.length) (c := lc) (i := i + 1) hlc
    rw [Ar7, ero]
    have horN : rdS N 1 oa out.length (out.map vi) := by
     have := hor.mono hMN0
     rwa [Av] at this
    have hsuf : rdS N 1 (some ⟨wb1, ro, none⟩) (left.length - (i + 1)) ((left.drop (i + 1)).map vi) := by
     by_cases hlt : i + 1 < left.length
     ·rw [hro' hlt]
      rcases hlN with ⟨h0, _⟩ | ⟨b', o', e', hr'⟩
      ·omega
      ·cases e'
       refine Or.inr ⟨wb1, wo1 + (i + 1), rfl, ?_⟩
       rw [Av, Nat.mul_one] at hr'
       rw [Nat.mul_one, List.map_drop]
       exact hr'.suf (by omega)
     ·refine Or.inl ⟨by omega, ?_⟩
      rw [List.drop_eq_nil_of_le (by omega)]; rfl
    repeat' first
      | (refine zl ?_; try refine nz ?_)
      | refine zq (fun lq tq hlq htq => ?_)
      | (refine Vc (by first | with_reducible assumption | rfl) (fun tq htq => ?_) (fun tq htq => ?_) <;> try refine nz ?_)
      | exact zn
      | ((first | with_reducible intro b | refine And.intro (Aa.le_refl _) (And.intro (Ba ?_) ?_); focus ((repeat' first | exact List.Sublist.refl _ | exact List.nil_sublist _ | exact List.sublist_append_left _ _ | refine List.Sublist.cons_cons _ ?_ | refine List.Sublist.append_left ?_ _ | refine List.sublist_append_of_sublist_right ?_ | refine List.Sublist.cons _ ?_); done) | fail); try refine nz ?_)
      | exact ⟨⟩
      | fail
    all_goals
     refine ⟨[vi (Ad left i)], Or.inr ⟨_, 0, rfl, Bz (T := 3) (cs := [vi (Ad left i)]) (by simp) rfl (by simp)⟩, by simp [B6, C7, Value.oneCell'], Or.inr ⟨oa, out.length, out.length, rfl, out.map vi, Yb horN, by omega, by omega, by simp only [maxLen]; omega, by omega, fun b1 cap sp hok => ?_⟩⟩
     repeat' first
       | (refine zl ?_; try refine nz ?_)
       | refine zq (fun lq tq hlq htq => ?_)
       | (refine Vc (by first | with_reducible assumption | rfl) (fun tq htq => ?_) (fun tq htq => ?_) <;> try refine nz ?_)
       | exact zn
       | ((first | with_reducible intro b | refine And.intro (Aa.le_refl _) (And.intro (Ba ?_) ?_); focus ((repeat' first | exact List.Sublist.refl _ | exact List.nil_sublist _ | exact List.sublist_append_left _ _ | refine List.Sublist.cons_cons _ ?_ | refine List.Sublist.append_left ?_ _ | refine List.sublist_append_of_sublist_right ?_ | refine List.Sublist.cons _ ?_); done) | fail); try refine nz ?_)
       | exact ⟨⟩
       | fail
     refine Con.callB (G1 := []) (T4 [left.take i, left.drop (i + 1)] _ ⟨_, _, [.slice (some ⟨wb1, wo1, none⟩) i lc, .slice (some ⟨wb1, ro, none⟩) (left.length - (i + 1)) (lc - (i + 1))], rfl, rfl, Or.inr ⟨_, 0, rfl, Bz (T := 34) (cs := [.slice (some ⟨wb1, wo1, none⟩) i lc, .slice (some ⟨wb1, ro, none⟩) (left.length - (i + 1)) (lc - (i + 1))]) (by simp) rfl (by simp)⟩, ?_⟩ ?_ (by simp)) (Aa.le_refl _) (List.Perm.refl _) ?_
     ·intro k hk1 hk2
      match k, hk2 with
      | 0, _ => exact hpre.mono (Aa.le_add _ _)
      | 1, _ => exact ⟨some ⟨wb1, ro, none⟩, lc - (i + 1), by simp, by rw [Av, show ([left.take i, left.drop (i + 1)] : List (List Int))[1].length = left.length - (i + 1) from by simp]; exact Yb hsuf⟩
     ·simp only [List.flatten_cons, List.flatten_nil, List.append_nil, List.length_append, List.length_take, List.length_drop]; omega
     rintro v2 M2 G2 ⟨o2, rfl, ho2, rfl⟩
     have hfl2 : [left.take i, left.drop (i + 1)].flatten = left.eraseIdx i := by simp [List.eraseIdx_eq_take_drop_succ]
     rw [hfl2] at ho2 ⊢
     refine ⟨Aa.le_refl _, fun q hq => absurd hq List.not_mem_nil, ?_⟩
     repeat' first
       | (refine zl ?_; try refine nz ?_)
       | refine zq (fun lq tq hlq htq => ?_)
       | (refine Ea (by first | with_reducible assumption | rfl) (fun tq htq => ?_) (fun tq htq => ?_) <;> try refine nz ?_)
       | exact zn
       | exact ⟨⟩
       | fail
     refine Dr.keep Gi ?_
     generalize hR : N.add _ = N2
     have hNN2 : N.le N2 := hR ▸ Aa.le_add _ _
     have hso : SlC N2 1 ei (osv (some (b1, cap, sp)) (out.length + 1)) (out ++ [Ad left i]) := hR ▸ Hh (T := 3) (by simpa using hok) (by simp) (by simp [osg])
     have hsl : SlC N2 1 ei (osv o2 (left.eraseIdx i).length) (left.eraseIdx i) := hR ▸ Hh (T := 3) ho2 rfl (fun q hq => by simp [hq])
     clear hR
     refine Con.run (ihn (left.eraseIdx i) (out ++ [Ad left i]) (xs ++ ((List.range i).flatMap fun i => if E4 p left i then [] else (Cf p n (left.eraseIdx i)).map (Ad left i :: ·)).map (out ++ ·)) N2 Gi _ _ (by rw [List.length_eraseIdx_of_lt hi']; omega) (by simp; omega) (Aa.le_trans hM (Aa.le_trans hMN0 hNN2)) (hwN.mono hNN2) (fun y hy2 => hin y (List.mem_of_mem_eraseIdx hy2)) hso hsl ?_ (hmono _ _ _ _ hNN2 hIN)) ?_
     ·intro m hm
      rw [List.append_assoc]
      refine hL _ ?_
      simp only [Cf, List.mem_flatMap, List.mem_range]
      exact ⟨i, by omega, by rw [if_neg (by rw [hbl]; simp)]; exact List.mem_map.2 ⟨m, hm, rfl⟩⟩
     rintro v3 M3 G3 hM3 (⟨rfl, hI3⟩ | ⟨rfl, hS3⟩)
     ·repeat' first
       | ((refine L3 (by first | with_reducible assumption | rfl) rfl ?_ (fun lq hlq hc => ?_) (fun lq hlq => ?_); rotate_left) <;> (try (exfalso; simp at hc; done)) <;> (repeat first | refine nz ?_ | simp only [Bool.not_true]))
       | ((first | refine zo (fun lq hlq => ?_) | refine zl ?_ | fail); (repeat first | refine nz ?_ | simp only [Bool.not_true]))
       | refine zq (fun lq tq hlq htq => ?_)
       | refine zf ?_
       | with_reducible rfl
       | fail
      repeat' first
        | refine EV.skip ?_
        | refine EV.inBlock ?_
        | (refine EV.reg ?_; (conv => (arg 2; whnf)); (repeat first | refine nx ?_ | simp only [Bool.true_and, Bool.and_false]))
        | (refine cX (fun h => ?_) (fun h => ?_) <;> try exact Ah h)
        | fail
      have ih3 := ih (i + 1, M3, G3) ⟨by dsimp only; omega, Aa.le_trans hMN0 (Aa.le_trans hNN2 hM3), by
       dsimp only
       rw [List.range_succ, List.flatMap_append, List.flatMap_singleton, if_neg (by rw [hbl]; simp), List.map_append, ← List.append_assoc, List.map_map]
       have e : (Cf p n (left.eraseIdx i)).map ((out ++ ·) ∘ (Ad left i :: ·)) = (Cf p n (left.eraseIdx i)).map ((out ++ [Ad left i]) ++ ·) := by
        apply List.map_congr_left; intro y _; simp
       rw [e]; exact hI3⟩ (by dsimp only; omega)
      dsimp only at ih3
      refine EV.toS ih3 ?_
      exact eE
     ·repeat' first
       | ((refine L3 (by first | with_reducible assumption | rfl) rfl ?_ (fun lq hlq hc => ?_) (fun lq hlq => ?_); rotate_left) <;> (try (exfalso; simp at hc; done)) <;> (repeat first | refine nz ?_ | simp only [Bool.not_false]))
       | ((first | refine zo (fun lq hlq => ?_) | refine zl ?_ | fail); (repeat first | refine nz ?_ | simp only [Bool.not_false]))
       | refine zq (fun lq tq hlq htq => ?_)
       | refine zf ?_
       | with_reducible rfl
       | fail
      repeat' first
        | refine EV.seq ?_
        | (refine EV.reg ?_; (conv => (arg 2; whnf)); (repeat first | refine nx ?_ | simp only [Bool.true_and]))
        | (refine cX (fun h => ?_) (fun h => ?_) <;> try exact Ah h)
        | fail
      (refine rt Q28_ok ?_; try with_reducible exact ⟨⟩)
      exact Or.inr hS3
  ·have hie : i = left.length := by omega
   subst hie
   (refine rt Q28_ok ?_; try with_reducible exact ⟨⟩)
   left
   rw [hn] at hIi
   exact hIi
def ElI (x : List Int) (v : Value) (M : Aa) : Prop := SlC M 1 ei v x
theorem Ru (p : List Ev) (hpl : p.length < 1000000) {ps ls : Value} {l : List Int} {pb lb : Nat} (hps : Sl M 6 A2 ps p) (hls : SlC M 1 ei ls l) (hin : He p l) (hll : l.length < 1000000)
  (h1 : rd M pb 0 1 [ps]) (h2 : rd M lb 0 1 [ls]) : Yn Tryz.prog 115 #[] #[pv pb 0, pv lb 0] M (Cy p l) ElI := by
 intro ly I S M1 G hM hmono hy xs hI
 have h1' := h1.mono hM
 have h2' := h2.mono hM
 have hls' := hls.mono hM
 obtain ⟨ea, ec, rfl, hpr⟩ := hps
 refine Con.enter Q27_ok (args := [yv ly, pv pb 0, pv lb 0]) (by simp [Q27]) fun w0 => ?_
 simp only [Q27, A3]
 refine EV.seq (EV.reg ?_)
 (repeat first | refine nx ?_ | simp only [Cd2])
 intro yb
 refine EV.seq (EV.reg ?_)
 (repeat first | refine nx ?_ | simp only [Cd3])
 intro wb
 refine EV.seq ?_
 repeat' first
   | refine rg ?_
   | (refine xiA rfl ?_; try refine nx ?_)
   | (refine xw ?_; refine nx ?_)
   | exact ⟨⟩
   | fail
 obtain ⟨la, lc, rfl, hlc, hlr⟩ := hls'
 refine ⟨_, _, _, Ai8 h2', ?_⟩
 refine Dr.keep G ?_
 generalize hR : M1.add _ = N
 have hMN : M1.le N := hR ▸ Aa.le_add _ _
 have hw : WalkB p N ly yb pb wb ea ec := by
  refine ⟨hR ▸ Bz (T := 151) (cs := [yv ly]) (by simp) rfl (by simp), h1'.mono hMN, hR ▸ Bz (T := 50) (cs := [.func (.func 116) #[] #[pv yb 0, pv pb 0, pv wb 0]]) (by simp) rfl (by simp), fun h0 => ?_⟩
  obtain ⟨eb, eo, e, hat⟩ := Sl.at (enc := A2) (fun _ => rfl) (by decide) hpr h0
  exact ⟨eb, eo, e, fun i hi => (Sl.evAt hat i hi).mono (Aa.le_trans hM hMN)⟩
 clear hR
 refine Con.run (Yy p hpl (L := Cy p l) hmono (fun xs x hx M2 G2 v h3 h4 h5 => hy xs x hx M2 G2 v (Aa.le_trans hMN h3) h4 h5) l.length l [] xs N G _ _ rfl (by simp; omega) (Aa.le_refl _) hw hin ⟨none, 0, rfl, Nat.le_refl _, .inl ⟨rfl, rfl⟩⟩ ⟨la, lc, rfl, hlc, hlr.mono hMN⟩ (fun m hm => by simpa [Cy] using hm) (hmono _ _ _ _ hMN hI)) ?_
 intro v M' G' hM' hv
 refine EV.done Q27_ok ?_
 (repeat first | refine nx ?_ | simp only [Q27])
 rcases hv with ⟨rfl, hv⟩ | ⟨rfl, hv⟩
 ·left; simpa [Cy] using hv
 ·right; exact hv
def Its {α : Type} (L : List α) (El : α → Value → Aa → Prop) (v : Value) (M : Aa) (_ : Own) : Prop := ∃ g caps, v = .func (.func g) #[] caps ∧ Yn Tryz.prog g #[] caps M L El
theorem Me (p : List Ev) (hpl : p.length < 1000000) {ps ls : Value} {l : List Int} (hps : Sl M 6 A2 ps p) (hls : SlC M 1 ei ls l) (hin : He p l) (hll : l.length < 1000000) :
  Con Tryz.prog 82 #[ps, ls] M [] (Its (Cy p l) ElI) := by
 refine Con.enter Q26_ok (args := [ps, ls]) (by simp [Q26]) fun w0 => ?_
 simp only [Q26, A3]
 have hps0 := hps
 have hls0 := hls
 obtain ⟨ea, ec, rfl, hpr⟩ := hps
 obtain ⟨la, lc, rfl, hlc, hlr⟩ := hls
 repeat' first
   | refine EV.seq ?_
   | refine rg ?_
   | (with_reducible intro b; try refine nx ?_)
   | exact ⟨⟩
   | fail
 refine EV.keep [] ?_
 generalize hR : M.add _ = N
 have hMN : M.le N := hR ▸ Aa.le_add _ _
 (refine rt Q26_ok ?_; try with_reducible exact ⟨⟩)
 refine ⟨_, _, rfl, Ru p hpl (hps0.mono hMN) (hls0.mono hMN) hin hll ?_ ?_⟩
 ·exact hR ▸ Bz (T := 74) (cs := [.slice ea p.length ec]) (by simp) rfl (by simp)
 ·exact hR ▸ Bz (T := 34) (cs := [.slice la l.length lc]) (by simp) rfl (by simp)
end
end Go.EV
