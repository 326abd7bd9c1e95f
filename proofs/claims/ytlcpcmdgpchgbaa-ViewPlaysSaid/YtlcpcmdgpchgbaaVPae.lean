/- A read. The reference: ref03.Expand. The reference's machine of views: place, join. The reference's machine in memory. The reference: choices. The reference's machine: what it tells. The reference's machine: Words, Outcome. slices.Insert of one new element. The machine of views keeps its shape, and what a thread has seen never falls. A write. The reference: fence. The reference: put. The reference: write. The reference: write, of what reads. The reference's machine: its steps, and what holds at all times. A new machine is in shape. -/
import Derived.Test.YtlcpcmdgpchgbaaVPad
import Derived.Lib.Overlaps
import Derived.Laws.Externs
set_option maxRecDepth 8000
set_option linter.unusedSimpArgs false
set_option linter.unusedVariables false
namespace Go.EV
open Go.Proofs

theorem cat_perm {α : Type} {l1 l2 : List (List α)} (h : l1.Perm l2) : (cat l1).Perm (cat l2) := by
  induction h with
  | nil => exact List.Perm.refl _
  | cons x _ ih => rw [cat_cons, cat_cons]; exact List.Perm.append_left _ ih
  | swap x y l => rw [cat_cons, cat_cons, cat_cons, cat_cons]; exact perm_pull _ _ _
  | trans _ _ h1 h2 => exact h1.trans h2

theorem cat_move {α : Type} (l : List (List α)) (i j : Nat) (hi : i < l.length) (hj : j ≤ (l.eraseIdx i).length) : (cat l).Perm (cat ((l.eraseIdx i).insertIdx j l[i])) :=
  (cat_pull l i hi).trans (by
    have := cat_perm (List.perm_insertIdx l[i] (l.eraseIdx i) hj)
    rw [cat_cons] at this
    exact this.symm)

theorem sub4 {α : Type} {a b c d : α} {l l' : List α} (h : l.Sublist l') : (a :: b :: c :: d :: l).Sublist (a :: b :: c :: d :: l') := by simpa using h

section
variable {M : PHeap} {G : Own} {mp : Nat} {B : Nat}

theorem msg_part (msgs : List Msg) (sp : List Value) {n : Nat} (hn : n < msgs.length) : ((msgs.flatMap encMsg ++ sp).drop (n * 5)).take 5 = encMsg msgs[n]! := by
  have hl : (msgs.flatMap encMsg).length = msgs.length * 5 := flatMap_length (enc := encMsg) (fun _ => rfl) msgs
  rw [List.drop_append_of_le_length (by omega), List.take_append_of_le_length (by rw [List.length_drop]; omega), flatMap_part (enc := encMsg) (fun _ => rfl) hn, getB hn]

theorem rd_ms {b : Nat} {T : TypeId} {msgs : List Msg} {sp : List Value} {n : Nat} (hn : n < msgs.length) [h : At G b T (msgs.flatMap encMsg ++ sp)] : rd (M.add G) b (n * 5) 5 (encMsg msgs[n]!) := by
  have hl : (msgs.flatMap encMsg).length = msgs.length * 5 := flatMap_length (enc := encMsg) (fun _ => rfl) msgs
  exact rd_at h.mem (msg_part msgs sp hn) (by rw [List.length_append]; omega)
theorem rd_ms_word {b : Nat} {T : TypeId} {msgs : List Msg} {sp : List Value} {n : Nat} (hn : n < msgs.length) [h : At G b T (msgs.flatMap encMsg ++ sp)] : rd (M.add G) b (n * 5) 1 [vi msgs[n]!.word] := (rd_ms (T := T) (sp := sp) hn).part' 0 1 (by omega) rfl
theorem rd_ms_view {b : Nat} {T : TypeId} {msgs : List Msg} {sp : List Value} {n : Nat} (hn : n < msgs.length) [h : At G b T (msgs.flatMap encMsg ++ sp)] : rd (M.add G) b (n * 5 + 1) 3 (encV msgs[n]!.view) := (rd_ms (T := T) (sp := sp) hn).part' 1 3 (by omega) rfl

def readsThr (line : Nat → List Int) (s : Msg) (t : Thr) (number : Int) (o : OpV) : Thr :=
  let now1 := upd t.now o.loc.toNat number
  let now2 := if acqP o.ord then joinV line now1 s.view else now1
  ⟨now2, joinV line (joinV line t.gained s.view) now2, t.given, t.read ++ [s.word], t.next⟩

set_option maxRecDepth 8000 in
set_option maxHeartbeats 4000000 in
theorem view_reads_c (p : PM) (ok : p.Ok) (wf : p.vm.Wf B) {w : Nat} (hw : w < p.pt.length) {n : Nat} (hn : n < p.msgs.length) (o : OpV) (ho : okOpE o) : Con Try.prog 67 #[pv mp 0, vi w, vi n, vop o] M (p.G mp) fun v _ G' =>
    ∃ p' : PM, G' = p'.G mp ∧ p'.Ok ∧ p'.vm = p.vm.reads w n o ∧ p'.pg = p.pg ∧ p'.pc = p.pc := by
  have hb : ∀ l, l < 3 → (p.line l).length < 1000000 := fun l hl => by have h1 := wf.ll l hl; have h2 := wf.b0; simp only [PM.vm] at h1; omega
  have hrb := wf.rb
  have hB := wf.b0
  obtain ⟨kd, lo, v, w', od⟩ := o
  obtain ⟨o1, o2, o3, o4, o5⟩ := ho
  dsimp only at o1 o2 o3 o4 o5
  obtain ⟨l, rfl⟩ : ∃ l : Nat, lo = l := ⟨lo.toNat, by omega⟩
  have hl : l < 3 := by omega
  obtain ⟨pg, pc, mv, lv, tv, prog, msgs, line, all, pt⟩ := p
  obtain ⟨pA, ⟨t, ov⟩, pC, rfl, hpA⟩ := PM.split pt w hw
  have hA : (pA.flatMap encPT).length = w * 11 := by rw [encPT_len, hpA]
  dsimp only at hb hw hn
  have hrl : t.read.length ≤ B := hrb t (by simp [PM.vm])
  have hov := ok.rk (t, ov) (by simp)
  refine Con.enter Q84_ok (args := [pv mp 0, vi w, vi n, vop ⟨kd, l, v, w', od⟩]) (by simp [Q84]) fun w0 => ?_
  simp only [Q84, argE, PM.G]
  rw [tc_of, rdsG_at]
  repeat' first
      | refine EV.seq ?_
      | (refine EV.reg ?_; (conv => (arg 2; whnf)); simp only [push_cast, Int.cast_ofNat_Int, reduceIte, Nat.reduceEqDiff, reduceCtorEq, Nat.reduceAdd, Nat.reduceSub, Nat.reduceMul, Int.reduceToNat, Nat.reduceLeDiff, tc_len hA, hd_len, encV_len, ok1_encV, tc_st_read hA])
      | ((first | refine Exists.intro _ (Exists.intro _ (Exists.intro _ (And.intro (rd_hd_th) ?_))) | with_reducible intro b | fail); try simp only [push_cast, Int.cast_ofNat_Int, reduceIte, Nat.reduceEqDiff, reduceCtorEq, Nat.reduceAdd, Nat.reduceSub, Nat.reduceMul, Int.reduceToNat, Nat.reduceLeDiff, tc_len hA, hd_len, encV_len, ok1_encV, tc_st_read hA])
      | (refine And.intro (by omega) ?_)
      | fail
  refine EV.any (t := Q84_2) _ (sub4 (List.Sublist.append_left (List.Sublist.append_left (List.sublist_append_right _ _) _) _)) ?_
  simp only [push_cast, Int.cast_ofNat_Int, reduceIte, Nat.reduceEqDiff, reduceCtorEq, Nat.reduceAdd, Nat.reduceSub, Nat.reduceMul, Int.reduceToNat, Nat.reduceLeDiff, Q84_2]
  repeat' first
      | ((first | refine Exists.intro _ (And.intro (rd_ms_word hn) ?_) | refine Exists.intro _ (Exists.intro _ (Exists.intro _ (And.intro (rd_hd_ms) ?_))) | refine Exists.intro _ (Exists.intro _ (Exists.intro _ (And.intro (rd_tc_read hA) ?_))) | with_reducible intro b | fail); try simp only [push_cast, Int.cast_ofNat_Int, reduceIte, Nat.reduceEqDiff, reduceCtorEq, Nat.reduceAdd, Nat.reduceSub, Nat.reduceMul, Int.reduceToNat, Nat.reduceLeDiff, tc_len hA, hd_len, encV_len, ok1_encV, tc_st_read hA])
      | (refine And.intro (by omega) ?_)
      | (refine And.intro (PHeap.le_refl _) (And.intro (mem_of_sub ?_) ?_); focus ((repeat' first | exact List.Sublist.refl _ | exact List.nil_sublist _ | exact List.sublist_append_left _ _ | refine List.Sublist.cons_cons _ ?_ | refine List.Sublist.append_left ?_ _ | refine List.sublist_append_of_sublist_right ?_ | refine List.Sublist.cons _ ?_); done); try simp only [push_cast, Int.cast_ofNat_Int, reduceIte, Nat.reduceEqDiff, reduceCtorEq, Nat.reduceAdd, Nat.reduceSub, Nat.reduceMul, Int.reduceToNat, Nat.reduceLeDiff, tc_len hA, hd_len, encV_len, ok1_encV, tc_st_read hA])
      | fail
  refine ⟨_, Or.inr ⟨_, 0, rfl, rd_own' 0 rfl rfl (by simp)⟩, by simp [ok1_cons, ok1_nil, Value.oneCell'], Or.inl ⟨_, _, rfl, _, hov, _, cat_pull [[_, _, _, _, _], lnG line lv, rdsG pA, osg 3 ov _, rdsG pC] 3 (by simp), ?_, ?_, ?_⟩⟩
  · simp only [maxLen]; omega
  · omega
  intro ov1 hov1 _
  simp only [List.eraseIdx_cons_succ, List.eraseIdx_cons_zero, List.getElem_cons_succ, List.getElem_cons_zero, cat_two, cat_one, cat_nil, List.nil_append, List.cons_append, List.append_assoc, List.append_nil]
  repeat' first
      | refine EV.seq ?_
      | refine EV.skip ?_
      | ((first | refine EV.reg ?_ | refine EV.any _ (List.Sublist.refl _) ?_ | fail); (conv => (arg 2; whnf)); simp only [push_cast, Int.cast_ofNat_Int, reduceIte, Nat.reduceEqDiff, reduceCtorEq, Nat.reduceAdd, Nat.reduceSub, Nat.reduceMul, Int.reduceToNat, Nat.reduceLeDiff, tc_len hA, hd_len, encV_len, ok1_encV, tc_st_now hA, tc_st_gained hA, tc_st_read hA, tc_st_at hA hl])
      | ((first | refine ConQ.call (view_join_l (RdL.of' (line := line) (lv := lv) (fun q hq => by simp [hq]) hb) _ _) ?_ | refine ConQ.call (order_Acquires_q _ o5) ?_ | refine Exists.intro _ (And.intro (rd_box) ?_) | refine Exists.intro _ (And.intro (rd_ms_view hn) ?_) | refine Exists.intro _ (Exists.intro _ (Exists.intro _ (And.intro (rd_hd_ms) ?_))) | refine Exists.intro _ (And.intro (rd_tc_gained hA) ?_) | refine Exists.intro _ (And.intro (rd_tc_now hA) ?_) | fail); try simp only [push_cast, Int.cast_ofNat_Int, reduceIte, Nat.reduceEqDiff, reduceCtorEq, Nat.reduceAdd, Nat.reduceSub, Nat.reduceMul, Int.reduceToNat, Nat.reduceLeDiff, tc_len hA, hd_len, encV_len, ok1_encV, tc_st_now hA, tc_st_gained hA, tc_st_read hA, tc_st_at hA hl])
      | ((refine EV.cond rfl (fun h => ?_) (fun h => ?_) <;> try simp only [reduceCtorEq, reduceIte, if_true, if_false, Bool.not_eq_true', Bool.not_eq_false', decide_eq_true_eq, decide_eq_false_iff_not, Bool.and_eq_true, Bool.or_eq_true, Bool.and_eq_false_iff, Bool.or_eq_false_iff] at h) <;> try (exfalso; first | exact h True.intro | (exact h; done) | omega | (simp only [not_true_eq_false, false_or, or_false] at h; omega)))
      | (with_reducible intro b; try simp only [push_cast, Int.cast_ofNat_Int, reduceIte, Nat.reduceEqDiff, reduceCtorEq, Nat.reduceAdd, Nat.reduceSub, Nat.reduceMul, Int.reduceToNat, Nat.reduceLeDiff, tc_len hA, hd_len, encV_len, ok1_encV, tc_st_now hA, tc_st_gained hA, tc_st_read hA, tc_st_at hA hl])
      | (refine And.intro (by omega) ?_)
      | (refine xi rfl (by simp only [List.length_cons, List.length_nil]; omega) ?_; try simp only [push_cast, Int.cast_ofNat_Int, reduceIte, Nat.reduceEqDiff, reduceCtorEq, Nat.reduceAdd, Nat.reduceSub, Nat.reduceMul, Int.reduceToNat, Nat.reduceLeDiff, tc_len hA, hd_len, encV_len, ok1_encV, tc_st_now hA, tc_st_gained hA, tc_st_read hA, tc_st_at hA hl])
      | (refine xw ?_; simp only [push_cast, Int.cast_ofNat_Int, reduceIte, Nat.reduceEqDiff, reduceCtorEq, Nat.reduceAdd, Nat.reduceSub, Nat.reduceMul, Int.reduceToNat, Nat.reduceLeDiff, tc_len hA, hd_len, encV_len, ok1_encV, tc_st_now hA, tc_st_gained hA, tc_st_read hA, tc_st_at hA hl])
      | (refine And.intro (PHeap.le_refl _) (And.intro (fun p hp => hp) ?_))
      | (refine And.intro (PHeap.le_refl _) (And.intro (mem_of_sub ?_) ?_); focus ((repeat' first | exact List.Sublist.refl _ | exact List.nil_sublist _ | exact List.sublist_append_left _ _ | refine List.Sublist.cons_cons _ ?_ | refine List.Sublist.append_left ?_ _ | refine List.sublist_append_of_sublist_right ?_ | refine List.Sublist.cons _ ?_); done); try simp only [push_cast, Int.cast_ofNat_Int, reduceIte, Nat.reduceEqDiff, reduceCtorEq, Nat.reduceAdd, Nat.reduceSub, Nat.reduceMul, Int.reduceToNat, Nat.reduceLeDiff, tc_len hA, hd_len, encV_len, ok1_encV, tc_st_now hA, tc_st_gained hA, tc_st_read hA, tc_st_at hA hl])
      | fail
  all_goals
    refine EV.permG ?_ (cat_move [[_, _, _, _, _, _], lnG line lv, rdsG pA, rdsG pC, osg 3 ov1 _] 4 3 (by simp) (by simp))
    simp only [List.eraseIdx_cons_succ, List.eraseIdx_cons_zero, List.getElem_cons_succ, List.getElem_cons_zero, List.insertIdx_zero, List.insertIdx_succ_cons, cat_two, cat_one, cat_nil, List.nil_append, List.cons_append, List.append_assoc, List.append_nil]
    refine EV.to (ρ' := []) (G' := PM.G ⟨pg, pc, mv, lv, tv, prog, msgs, line, all, pA ++ (readsThr line msgs[n]! t n ⟨kd, l, v, w', od⟩, ov1) :: pC⟩ mp) ?_ (by simp) (by simp only [PM.G, tc_of, rdsG_at, pt_len, readsThr, h, if_true, if_false, reduceCtorEq, reduceIte, List.length_append, List.length_singleton, List.map_append, List.map_cons, List.map_nil, Int.toNat_natCast]; (repeat' first | exact List.Sublist.refl _ | exact List.nil_sublist _ | exact List.sublist_append_left _ _ | refine List.Sublist.cons_cons _ ?_ | refine List.Sublist.append_left ?_ _ | refine List.sublist_append_of_sublist_right ?_ | refine List.Sublist.cons _ ?_))
    refine EV.done Q84_ok ?_
    simp only [push_cast, Int.cast_ofNat_Int, reduceIte, Nat.reduceEqDiff, reduceCtorEq, Nat.reduceAdd, Nat.reduceSub, Nat.reduceMul, Int.reduceToNat, Nat.reduceLeDiff, Q84]
    refine ⟨_, rfl, ok.thr _ _ (by simpa [readsThr] using hov1), ?_, rfl, rfl⟩
    subst hpA
    simp only [PM.vm, VM.reads, VM.setThr, thr_at, thr_set pA pC t _ ov ov1, Int.toNat_natCast]
    rfl

end
end Go.EV

namespace Go.EV
open Go.Proofs

theorem expT_take {l : List OpV} {j : Nat} (hj : j < l.length) : expT (l.take (j + 1)) = expT (l.take j) ++ expOp l[j] := by
  rw [List.take_succ_eq_append_getElem hj]; simp only [expT, List.flatMap_append, List.flatMap_cons, List.flatMap_nil, List.append_nil]
theorem expT_len (l : List OpV) : (expT l).length ≤ 3 * l.length := by
  induction l with
  | nil => simp [expT]
  | cons o l ih => have := expOp_len o; simp only [expT, List.flatMap_cons, List.length_append, List.length_cons] at ih ⊢; omega

section
variable {M : PHeap}

set_option maxRecDepth 8000 in
set_option maxHeartbeats 8000000 in
theorem ref_Expand_c (ts : List (List OpV)) (s : Value) (hs : SlSl M 5 encOp s ts) (hb : ts.flatten.length < 1000000) (hb' : ts.length < 1000000) :
    Con Try.prog 42 #[.agg #[s]] M [] fun v M' _ => (checkP ts ≠ 0 ∧ v = .tuple #[.agg #[.slice none 0 0], vi (checkP ts)]) ∨ (checkP ts = 0 ∧ ∃ s', v = .tuple #[.agg #[s'], vi 0] ∧ SlSl M' 5 encOp s' (ts.map expT)) := by
  have hs0 := hs
  obtain ⟨a, c, vs, rfl, hl, hrd, hk⟩ := hs
  refine Con.enter Q21_ok (args := [.agg #[.slice a ts.length c]]) (by simp [Q21]) fun w0 => ?_
  simp only [Q21, argE]
  repeat' first
      | refine EV.seq ?_
      | refine EV.skip ?_
      | refine EV.block ?_
      | (refine EV.reg ?_; (conv => (arg 2; whnf)); simp only [push_cast, Int.cast_ofNat_Int, reduceIte, Nat.reduceEqDiff, reduceCtorEq, Nat.reduceAdd, Nat.reduceSub, Nat.reduceMul, Int.reduceToNat, Nat.reduceLeDiff])
      | (refine ConQ.call (ref_Check_q _ _ (hs0.mono (PHeap.le_add _ _)) hb hb') ?_; try simp only [push_cast, Int.cast_ofNat_Int, reduceIte, Nat.reduceEqDiff, reduceCtorEq, Nat.reduceAdd, Nat.reduceSub, Nat.reduceMul, Int.reduceToNat, Nat.reduceLeDiff])
      | ((refine EV.cond rfl (fun h => ?_) (fun h => ?_) <;> try simp only [reduceCtorEq, reduceIte, if_true, if_false, Bool.not_eq_true', Bool.not_eq_false', decide_eq_true_eq, decide_eq_false_iff_not, Bool.and_eq_true, Bool.or_eq_true, Bool.and_eq_false_iff, Bool.or_eq_false_iff] at h) <;> try (exfalso; first | exact h True.intro | (exact h; done) | omega | (simp only [not_true_eq_false, false_or, or_false] at h; omega)))
      | ((first | with_reducible intro b | refine xr rfl (by simp only [List.length_cons, List.length_nil]; omega) ?_ | fail); try simp only [push_cast, Int.cast_ofNat_Int, reduceIte, Nat.reduceEqDiff, reduceCtorEq, Nat.reduceAdd, Nat.reduceSub, Nat.reduceMul, Int.reduceToNat, Nat.reduceLeDiff])
      | (refine xw ?_; simp only [push_cast, Int.cast_ofNat_Int, reduceIte, Nat.reduceEqDiff, reduceCtorEq, Nat.reduceAdd, Nat.reduceSub, Nat.reduceMul, Int.reduceToNat, Nat.reduceLeDiff])
      | fail
  · repeat' first
      | (refine EV.ret Q21_ok ?_; simp only [push_cast, Int.cast_ofNat_Int, reduceIte, Nat.reduceEqDiff, reduceCtorEq, Nat.reduceAdd, Nat.reduceSub, Nat.reduceMul, Int.reduceToNat, Nat.reduceLeDiff, Q21])
      | (refine xr rfl (by simp only [List.length_cons, List.length_nil]; omega) ?_; try simp only [push_cast, Int.cast_ofNat_Int, reduceIte, Nat.reduceEqDiff, reduceCtorEq, Nat.reduceAdd, Nat.reduceSub, Nat.reduceMul, Int.reduceToNat, Nat.reduceLeDiff])
      | fail
    exact .inl h
  · have hck := h
    repeat' first
        | fail
    rename_i b1 b2 b5
    obtain ⟨_, _, hall⟩ := checkP_zero hck
    refine EV.permG ?_ (cat_pull [[_], [_], [_], [_]] 3 (by simp))
    simp only [List.eraseIdx_cons_succ, List.eraseIdx_cons_zero, List.getElem_cons_succ, List.getElem_cons_zero, List.insertIdx_zero, List.insertIdx_succ_cons, cat_two, cat_one, cat_nil, List.nil_append, List.cons_append, List.append_assoc, List.append_nil]
    refine EV.freeze (G₁ := [_, _]) ?_
    generalize hN : M.add [(b1, Cl 24 [.slice a ts.length c]), (b, Cl 55 [.int .i64 5, .int .i64 0, .int .i64 0, .int .i64 0, .int .i64 4])] = N
    have hMN : M.le N := hN ▸ PHeap.le_add _ _
    have hb1 : rd N b1 0 1 [.slice a ts.length c] := hN ▸ rd_own' 0 rfl rfl (by simp)
    have hb6 : rd N b 0 5 (encOp sfence) := hN ▸ rd_own' 1 rfl rfl (by simp)
    clear hN
    replace hrd := hrd.mono hMN
    replace hk := fun k h h' => (hk k h h').mono hMN
    clear hs0
    refine EV.to (ρ' := [(1, pv b1 0), (2, pv b2 0), (5, pv b5 0), (6, pv b 0), (7, vi (0 : Nat))])
      (G' := [(b5, Cl 24 [osv none 0]), (b2, Cl 24 [.slice none 0 0])] ++ osg 53 none []) ?_ ?env0 (by (repeat' first | exact List.Sublist.refl _ | exact List.nil_sublist _ | exact List.sublist_append_left _ _ | refine List.Sublist.cons_cons _ ?_ | refine List.Sublist.append_left ?_ _ | refine List.sublist_append_of_sublist_right ?_ | refine List.Sublist.cons _ ?_))
    case env0 =>
      repeat' first
        | (refine List.forall_mem_cons.2 (And.intro ?_ ?_))
        | (intro _ hnil; cases hnil; done)
        | rfl
        | fail
    refine EV.loop (fun x : Nat × PHeap × Vec × List Value => ([(1, pv b1 0), (2, pv b2 0), (5, pv b5 0), (6, pv b 0), (7, vi x.1)], x.2.1,
        [(b5, Cl 24 [osv x.2.2.1 x.1]), (b2, Cl 24 [.slice none 0 0])] ++ osg 53 x.2.2.1 x.2.2.2))
      (fun x => x.1 ≤ ts.length ∧ N.le x.2.1 ∧ osok 1 x.2.2.1 x.1 x.2.2.2 ∧ x.2.2.2.length = x.1 ∧ ∀ k (h : k < x.2.2.2.length) (h' : k < ts.length), Sl x.2.1 5 encOp x.2.2.2[k] (expT ts[k]))
      (fun x => ts.length - x.1) (0, N, none, []) ⟨Nat.zero_le _, PHeap.le_refl _, ⟨rfl, rfl⟩, rfl, fun k h => absurd h (by simp)⟩ ?_
    rintro ⟨i, Mi, oq, vs'⟩ ⟨hi, hMi, hoq, hlen', hSl⟩ ih
    dsimp only at hi hMi hoq hlen' hSl ih ⊢
    replace hb1 := hb1.mono hMi
    replace hb6 := hb6.mono hMi
    repeat' first
        | refine EV.seq ?_
        | refine EV.skip ?_
        | refine EV.block ?_
        | (refine EV.reg ?_; (conv => (arg 2; whnf)); simp only [push_cast, Int.cast_ofNat_Int, reduceIte, Nat.reduceEqDiff, reduceCtorEq, Nat.reduceAdd, Nat.reduceSub, Nat.reduceMul, Int.reduceToNat, Nat.reduceLeDiff])
        | ((refine EV.cond rfl (fun h => ?_) (fun h => ?_) <;> try simp only [reduceCtorEq, reduceIte, if_true, if_false, Bool.not_eq_true', Bool.not_eq_false', decide_eq_true_eq, decide_eq_false_iff_not, Bool.and_eq_true, Bool.or_eq_true, Bool.and_eq_false_iff, Bool.or_eq_false_iff] at h) <;> try (exfalso; first | exact h True.intro | (exact h; done) | omega | (simp only [not_true_eq_false, false_or, or_false] at h; omega)))
        | (refine EV.exit rfl ?_)
        | ((first | refine Exists.intro _ (Exists.intro _ (Exists.intro _ (And.intro (rd_M (by assumption)) ?_))) | refine xr rfl (by simp only [List.length_cons, List.length_nil]; omega) ?_ | fail); try simp only [push_cast, Int.cast_ofNat_Int, reduceIte, Nat.reduceEqDiff, reduceCtorEq, Nat.reduceAdd, Nat.reduceSub, Nat.reduceMul, Int.reduceToNat, Nat.reduceLeDiff])
        | (refine xw ?_; simp only [push_cast, Int.cast_ofNat_Int, reduceIte, Nat.reduceEqDiff, reduceCtorEq, Nat.reduceAdd, Nat.reduceSub, Nat.reduceMul, Int.reduceToNat, Nat.reduceLeDiff])
        | fail
    · have hi' : i < ts.length := by omega
      obtain ⟨pb, po, rfl, hat⟩ := SlSl.at (hrd.mono hMi) hl (fun k h h' => (hk k h h').mono hMi) (by omega)
      obtain ⟨a', c', hr1, hr2⟩ := hat i hi'
      simp only [Nat.mul_one] at hr1
      have hlen : ts[i].length ≤ ts.flatten.length := by have := flat_take hi'; have h2 := flat_take_le ts (i + 1); rw [this, List.length_append] at h2; omega
      have hmem : ∀ o ∈ ts[i], o ∈ ts.flatten := fun o ho => List.mem_flatten.2 ⟨ts[i], List.getElem_mem hi', ho⟩
      refine EV.to (ρ' := [(1, pv b1 0), (2, pv b2 0), (5, pv b5 0), (6, pv b 0), (7, vi i), (8, osv none (expT (ts[i].take 0)).length), (9, vi (0 : Nat))])
        (G' := [(b5, Cl 24 [osv oq i]), (b2, Cl 24 [.slice none 0 0])] ++ (osg 53 oq vs' ++ osg 55 none ((expT (ts[i].take 0)).flatMap encOp))) ?_ ?env1 (by simp only [osg, List.append_nil]; exact List.Sublist.refl _)
      case env1 =>
        repeat' first
          | (refine List.forall_mem_cons.2 (And.intro ?_ ?_))
          | (intro _ hnil; cases hnil; done)
          | rfl
          | fail
      refine EV.loop (fun x : Nat × Vec => ([(1, pv b1 0), (2, pv b2 0), (5, pv b5 0), (6, pv b 0), (7, vi i), (8, osv x.2 (expT (ts[i].take x.1)).length), (9, vi x.1)], Mi,
          [(b5, Cl 24 [osv oq i]), (b2, Cl 24 [.slice none 0 0])] ++ (osg 53 oq vs' ++ osg 55 x.2 ((expT (ts[i].take x.1)).flatMap encOp))))
        (fun x => x.1 ≤ ts[i].length ∧ osok 5 x.2 (expT (ts[i].take x.1)).length ((expT (ts[i].take x.1)).flatMap encOp))
        (fun x => ts[i].length - x.1) (0, none) ⟨Nat.zero_le _, rfl, rfl⟩ ?_
      rintro ⟨j, ov⟩ ⟨hj, hov⟩ ih2
      dsimp only at hj hov ih2 ⊢
      repeat' first
          | refine EV.seq ?_
          | refine EV.skip ?_
          | refine EV.block ?_
          | (refine EV.reg ?_; (conv => (arg 2; whnf)); simp only [push_cast, Int.cast_ofNat_Int, reduceIte, Nat.reduceEqDiff, reduceCtorEq, Nat.reduceAdd, Nat.reduceSub, Nat.reduceMul, Int.reduceToNat, Nat.reduceLeDiff])
          | ((refine EV.cond rfl (fun h => ?_) (fun h => ?_) <;> try simp only [reduceCtorEq, reduceIte, if_true, if_false, Bool.not_eq_true', Bool.not_eq_false', decide_eq_true_eq, decide_eq_false_iff_not, Bool.and_eq_true, Bool.or_eq_true, Bool.and_eq_false_iff, Bool.or_eq_false_iff] at h) <;> try (exfalso; first | exact h True.intro | (exact h; done) | omega | (simp only [not_true_eq_false, false_or, or_false] at h; omega)))
          | (refine EV.exit rfl ?_)
          | (with_reducible intro b; try simp only [push_cast, Int.cast_ofNat_Int, reduceIte, Nat.reduceEqDiff, reduceCtorEq, Nat.reduceAdd, Nat.reduceSub, Nat.reduceMul, Int.reduceToNat, Nat.reduceLeDiff])
          | (refine And.intro (by omega) ?_)
          | ((first | refine Exists.intro _ (Exists.intro _ (Exists.intro _ (And.intro (rd_M (by assumption)) ?_))) | refine xs rfl (by simp only [List.length_cons, List.length_nil]; omega) ?_ | fail); try simp only [push_cast, Int.cast_ofNat_Int, reduceIte, Nat.reduceEqDiff, reduceCtorEq, Nat.reduceAdd, Nat.reduceSub, Nat.reduceMul, Int.reduceToNat, Nat.reduceLeDiff])
          | fail
      · have hj' : j < ts[i].length := by omega
        obtain ⟨qb, qo, rfl, hat2⟩ := Sl.at (enc := encOp) (fun _ => rfl) (by omega) hr2 (by omega)
        have hr3 := hat2 j hj'
        have hok := List.all_eq_true.1 hall _ (hmem _ (List.getElem_mem hj'))
        have hrl := expT_len (ts[i].take j)
        have htl : (ts[i].take j).length ≤ j := by simp; omega
        have e := expT_take hj'
        repeat' first
            | refine EV.seq ?_
            | refine EV.skip ?_
            | (refine EV.reg ?_; (conv => (arg 2; whnf)); simp only [push_cast, Int.cast_ofNat_Int, reduceIte, Nat.reduceEqDiff, reduceCtorEq, Nat.reduceAdd, Nat.reduceSub, Nat.reduceMul, Int.reduceToNat, Nat.reduceLeDiff])
            | assumption
            | (refine condW.merge ?_ (fun hc K' hK => ?_) ?_; rotate_left)
            | ((refine EV.cond rfl (fun h => ?_) (fun h => ?_) <;> try simp only [reduceCtorEq, reduceIte, if_true, if_false, Bool.not_eq_true', Bool.not_eq_false', decide_eq_true_eq, decide_eq_false_iff_not, Bool.and_eq_true, Bool.or_eq_true, Bool.and_eq_false_iff, Bool.or_eq_false_iff] at h) <;> try (exfalso; first | exact h True.intro | (exact h; done) | omega | (simp only [not_true_eq_false, false_or, or_false] at h; omega)))
            | (with_reducible intro b; try simp only [push_cast, Int.cast_ofNat_Int, reduceIte, Nat.reduceEqDiff, reduceCtorEq, Nat.reduceAdd, Nat.reduceSub, Nat.reduceMul, Int.reduceToNat, Nat.reduceLeDiff])
            | (refine And.intro (by omega) ?_)
            | ((first | refine Exists.intro _ (And.intro (rd_M (by assumption)) ?_) | refine xr rfl (by simp only [List.length_cons, List.length_nil]; omega) ?_ | refine xi rfl (by simp only [List.length_cons, List.length_nil]; omega) ?_ | fail); try simp only [push_cast, Int.cast_ofNat_Int, reduceIte, Nat.reduceEqDiff, reduceCtorEq, Nat.reduceAdd, Nat.reduceSub, Nat.reduceMul, Int.reduceToNat, Nat.reduceLeDiff])
            | (refine xw ?_; simp only [push_cast, Int.cast_ofNat_Int, reduceIte, Nat.reduceEqDiff, reduceCtorEq, Nat.reduceAdd, Nat.reduceSub, Nat.reduceMul, Int.reduceToNat, Nat.reduceLeDiff])
            | fail
        · refine ⟨_, Or.inr ⟨_, 0, rfl, rd_own' 0 rfl rfl (by simp)⟩, by simp [ok1_cons, ok1_nil, Value.oneCell'], Or.inl ⟨_, _, rfl, _, hov, _, cat_pull [[_, _, _, _], osg 53 oq vs', osg 55 ov _] 2 (by simp), ?_, ?_, ?_⟩⟩
          · simp only [maxLen]; omega
          · omega
          intro o' ho' _
          simp only [List.eraseIdx_cons_succ, List.eraseIdx_cons_zero, List.getElem_cons_succ, List.getElem_cons_zero, cat_two, cat_one, cat_nil, List.nil_append, List.cons_append, List.append_assoc, List.append_nil]
          repeat' first
              | (refine EV.reg ?_; (conv => (arg 2; whnf)); simp only [push_cast, Int.cast_ofNat_Int, reduceIte, Nat.reduceEqDiff, reduceCtorEq, Nat.reduceAdd, Nat.reduceSub, Nat.reduceMul, Int.reduceToNat, Nat.reduceLeDiff])
              | (refine EV.exit rfl ?_)
              | fail
          have he : expOp ts[i][j] = [ts[i][j]] := by
            rw [expOp, if_pos]
            rcases h with h | h
            · left; simp [accessP, h]
            · exact .inr h
          have ih3 := ih2 (j + 1, o') ⟨by dsimp only; omega, by rw [e, he]; simpa using ho'⟩ (by dsimp only; omega)
          simp only [e, he, List.length_append, List.flatMap_append] at ih3
          refine EV.to ih3 ?_ (by (repeat' first | exact List.Sublist.refl _ | exact List.nil_sublist _ | exact List.sublist_append_left _ _ | refine List.Sublist.cons_cons _ ?_ | refine List.Sublist.append_left ?_ _ | refine List.sublist_append_of_sublist_right ?_ | refine List.Sublist.cons _ ?_))
          repeat' first
            | (refine List.forall_mem_cons.2 (And.intro ?_ ?_))
            | (intro _ hnil; cases hnil; done)
            | rfl
            | (refine env_w64 rfl (by first | rfl | (push_cast; first | rfl | omega)) (by omega) (by omega); done)
            | fail
        · have he : expOp ts[i][j] = [sfence, { ts[i][j] with ord := plainP ts[i][j].kind ts[i][j].ord }, sfence] := by
            rw [expOp, if_neg]
            have h5 := ((okOp_iff _).1 hok).1
            simp only [mayR, Bool.and_eq_true, decide_eq_true_eq] at h5
            have : accessP ts[i][j] = true := by simp only [accessP, Bool.and_eq_true, decide_eq_true_eq]; omega
            rw [this]; simp [h.2]
          repeat' first
              | (refine EV.reg ?_; (conv => (arg 2; whnf)); simp only [push_cast, Int.cast_ofNat_Int, reduceIte, Nat.reduceEqDiff, reduceCtorEq, Nat.reduceAdd, Nat.reduceSub, Nat.reduceMul, Int.reduceToNat, Nat.reduceLeDiff])
              | ((first | refine ConQ.call (ref_plain_q _) ?_ | with_reducible intro b | refine Exists.intro _ (And.intro (rd_M (by assumption)) ?_) | refine xr rfl (by simp only [List.length_cons, List.length_nil]; omega) ?_ | fail); try simp only [push_cast, Int.cast_ofNat_Int, reduceIte, Nat.reduceEqDiff, reduceCtorEq, Nat.reduceAdd, Nat.reduceSub, Nat.reduceMul, Int.reduceToNat, Nat.reduceLeDiff])
              | (refine xw ?_; simp only [push_cast, Int.cast_ofNat_Int, reduceIte, Nat.reduceEqDiff, reduceCtorEq, Nat.reduceAdd, Nat.reduceSub, Nat.reduceMul, Int.reduceToNat, Nat.reduceLeDiff])
              | fail
          refine ⟨_, Or.inr ⟨_, 0, rfl, rd_own' 0 rfl rfl (by simp)⟩, by simp [ok1_cons, ok1_nil, Value.oneCell'], Or.inl ⟨_, _, rfl, _, hov, _, cat_pull [[_, _, _, _], osg 53 oq vs', osg 55 ov _] 2 (by simp), ?_, ?_, ?_⟩⟩
          · simp only [maxLen]; omega
          · omega
          intro o' ho' _
          simp only [List.eraseIdx_cons_succ, List.eraseIdx_cons_zero, List.getElem_cons_succ, List.getElem_cons_zero, cat_two, cat_one, cat_nil, List.nil_append, List.cons_append, List.append_assoc, List.append_nil]
          repeat' first
              | refine EV.inBlock ?_
              | (refine EV.reg ?_; (conv => (arg 2; whnf)); simp only [push_cast, Int.cast_ofNat_Int, reduceIte, Nat.reduceEqDiff, reduceCtorEq, Nat.reduceAdd, Nat.reduceSub, Nat.reduceMul, Int.reduceToNat, Nat.reduceLeDiff])
              | fail
          have ih3 := ih2 (j + 1, o') ⟨by dsimp only; omega, by rw [e, he]; simpa using ho'⟩ (by dsimp only; omega)
          simp only [e, he, List.length_append, List.flatMap_append] at ih3
          refine EV.to ih3 ?_ (by (repeat' first | exact List.Sublist.refl _ | exact List.nil_sublist _ | exact List.sublist_append_left _ _ | refine List.Sublist.cons_cons _ ?_ | refine List.Sublist.append_left ?_ _ | refine List.sublist_append_of_sublist_right ?_ | refine List.Sublist.cons _ ?_))
          repeat' first
            | (refine List.forall_mem_cons.2 (And.intro ?_ ?_))
            | (intro _ hnil; cases hnil; done)
            | rfl
            | (refine env_w64 rfl (by first | rfl | (push_cast; first | rfl | omega)) (by omega) (by omega); done)
            | fail
      · have hj' : j = ts[i].length := by omega
        subst hj'
        have hrl := expT_len ts[i]
        rw [List.take_length] at hov ⊢
        repeat' first
            | fail
        refine ⟨_, Or.inr ⟨_, 0, rfl, rd_own' 0 rfl rfl (by simp)⟩, by simp [ok1_cons, ok1_nil, Value.oneCell'], Or.inl ⟨_, _, rfl, _, hoq, _, cat_pull [[_, _, _], osg 53 oq vs', osg 55 ov _] 1 (by simp), ?_, ?_, ?_⟩⟩
        · simp only [maxLen]; omega
        · omega
        intro o' ho' _
        simp only [List.eraseIdx_cons_succ, List.eraseIdx_cons_zero, List.getElem_cons_succ, List.getElem_cons_zero, cat_two, cat_one, cat_nil, List.nil_append, List.cons_append, List.append_assoc, List.append_nil]
        repeat' first
            | refine EV.inBlock ?_
            | (refine EV.reg ?_; (conv => (arg 2; whnf)); simp only [push_cast, Int.cast_ofNat_Int, reduceIte, Nat.reduceEqDiff, reduceCtorEq, Nat.reduceAdd, Nat.reduceSub, Nat.reduceMul, Int.reduceToNat, Nat.reduceLeDiff])
            | (refine xw ?_; simp only [push_cast, Int.cast_ofNat_Int, reduceIte, Nat.reduceEqDiff, reduceCtorEq, Nat.reduceAdd, Nat.reduceSub, Nat.reduceMul, Int.reduceToNat, Nat.reduceLeDiff])
            | fail
        refine EV.permG ?_ (cat_pull [[_, _, _], osg 55 ov _, osg 53 o' _] 1 (by simp))
        simp only [List.eraseIdx_cons_succ, List.eraseIdx_cons_zero, List.getElem_cons_succ, List.getElem_cons_zero, List.insertIdx_zero, List.insertIdx_succ_cons, cat_two, cat_one, cat_nil, List.nil_append, List.cons_append, List.append_assoc, List.append_nil]
        refine EV.freeze ?_
        have ih3 := ih (i + 1, Mi.add (osg 55 ov ((expT ts[i]).flatMap encOp)), o', vs' ++ [osv ov (expT ts[i]).length]) ⟨by dsimp only; omega, PHeap.le_trans hMi (PHeap.le_add _ _), ho', by simp [hlen'], ?_⟩ (by dsimp only; omega)
        dsimp only at ih3
        refine EV.to ih3 ?_ (by (repeat' first | exact List.Sublist.refl _ | exact List.nil_sublist _ | exact List.sublist_append_left _ _ | refine List.Sublist.cons_cons _ ?_ | refine List.Sublist.append_left ?_ _ | refine List.sublist_append_of_sublist_right ?_ | refine List.Sublist.cons _ ?_))
        · repeat' first
            | (refine List.forall_mem_cons.2 (And.intro ?_ ?_))
            | (intro _ hnil; cases hnil; done)
            | rfl
            | (refine env_w64 rfl (by first | rfl | (push_cast; first | rfl | omega)) (by omega) (by omega); done)
            | fail
        · intro k hk1 hk2
          dsimp only at hk1 hk2 ⊢
          by_cases hkl : k < vs'.length
          · rw [List.getElem_append_left hkl]
            exact (hSl k hkl hk2).mono (PHeap.le_add _ _)
          · have : k = i := by simp at hk1; omega
            subst this
            rw [List.getElem_append_right (by omega)]
            simp only [hlen', Nat.sub_self, List.getElem_cons_zero]
            exact ⟨_, _, rfl, rd_osg hov (fun p hp => hp)⟩
    · have hi2 : i = ts.length := by omega
      subst hi2
      repeat' first
          | fail
      refine EV.permG ?_ (cat_pull [[_, _], osg 53 oq vs'] 1 (by simp))
      simp only [List.eraseIdx_cons_succ, List.eraseIdx_cons_zero, List.getElem_cons_succ, List.getElem_cons_zero, List.insertIdx_zero, List.insertIdx_succ_cons, cat_two, cat_one, cat_nil, List.nil_append, List.cons_append, List.append_assoc, List.append_nil]
      refine EV.freeze ?_
      refine EV.ret Q21_ok ?_
      simp only [push_cast, Int.cast_ofNat_Int, reduceIte, Nat.reduceEqDiff, reduceCtorEq, Nat.reduceAdd, Nat.reduceSub, Nat.reduceMul, Int.reduceToNat, Nat.reduceLeDiff, Q21]
      refine ⟨_, rd_own' 1 rfl rfl (by simp), .inr ⟨hck, _, rfl, oad oq, ocap oq, vs', by simp, by simpa using hlen', ?_, ?_⟩⟩
      · simpa using rd_osg hoq (fun p hp => hp)
      · intro k h1 h2
        simp only [List.getElem_map]
        exact (hSl k h1 (by simpa using h2)).mono (PHeap.le_add _ _)

end
end Go.EV

namespace Go.EV
open Go.Proofs

structure RMsg where
  id : Int
  word : Int
  view : Vw
  tied : Bool
structure RThr where
  at_ : Nat
  read : List Int
  now : Vw
  gained : Vw
  given : Vw
structure RM where
  prog : List (List OpV)
  lists : Nat → List RMsg
  thr : List RThr
  all : Vw
  next : Int
instance : Inhabited RMsg := ⟨⟨0, 0, noV, false⟩⟩
instance : Inhabited RThr := ⟨⟨0, [], noV, noV, noV⟩⟩
def RM.ids (m : RM) : Nat → List Int := fun l => (m.lists l).map RMsg.id
def joinR (line : Nat → List Int) (a b : Vw) : Vw := fun j => if a j < 0 ∨ (0 ≤ b j ∧ place line j (a j) < place line j (b j)) then b j else a j

/-- A view that may be read. -/
class VR (M : PHeap) (b : Nat) (z : outParam Vw) : Prop where
  h : rd M b 0 3 (encV z)
class LEc (M : outParam PHeap) (M' : PHeap) : Prop where
  h : M.le M'
theorem VR.mono {M M' : PHeap} {b : Nat} {z : Vw} (v : VR M b z) (h : M.le M') : VR M' b z := ⟨v.h.mono h⟩
instance VR.up {M M' : PHeap} {b : Nat} {z : Vw} [h : LEc M M'] [v : VR M b z] : VR M' b z := v.mono h.h
theorem VR.at {M : PHeap} {b : Nat} {z : Vw} [v : VR M b z] {l : Nat} (hl : l < 3) : rd M b l 1 [vi (z l)] := v.h.part0 l 1 (by omega) (encV_at z hl)

/-- What hands a view back. -/
def ViewR (z : Vw) (v : Value) (_ : PHeap) (G' : Own) : Prop := ∃ b c sp, v = rowV b 3 c ∧ G' = [(b, Cl 3 (encV z ++ sp))]

theorem VR.of {M : PHeap} {T : TypeId} {b : Nat} {z : Vw} {sp : List Value} : VR (M.add [(b, Cl T (encV z ++ sp))]) b z :=
  ⟨rd_own' 0 rfl rfl (by simp [encV])⟩

section
variable {P : Program} {C : Cx P} {f : FuncId} {args : Array Value} {M : PHeap} {G : Own} {K : Value → PHeap → Own → Prop}

/-- A call that hands back a view, which is never changed again. -/
theorem Con.callV {Mr : PHeap} {z : Vw} (h : Con P f args Mr [] (ViewR z)) (hMr : Mr.le (M.add G)) (hk : ∀ b c M' (_ : LEc M M') (_ : VR M' b z), K (rowV b 3 c) M' G) : CallW C f args M G K := by
  refine ⟨h.1, fun w hs cs => ?_⟩
  obtain ⟨e, w', fr, ⟨v, he, M', G', h1, b, c, sp, rfl, rfl⟩, r⟩ := h.2 w (St.part (G1 := []) (G2 := G) hs hMr) cs
  have h2 := St.callB (G1 := []) (G2 := G) hs h1
  exact ⟨e, w', fr, ⟨_, he, _, G, h2.freeze, hk b c _ ⟨PHeap.le_add _ _⟩ VR.of⟩, r⟩

end

section
variable {M : PHeap} {mp : Nat}

theorem ref_Copy_c (l : List Int) (a : Option Addr) (c : Nat) (h : rdS M 1 a l.length (l.map vi)) (hb : l.length < 1000000) : Con Try.prog 75 #[.slice a l.length c] M [] fun v _ G' => ∃ b c sp, v = rowV b l.length c ∧ G' = [(b, Cl 3 (l.map vi ++ sp))] ∧ osok 1 (some (b, c, sp)) l.length (l.map vi) := by
  refine Con.enter Q17_ok (args := [.slice a l.length c]) (by simp [Q17]) fun w0 => ?_
  simp only [Q17, argE]
  repeat' first
      | refine EV.seq ?_
      | (refine EV.reg ?_; (conv => (arg 2; whnf)); simp only [push_cast, Int.cast_ofNat_Int, reduceIte, Nat.reduceEqDiff, reduceCtorEq, Nat.reduceAdd, Nat.reduceSub, Nat.reduceMul, Int.reduceToNat, Nat.reduceLeDiff])
      | (with_reducible intro b; try simp only [push_cast, Int.cast_ofNat_Int, reduceIte, Nat.reduceEqDiff, reduceCtorEq, Nat.reduceAdd, Nat.reduceSub, Nat.reduceMul, Int.reduceToNat, Nat.reduceLeDiff])
      | fail
  refine ⟨_, rdS_M h, ?_, Or.inl ⟨some (b, 0, []), 0, rfl, [], ⟨rfl, rfl, Nat.le_refl _, by simp [maxLen]⟩, [], List.Perm.refl _, ?_, ?_, ?_⟩⟩
  · intro v hv
    obtain ⟨x, _, rfl⟩ := List.mem_map.1 hv
    rfl
  · simp only [maxLen]; omega
  · omega
  intro o' ho' hn
  simp only [Nat.zero_add, List.nil_append] at ho' hn ⊢
  obtain ⟨⟨ob, oc, os⟩, rfl⟩ : ∃ x, o' = some x := by
    cases o' with
    | none => exact absurd (hn.1 rfl).1 (by simp)
    | some x => exact ⟨x, rfl⟩
  repeat' first
      | (refine EV.ret Q17_ok ?_; simp only [push_cast, Int.cast_ofNat_Int, reduceIte, Nat.reduceEqDiff, reduceCtorEq, Nat.reduceAdd, Nat.reduceSub, Nat.reduceMul, Int.reduceToNat, Nat.reduceLeDiff, Q17])
      | fail
  exact ⟨ob, oc, rfl, os, rfl, ho'⟩

theorem ref_CopyV_c (z : Vw) (b c : Nat) (h : VR M b z) : Con Try.prog 75 #[rowV b 3 c] M [] (ViewR z) := by
  refine (ref_Copy_c [z 0, z 1, z 2] (some ⟨b, 0, none⟩) c (.inr ⟨b, 0, rfl, h.h⟩) (by simp)).mono ?_
  rintro v M' G' ⟨b', c', sp, rfl, rfl, _⟩
  exact ⟨b', c', sp, rfl, rfl⟩

theorem ref_nothing_c : Con Try.prog 43 #[] M [] fun v _ G' => ∃ b, v = rowV b 3 3 ∧ G' = [(b, Cl 3 (encV noV))] := by
  refine Con.enter Q46_ok (args := []) (by simp [Q46]) fun w0 => ?_
  simp only [Q46, argE]
  repeat' first
      | refine EV.seq ?_
      | (refine EV.reg ?_; (conv => (arg 2; whnf)); simp only [push_cast, Int.cast_ofNat_Int, reduceIte, Nat.reduceEqDiff, reduceCtorEq, Nat.reduceAdd, Nat.reduceSub, Nat.reduceMul, Int.reduceToNat, Nat.reduceLeDiff])
      | (refine EV.ret Q46_ok ?_; simp only [push_cast, Int.cast_ofNat_Int, reduceIte, Nat.reduceEqDiff, reduceCtorEq, Nat.reduceAdd, Nat.reduceSub, Nat.reduceMul, Int.reduceToNat, Nat.reduceLeDiff, Q46])
      | (with_reducible intro b; try simp only [push_cast, Int.cast_ofNat_Int, reduceIte, Nat.reduceEqDiff, reduceCtorEq, Nat.reduceAdd, Nat.reduceSub, Nat.reduceMul, Int.reduceToNat, Nat.reduceLeDiff])
      | fail
  exact ⟨b, rfl, rfl⟩

theorem ref_nothingV_c : Con Try.prog 43 #[] M [] (ViewR noV) :=
  ref_nothing_c.mono fun v M' G' ⟨b, h1, h2⟩ => ⟨b, 3, [], h1, by rw [h2, List.append_nil]⟩

/-- The lists of messages, as far as their numbers are read. -/
def RdR (M : PHeap) (mp : Nat) (line : Nat → List Int) : Prop :=
  ∃ lb lc, rd M mp 3 1 [rowV lb 3 lc] ∧ ∀ l, l < 3 → ∃ mb mc, rd M lb l 1 [rowV mb (line l).length mc] ∧ (∀ i, i < (line l).length → rd M mb (i * 4) 1 [vi (line l)[i]!]) ∧ (line l).length < 1000000

theorem RdR.mono {M' : PHeap} {line : Nat → List Int} (h : M.le M') (r : RdR M mp line) : RdR M' mp line :=
  let ⟨lb, lc, h1, h2⟩ := r; ⟨lb, lc, h1.mono h, fun l hl => let ⟨mb, mc, k1, k2, k3⟩ := h2 l hl; ⟨mb, mc, k1.mono h, fun i hi => (k2 i hi).mono h, k3⟩⟩

theorem place_first {line : Nat → List Int} {l i : Nat} {x : Int} (hi : i < (line l).length) (h : x ∉ (line l).take i) (e : x = (line l)[i]!) : place line l x = i := by
  have h1 := idxI_at hi h e
  have h2 := place_idx line l x
  rw [h1] at h2
  split at h2 <;> omega

theorem ref_place_q {line : Nat → List Int} (r : RdR M mp line) {l : Nat} (hl : l < 3) (n : Int) : ConQ Try.prog 73 #[pv mp 0, vi l, vi n] M (vi (place line l n)) := by
  obtain ⟨lb, lc, h1, h2⟩ := r
  obtain ⟨mb, mc, k1, k2, k3⟩ := h2 l hl
  refine Con.enter Q39_ok (args := [pv mp 0, vi l, vi n]) (by simp [Q39]) fun w0 => ?_
  simp only [Q39, argE]
  repeat' first
      | refine EV.seq ?_
      | refine EV.block ?_
      | (refine EV.reg ?_; (conv => (arg 2; whnf)); simp only [push_cast, Int.cast_ofNat_Int, reduceIte, Nat.reduceEqDiff, reduceCtorEq, Nat.reduceAdd, Nat.reduceSub, Nat.reduceMul, Int.reduceToNat, Nat.reduceLeDiff])
      | fail
  refine EV.to (ρ' := [(0, pv mp 0), (1, vi l), (2, vi n), (7, vi (0 : Nat))]) (G' := []) ?_ ?env0 (by simp)
  case env0 =>
    repeat' first
      | (refine List.forall_mem_cons.2 (And.intro ?_ ?_))
      | (intro _ hnil; cases hnil; done)
      | rfl
      | fail
  refine EV.loop (fun i : Nat => ([(0, pv mp 0), (1, vi l), (2, vi n), (7, vi i)], M, [])) (fun i => i ≤ (line l).length ∧ n ∉ (line l).take i) (fun i => (line l).length - i) 0 (by simp) ?_
  intro i ⟨hi, hok⟩ ih
  dsimp only at ih ⊢
  repeat' first
      | refine EV.seq ?_
      | refine EV.skip ?_
      | refine EV.block ?_
      | (refine EV.reg ?_; (conv => (arg 2; whnf)); simp only [push_cast, Int.cast_ofNat_Int, reduceIte, Nat.reduceEqDiff, reduceCtorEq, Nat.reduceAdd, Nat.reduceSub, Nat.reduceMul, Int.reduceToNat, Nat.reduceLeDiff])
      | ((refine EV.cond rfl (fun h => ?_) (fun h => ?_) <;> try simp only [reduceCtorEq, reduceIte, if_true, if_false, Bool.not_eq_true', Bool.not_eq_false', decide_eq_true_eq, decide_eq_false_iff_not, Bool.and_eq_true, Bool.or_eq_true, Bool.and_eq_false_iff, Bool.or_eq_false_iff] at h) <;> try (exfalso; first | exact h True.intro | (exact h; done) | omega | (simp only [not_true_eq_false, false_or, or_false] at h; omega)))
      | (refine EV.exit rfl ?_)
      | (refine And.intro (by omega) ?_)
      | (refine Exists.intro _ (Exists.intro _ (Exists.intro _ (And.intro (rd_M (by assumption)) ?_))); try simp only [push_cast, Int.cast_ofNat_Int, reduceIte, Nat.reduceEqDiff, reduceCtorEq, Nat.reduceAdd, Nat.reduceSub, Nat.reduceMul, Int.reduceToNat, Nat.reduceLeDiff])
      | fail
  · have hi' : i < (line l).length := by omega
    have k3 := k2 i hi'
    repeat' first
        | refine EV.seq ?_
        | refine EV.skip ?_
        | refine EV.inBlock ?_
        | (refine EV.reg ?_; (conv => (arg 2; whnf)); simp only [push_cast, Int.cast_ofNat_Int, reduceIte, Nat.reduceEqDiff, reduceCtorEq, Nat.reduceAdd, Nat.reduceSub, Nat.reduceMul, Int.reduceToNat, Nat.reduceLeDiff])
        | ((refine EV.cond rfl (fun h => ?_) (fun h => ?_) <;> try simp only [reduceCtorEq, reduceIte, if_true, if_false, Bool.not_eq_true', Bool.not_eq_false', decide_eq_true_eq, decide_eq_false_iff_not, Bool.and_eq_true, Bool.or_eq_true, Bool.and_eq_false_iff, Bool.or_eq_false_iff] at h) <;> try (exfalso; first | exact h True.intro | (exact h; done) | omega | (simp only [not_true_eq_false, false_or, or_false] at h; omega)))
        | (refine Exists.intro _ (And.intro (rd_M (by assumption)) ?_); try simp only [push_cast, Int.cast_ofNat_Int, reduceIte, Nat.reduceEqDiff, reduceCtorEq, Nat.reduceAdd, Nat.reduceSub, Nat.reduceMul, Int.reduceToNat, Nat.reduceLeDiff])
        | fail
    · repeat' first
        | (refine EV.ret Q39_ok ?_; simp only [push_cast, Int.cast_ofNat_Int, reduceIte, Nat.reduceEqDiff, reduceCtorEq, Nat.reduceAdd, Nat.reduceSub, Nat.reduceMul, Int.reduceToNat, Nat.reduceLeDiff, Q39])
        | fail
      rw [place_first hi' hok h.symm]
    · refine EV.to (ih (i + 1) ⟨by omega, ?_⟩ (by omega)) ?_ (by simp)
      · rw [List.take_succ_eq_append_getElem hi', ← getB hi']
        simp only [List.mem_append, List.mem_singleton, not_or]
        exact ⟨hok, fun e => h e.symm⟩
      · repeat' first
          | (refine List.forall_mem_cons.2 (And.intro ?_ ?_))
          | (intro _ hnil; cases hnil; done)
          | rfl
          | (refine env_w64 rfl (by first | rfl | (push_cast; first | rfl | omega)) (by omega) (by omega); done)
          | fail
  · repeat' first
      | (refine EV.ret Q39_ok ?_; simp only [push_cast, Int.cast_ofNat_Int, reduceIte, Nat.reduceEqDiff, reduceCtorEq, Nat.reduceAdd, Nat.reduceSub, Nat.reduceMul, Int.reduceToNat, Nat.reduceLeDiff, Q39])
      | fail
    have hi3 : i = (line l).length := by omega
    subst hi3
    rw [List.take_length] at hok
    rw [place, if_neg hok]
    rfl

theorem encVs_set (v : Vw) (sp : List Value) {l : Nat} (hl : l < 3) (x : Int) : (encV v ++ sp).take l ++ (vi x :: (encV v ++ sp).drop (l + 1)) = encV (upd v l x) ++ sp := by
  match l, hl with
  | 0, _ => rfl
  | 1, _ => rfl
  | 2, _ => rfl

/-- The join of the first places. -/
def joinW (line : Nat → List Int) (x y : Vw) (i : Nat) : Vw := fun j => if j < i then joinR line x y j else x j

set_option maxHeartbeats 4000000 in
set_option maxRecDepth 8000 in
theorem ref_join_c {line : Nat → List Int} (r : RdR M mp line) {x y : Vw} {ba ca bb cb : Nat} (hx : VR M ba x) (hy : VR M bb y) : Con Try.prog 50 #[pv mp 0, rowV ba 3 ca, rowV bb 3 cb] M [] (ViewR (joinR line x y)) := by
  refine Con.enter Q38_ok (args := [pv mp 0, rowV ba 3 ca, rowV bb 3 cb]) (by simp [Q38]) fun w0 => ?_
  simp only [Q38, argE]
  repeat' first
      | refine EV.seq ?_
      | (refine EV.reg ?_; (conv => (arg 2; whnf)); simp only [push_cast, Int.cast_ofNat_Int, reduceIte, Nat.reduceEqDiff, reduceCtorEq, Nat.reduceAdd, Nat.reduceSub, Nat.reduceMul, Int.reduceToNat, Nat.reduceLeDiff])
      | fail
  refine Con.callB (G1 := []) (ref_CopyV_c (M := M.add []) x ba ca (hx.mono (PHeap.le_add _ _))) (PHeap.le_refl _) (List.Perm.refl _) ?_
  rintro v M1 G1 ⟨ob, oc, sp, rfl, rfl⟩
  simp only [push_cast, Int.cast_ofNat_Int, reduceIte, Nat.reduceEqDiff, reduceCtorEq, Nat.reduceAdd, Nat.reduceSub, Nat.reduceMul, Int.reduceToNat, Nat.reduceLeDiff]
  repeat' first
      | refine EV.seq ?_
      | refine EV.block ?_
      | (refine EV.reg ?_; (conv => (arg 2; whnf)); simp only [push_cast, Int.cast_ofNat_Int, reduceIte, Nat.reduceEqDiff, reduceCtorEq, Nat.reduceAdd, Nat.reduceSub, Nat.reduceMul, Int.reduceToNat, Nat.reduceLeDiff])
      | fail
  refine EV.to (ρ' := [(0, pv mp 0), (1, rowV ba 3 ca), (2, rowV bb 3 cb), (7, rowV ob 3 oc), (8, vi (0 : Nat))]) (G' := [(ob, Cl 3 (encV x ++ sp))]) ?_ ?env0 (by (repeat' first | exact List.Sublist.refl _ | exact List.nil_sublist _ | exact List.sublist_append_left _ _ | refine List.Sublist.cons_cons _ ?_ | refine List.Sublist.append_left ?_ _ | refine List.sublist_append_of_sublist_right ?_ | refine List.Sublist.cons _ ?_))
  case env0 =>
    repeat' first
      | (refine List.forall_mem_cons.2 (And.intro ?_ ?_))
      | (intro _ hnil; cases hnil; done)
      | rfl
      | fail
  refine EV.loop (fun i : Nat => ([(0, pv mp 0), (1, rowV ba 3 ca), (2, rowV bb 3 cb), (7, rowV ob 3 oc), (8, vi i)], M, [(ob, Cl 3 (encV (joinW line x y i) ++ sp))])) (fun i => i ≤ 3) (fun i => 3 - i) 0 (by simp) ?_
  intro i hi ih
  dsimp only at ih ⊢
  repeat' first
      | refine EV.seq ?_
      | refine EV.skip ?_
      | refine EV.block ?_
      | (refine EV.reg ?_; (conv => (arg 2; whnf)); simp only [push_cast, Int.cast_ofNat_Int, reduceIte, Nat.reduceEqDiff, reduceCtorEq, Nat.reduceAdd, Nat.reduceSub, Nat.reduceMul, Int.reduceToNat, Nat.reduceLeDiff])
      | ((refine EV.cond rfl (fun h => ?_) (fun h => ?_) <;> try simp only [reduceCtorEq, reduceIte, if_true, if_false, Bool.not_eq_true', Bool.not_eq_false', decide_eq_true_eq, decide_eq_false_iff_not, Bool.and_eq_true, Bool.or_eq_true, Bool.and_eq_false_iff, Bool.or_eq_false_iff] at h) <;> try (exfalso; first | exact h True.intro | (exact h; done) | omega | (simp only [not_true_eq_false, false_or, or_false] at h; omega)))
      | (refine EV.exit rfl ?_)
      | fail
  · have hi' : i < 3 := by omega
    have hxi := hx.at hi'
    have hyi := hy.at hi'
    repeat' first
        | refine EV.skip ?_
        | refine EV.inBlock ?_
        | ((first | refine EV.reg ?_ | refine EV.any _ (List.Sublist.refl _) ?_ | fail); (conv => (arg 2; whnf)); simp only [push_cast, Int.cast_ofNat_Int, reduceIte, Nat.reduceEqDiff, reduceCtorEq, Nat.reduceAdd, Nat.reduceSub, Nat.reduceMul, Int.reduceToNat, Nat.reduceLeDiff, encV_len, ok1_encV])
        | (refine Exists.intro _ (And.intro (ref_place_q (r.mono (PHeap.le_add _ _)) hi' _) ?_); try simp only [push_cast, Int.cast_ofNat_Int, reduceIte, Nat.reduceEqDiff, reduceCtorEq, Nat.reduceAdd, Nat.reduceSub, Nat.reduceMul, Int.reduceToNat, Nat.reduceLeDiff, encV_len, ok1_encV])
        | (refine condQ.mk ?_ (fun hc => ?_) ?_; rotate_left; (try simp only [decide_eq_true_eq, decide_eq_false_iff_not, Bool.not_eq_true', Bool.not_eq_false', Bool.and_eq_true, Bool.or_eq_true, Bool.and_eq_false_iff, Bool.or_eq_false_iff] at hc))
        | (with_reducible rfl)
        | ((refine EV.cond rfl (fun h => ?_) (fun h => ?_) <;> try simp only [reduceCtorEq, reduceIte, if_true, if_false, Bool.not_eq_true', Bool.not_eq_false', decide_eq_true_eq, decide_eq_false_iff_not, Bool.and_eq_true, Bool.or_eq_true, Bool.and_eq_false_iff, Bool.or_eq_false_iff] at h) <;> try (exfalso; first | exact h True.intro | (exact h; done) | omega | (simp only [not_true_eq_false, false_or, or_false] at h; omega)))
        | (refine And.intro (by omega) ?_)
        | (refine Exists.intro _ (And.intro (rd_M (by assumption)) ?_); try simp only [push_cast, Int.cast_ofNat_Int, reduceIte, Nat.reduceEqDiff, reduceCtorEq, Nat.reduceAdd, Nat.reduceSub, Nat.reduceMul, Int.reduceToNat, Nat.reduceLeDiff, encV_len, ok1_encV])
        | (refine xw ?_; simp only [push_cast, Int.cast_ofNat_Int, reduceIte, Nat.reduceEqDiff, reduceCtorEq, Nat.reduceAdd, Nat.reduceSub, Nat.reduceMul, Int.reduceToNat, Nat.reduceLeDiff, encV_len, ok1_encV])
        | fail
    · refine ⟨by simp only [List.length_append, encV_len]; omega, ?_⟩
      have e : upd (joinW line x y i) i (y i) = joinW line x y (i + 1) := by
        funext j
        simp only [upd, joinW]
        by_cases hj : j = i
        · subst hj
          rw [if_pos rfl, if_pos (by omega), joinR, if_pos (h.imp id (fun h => ⟨h.1, by omega⟩))]
        · have : j < i + 1 ↔ j < i := by omega
          simp only [hj, this, if_false]
      rw [encVs_set _ _ hi', e]
      repeat' first
          | refine EV.inBlock ?_
          | (refine EV.reg ?_; (conv => (arg 2; whnf)); simp only [push_cast, Int.cast_ofNat_Int, reduceIte, Nat.reduceEqDiff, reduceCtorEq, Nat.reduceAdd, Nat.reduceSub, Nat.reduceMul, Int.reduceToNat, Nat.reduceLeDiff])
          | fail
      refine EV.to (ih (i + 1) (by omega) (by omega)) ?_ (by (repeat' first | exact List.Sublist.refl _ | exact List.nil_sublist _ | exact List.sublist_append_left _ _ | refine List.Sublist.cons_cons _ ?_ | refine List.Sublist.append_left ?_ _ | refine List.sublist_append_of_sublist_right ?_ | refine List.Sublist.cons _ ?_))
      repeat' first
        | (refine List.forall_mem_cons.2 (And.intro ?_ ?_))
        | (intro _ hnil; cases hnil; done)
        | rfl
        | (refine env_w64 rfl (by first | rfl | (push_cast; first | rfl | omega)) (by omega) (by omega); done)
        | fail
    · have e : joinW line x y i = joinW line x y (i + 1) := by
        funext j
        simp only [joinW]
        by_cases hj : j = i
        · subst hj
          have hh : ¬ (x j < 0 ∨ (0 ≤ y j ∧ place line j (x j) < place line j (y j))) := by omega
          rw [if_neg (by omega), if_pos (by omega), joinR, if_neg hh]
        · have : j < i + 1 ↔ j < i := by omega
          simp only [this]
      rw [e]
      refine EV.to (ih (i + 1) (by omega) (by omega)) ?_ (by (repeat' first | exact List.Sublist.refl _ | exact List.nil_sublist _ | exact List.sublist_append_left _ _ | refine List.Sublist.cons_cons _ ?_ | refine List.Sublist.append_left ?_ _ | refine List.sublist_append_of_sublist_right ?_ | refine List.Sublist.cons _ ?_))
      repeat' first
        | (refine List.forall_mem_cons.2 (And.intro ?_ ?_))
        | (intro _ hnil; cases hnil; done)
        | rfl
        | (refine env_w64 rfl (by first | rfl | (push_cast; first | rfl | omega)) (by omega) (by omega); done)
        | fail
  · have hi' : i = 3 := by omega
    subst hi'
    refine EV.ret Q38_ok ?_
    simp only [push_cast, Int.cast_ofNat_Int, reduceIte, Nat.reduceEqDiff, reduceCtorEq, Nat.reduceAdd, Nat.reduceSub, Nat.reduceMul, Int.reduceToNat, Nat.reduceLeDiff, Q38]
    exact ⟨ob, oc, sp, rfl, rfl⟩

end
end Go.EV

namespace Go.EV
open Go.Proofs

structure RT where
  th : RThr
  ov : Vec
  nb : Nat
  nc : Nat
  gb : Nat
  gc : Nat
  db : Nat
  dc : Nat
structure RX where
  x : RMsg
  b : Nat
  c : Nat
instance : Inhabited RT := ⟨⟨default, none, 0, 0, 0, 0, 0, 0⟩⟩
instance : Inhabited RX := ⟨⟨default, 0, 0⟩⟩
def encX (q : RX) : List Value := [vi q.x.id, vi q.x.word, rowV q.b 3 q.c, vb q.x.tied]
abbrev Blk := Nat × Nat × List Value

structure RP where
  pg : Option Addr
  pc : Nat
  prog : List (List OpV)
  av : Blk
  rv : Blk
  lv : Blk
  nv : Blk
  gv : Blk
  dv : Blk
  mv : Nat → Blk
  ls : Nat → List RX
  pt : List RT
  ab : Nat
  ac : Nat
  all : Vw
  next : Int
def RP.rm (p : RP) : RM := ⟨p.prog, fun l => (p.ls l).map RX.x, p.pt.map RT.th, p.all, p.next⟩

def hdR (pg ah rh lh nh gh dh all next : Value) : List Value := [pg, ah, rh, lh, nh, gh, dh, all, next]
abbrev rrow (b : Blk) (n : Nat) : Value := rowV b.1 n b.2.1
def RT.atV (q : RT) : Value := vi q.th.at_
def RT.rdV (q : RT) : Value := osv q.ov q.th.read.length
def RT.nowV (q : RT) : Value := rowV q.nb 3 q.nc
def RT.gainedV (q : RT) : Value := rowV q.gb 3 q.gc
def RT.givenV (q : RT) : Value := rowV q.db 3 q.dc
def lsV (mv : Nat → Blk) (ls : Nat → List RX) (l : Nat) : Value := rrow (mv l) (ls l).length
def lhC (h : Nat → Value) (sp : List Value) : List Value := h 0 :: h 1 :: h 2 :: sp
def lsG (mv : Nat → Blk) (ls : Nat → List RX) : Own :=
  [((mv 0).1, Cl 86 ((ls 0).flatMap encX ++ (mv 0).2.2)), ((mv 1).1, Cl 86 ((ls 1).flatMap encX ++ (mv 1).2.2)), ((mv 2).1, Cl 86 ((ls 2).flatMap encX ++ (mv 2).2.2))]
def rdsR (pt : List RT) : Own := pt.flatMap fun q => osg 3 q.ov (q.th.read.map vi)
def RP.hd (p : RP) : List Value := hdR (.slice p.pg p.prog.length p.pc) (rrow p.av p.pt.length) (rrow p.rv p.pt.length) (rrow p.lv 3) (rrow p.nv p.pt.length) (rrow p.gv p.pt.length) (rrow p.dv p.pt.length) (rowV p.ab 3 p.ac) (vi p.next)
def RP.G (p : RP) (mp : Nat) : Own :=
  (mp, Cl 84 p.hd) :: (p.av.1, Cl 3 (p.pt.map RT.atV ++ p.av.2.2)) :: (p.rv.1, Cl 32 (p.pt.map RT.rdV ++ p.rv.2.2)) ::
  (p.lv.1, Cl 87 (lhC (lsV p.mv p.ls) p.lv.2.2)) :: (p.nv.1, Cl 32 (p.pt.map RT.nowV ++ p.nv.2.2)) :: (p.gv.1, Cl 32 (p.pt.map RT.gainedV ++ p.gv.2.2)) :: (p.dv.1, Cl 32 (p.pt.map RT.givenV ++ p.dv.2.2)) ::
  (lsG p.mv p.ls ++ rdsR p.pt)

structure RT.Vs (M : PHeap) (q : RT) : Prop where
  now : VR M q.nb q.th.now
  gained : VR M q.gb q.th.gained
  given : VR M q.db q.th.given
structure RP.Vs (M : PHeap) (p : RP) : Prop where
  pg : SlSl M 5 encOp (.slice p.pg p.prog.length p.pc) p.prog
  th : ∀ q ∈ p.pt, q.Vs M
  ls : ∀ l, l < 3 → ∀ q ∈ p.ls l, VR M q.b q.x.view
  all : VR M p.ab p.all
theorem RT.Vs.mono {M M' : PHeap} {q : RT} (h : M.le M') (v : q.Vs M) : q.Vs M' := ⟨v.now.mono h, v.gained.mono h, v.given.mono h⟩
theorem RP.Vs.mono {M M' : PHeap} {p : RP} (h : M.le M') (v : p.Vs M) : p.Vs M' := ⟨v.pg.mono h, fun q hq => (v.th q hq).mono h, fun l hl q hq => (v.ls l hl q hq).mono h, v.all.mono h⟩

structure RP.Ok (p : RP) : Prop where
  rk : ∀ q ∈ p.pt, osok 1 q.ov q.th.read.length (q.th.read.map vi)
  mc : ∀ l, l < 3 → (p.ls l).length ≤ (p.mv l).2.1

structure RM.Wf (m : RM) (B : Nat) : Prop where
  b0 : B < 1000000
  pl : m.prog.length = m.thr.length
  tp : 0 < m.thr.length
  t3 : m.thr.length ≤ 3
  nx : ∀ i, i < m.thr.length → m.thr[i]!.at_ ≤ m.prog[i]!.length
  po : ∀ l ∈ m.prog, ∀ o ∈ l, okOpE o
  pb : ∀ l ∈ m.prog, l.length < 1000000
  lp : ∀ l, l < 3 → 0 < (m.lists l).length
  ll : ∀ l, l < 3 → (m.lists l).length ≤ B
  rb : ∀ t ∈ m.thr, t.read.length ≤ B
  nb : 0 ≤ m.next ∧ m.next ≤ B

/-- What may be read of a machine. -/
structure RdX (M : PHeap) (mp : Nat) (p : RP) : Prop where
  hd : rd M mp 0 9 p.hd
  av : rd M p.av.1 0 p.pt.length (p.pt.map RT.atV)
  rv : rd M p.rv.1 0 p.pt.length (p.pt.map RT.rdV)
  lv : rd M p.lv.1 0 3 (lhC (lsV p.mv p.ls) [])
  nv : rd M p.nv.1 0 p.pt.length (p.pt.map RT.nowV)
  ms : ∀ l, l < 3 → rd M (p.mv l).1 0 ((p.ls l).length * 4) ((p.ls l).flatMap encX)
  vs : p.Vs M
  rr : ∀ q ∈ p.pt, rdS M 1 (oad q.ov) q.th.read.length (q.th.read.map vi)

theorem RdX.mono {M M' : PHeap} {mp : Nat} {p : RP} (h : M.le M') (r : RdX M mp p) : RdX M' mp p :=
  ⟨r.hd.mono h, r.av.mono h, r.rv.mono h, r.lv.mono h, r.nv.mono h, fun l hl => (r.ms l hl).mono h, r.vs.mono h, fun q hq => (r.rr q hq).mono h⟩

section
variable {M : PHeap} {G : Own} {mp : Nat} {p : RP} {B : Nat}

theorem RP.rdX (ok : p.Ok) (vs : p.Vs M) (hG : ∀ q ∈ p.G mp, q ∈ G) : RdX (M.add G) mp p := by
  refine ⟨?_, ?_, ?_, ?_, ?_, ?_, vs.mono (PHeap.le_add _ _), ?_⟩
  · exact rd_mem0 (T := 84) (sp := []) (hG _ (by rw [List.append_nil]; simp [RP.G])) rfl
  · exact rd_mem0 (T := 3) (sp := p.av.2.2) (hG _ (by simp [RP.G])) (by simp)
  · exact rd_mem0 (T := 32) (sp := p.rv.2.2) (hG _ (by simp [RP.G])) (by simp)
  · exact rd_mem0 (T := 87) (sp := p.lv.2.2) (hG _ (by simp [RP.G, lhC])) rfl
  · exact rd_mem0 (T := 32) (sp := p.nv.2.2) (hG _ (by simp [RP.G])) (by simp)
  · intro l hl
    refine rd_mem0 (T := 86) (sp := (p.mv l).2.2) (hG _ ?_) (flatMap_length (enc := encX) (fun _ => rfl) _)
    match l, hl with
    | 0, _ => simp [RP.G, lsG]
    | 1, _ => simp [RP.G, lsG]
    | 2, _ => simp [RP.G, lsG]
  · intro q hq
    refine rd_osg (T := 3) (ok.rk q hq) (fun e he => hG e ?_)
    simp only [RP.G, List.mem_cons, List.mem_append, rdsR, List.mem_flatMap]
    exact .inr (.inr (.inr (.inr (.inr (.inr (.inr (.inr ⟨q, hq, he⟩)))))))

theorem RdX.h0 (r : RdX M mp p) : rd M mp 0 1 [.slice p.pg p.prog.length p.pc] := r.hd.part0 0 1 (by omega) rfl
theorem RdX.h1 (r : RdX M mp p) : rd M mp 1 1 [rrow p.av p.pt.length] := r.hd.part0 1 1 (by omega) rfl
theorem RdX.h2 (r : RdX M mp p) : rd M mp 2 1 [rrow p.rv p.pt.length] := r.hd.part0 2 1 (by omega) rfl
theorem RdX.h3 (r : RdX M mp p) : rd M mp 3 1 [rrow p.lv 3] := r.hd.part0 3 1 (by omega) rfl
theorem RdX.h4 (r : RdX M mp p) : rd M mp 4 1 [rrow p.nv p.pt.length] := r.hd.part0 4 1 (by omega) rfl
theorem RdX.at (r : RdX M mp p) {i : Nat} (hi : i < p.pt.length) : rd M p.av.1 i 1 [vi p.pt[i]!.th.at_] := r.av.part0 i 1 (by omega) (map_part RT.atV _ hi)
theorem RdX.read (r : RdX M mp p) {i : Nat} (hi : i < p.pt.length) : rd M p.rv.1 i 1 [.slice (oad p.pt[i]!.ov) p.pt[i]!.th.read.length (ocap p.pt[i]!.ov)] := r.rv.part0 i 1 (by omega) (map_part RT.rdV _ hi)
theorem RdX.now (r : RdX M mp p) {i : Nat} (hi : i < p.pt.length) : rd M p.nv.1 i 1 [rowV p.pt[i]!.nb 3 p.pt[i]!.nc] := r.nv.part0 i 1 (by omega) (map_part RT.nowV _ hi)
theorem RdX.list (r : RdX M mp p) {l : Nat} (hl : l < 3) : rd M p.lv.1 l 1 [rowV (p.mv l).1 (p.ls l).length (p.mv l).2.1] := by
  match l, hl with
  | 0, _ => exact r.lv.part0 0 1 (by omega) rfl
  | 1, _ => exact r.lv.part0 1 1 (by omega) rfl
  | 2, _ => exact r.lv.part0 2 1 (by omega) rfl
theorem RdX.msg (r : RdX M mp p) {l i : Nat} (hl : l < 3) (hi : i < (p.ls l).length) : rd M (p.mv l).1 (i * 4) 4 (encX (p.ls l)[i]!) := by
  have := (r.ms l hl).part0 (i * 4) 4 (by omega) (flatMap_part (enc := encX) (fun _ => rfl) hi)
  rwa [getB hi]
theorem RdX.mid (r : RdX M mp p) {l i : Nat} (hl : l < 3) (hi : i < (p.ls l).length) : rd M (p.mv l).1 (i * 4) 1 [vi (p.ls l)[i]!.x.id] := (r.msg hl hi).part' 0 1 (by omega) rfl
theorem RdX.mword (r : RdX M mp p) {l i : Nat} (hl : l < 3) (hi : i < (p.ls l).length) : rd M (p.mv l).1 (i * 4 + 1) 1 [vi (p.ls l)[i]!.x.word] := (r.msg hl hi).part' 1 1 (by omega) rfl
theorem RdX.mtied (r : RdX M mp p) {l i : Nat} (hl : l < 3) (hi : i < (p.ls l).length) : rd M (p.mv l).1 (i * 4 + 3) 1 [vb (p.ls l)[i]!.x.tied] := (r.msg hl hi).part' 3 1 (by omega) rfl

theorem map_at {α β : Type} [Inhabited α] [Inhabited β] (f : α → β) {l : List α} {i : Nat} (hi : i < l.length) : (l.map f)[i]! = f l[i]! := by
  rw [getB (by simpa using hi), getB hi]; simp

theorem RdX.line (r : RdX M mp p) (hb : ∀ l, l < 3 → (p.ls l).length < 1000000) : RdR M mp p.rm.ids :=
  ⟨_, _, r.h3, fun l hl => ⟨(p.mv l).1, (p.mv l).2.1, by simpa [RM.ids, RP.rm] using r.list hl, fun i hi => by
    have hi' : i < (p.ls l).length := by simpa [RM.ids, RP.rm] using hi
    have := r.mid hl hi'
    have e : (p.rm.ids l)[i]! = (p.ls l)[i]!.x.id := by
      simp only [RM.ids, RP.rm]
      rw [map_at _ (by simpa using hi'), map_at _ hi']
    rwa [e], by simpa [RM.ids, RP.rm] using hb l hl⟩⟩

theorem RM.Wf.bl (wf : p.rm.Wf B) : ∀ l, l < 3 → (p.ls l).length < 1000000 := fun l hl => by
  have h1 := wf.ll l hl
  have h2 := wf.b0
  simp only [RP.rm, List.length_map] at h1
  omega

theorem RdX.progAt (r : RdX M mp p) (wf : p.rm.Wf B) : ∃ pb po, p.pg = some ⟨pb, po, none⟩ ∧ ∀ i, i < p.pt.length → ∃ a c, rd M pb (po + i) 1 [.slice a p.prog[i]!.length c] ∧ rdS M 5 a p.prog[i]!.length (p.prog[i]!.flatMap encOp) := by
  obtain ⟨a, c, vs, he, hl, hrd, hk⟩ := r.vs.pg
  cases he
  have hpl : p.prog.length = p.pt.length := by simpa [RP.rm] using wf.pl
  have htp : 0 < p.pt.length := by simpa [RP.rm] using wf.tp
  obtain ⟨pb, po, epg, hat⟩ := SlSl.at hrd hl hk (by omega)
  refine ⟨pb, po, epg, fun i hi => ?_⟩
  obtain ⟨a', c', h1, h2⟩ := hat i (by omega)
  rw [getB (show i < p.prog.length by omega)]
  rw [Nat.mul_one] at h1
  exact ⟨a', c', h1, h2⟩

def RM.bad (m : RM) (who : Int) : Bool := decide (who < 0) || decide ((m.thr.length : Int) ≤ who)
def RM.leftOf (m : RM) (i : Nat) : Int := (m.prog[i]!.length : Int) - m.thr[i]!.at_
theorem RM.bad_no {m : RM} {who : Int} (h : ¬ m.bad who = true) : ∃ w : Nat, who = w ∧ w < m.thr.length := by
  simp [RM.bad] at h
  exact ⟨who.toNat, by omega, by omega⟩

theorem ref_isThread_q (r : RdX M mp p) (who : Int) : ConQ Try.prog 70 #[pv mp 0, vi who] M (vb (!p.rm.bad who)) := by
  have h1 := r.h1
  refine Con.enter Q37_ok (args := [pv mp 0, vi who]) (by simp [Q37]) fun w0 => ?_
  simp only [Q37, argE]
  repeat' first
      | refine EV.seq ?_
      | (refine EV.reg ?_; (conv => (arg 2; whnf)); simp only [push_cast, Int.cast_ofNat_Int, reduceIte, Nat.reduceEqDiff, reduceCtorEq, Nat.reduceAdd, Nat.reduceSub, Nat.reduceMul, Int.reduceToNat, Nat.reduceLeDiff])
      | assumption
      | (refine condW.merge ?_ (fun hc K' hK => ?_) ?_; rotate_left)
      | (refine EV.ret Q37_ok ?_; simp only [push_cast, Int.cast_ofNat_Int, reduceIte, Nat.reduceEqDiff, reduceCtorEq, Nat.reduceAdd, Nat.reduceSub, Nat.reduceMul, Int.reduceToNat, Nat.reduceLeDiff, Q37])
      | (refine Exists.intro _ (Exists.intro _ (Exists.intro _ (And.intro (rd_M (by assumption)) ?_))); try simp only [push_cast, Int.cast_ofNat_Int, reduceIte, Nat.reduceEqDiff, reduceCtorEq, Nat.reduceAdd, Nat.reduceSub, Nat.reduceMul, Int.reduceToNat, Nat.reduceLeDiff])
      | fail
  all_goals (simp only [RM.bad, RP.rm, List.length_map, vb]; congr 1; rw [Bool.eq_iff_iff]; simp <;> omega)

def RM.tiedTo (m : RM) (l i : Nat) : Bool := decide (i + 1 < (m.lists l).length) && (m.lists l)[i + 1]!.tied

theorem ref_tiedTo_q (r : RdX M mp p) (wf : p.rm.Wf B) {l i : Nat} (hl : l < 3) (hi : i < (p.ls l).length) : ConQ Try.prog 74 #[pv mp 0, vi l, vi i] M (vb (p.rm.tiedTo l i)) := by
  have h3 := r.h3
  have h4 := r.list hl
  have hb := wf.bl l hl
  refine Con.enter Q41_ok (args := [pv mp 0, vi l, vi i]) (by simp [Q41]) fun w0 => ?_
  simp only [Q41, argE]
  have hw : IntKind.i64.wrap ((i : Int) + 1) = ((i + 1 : Nat) : Int) := by rw [w64 (by omega) (by omega)]; omega
  have e : p.rm.tiedTo l i = (decide (i + 1 < (p.ls l).length) && (p.ls l)[i + 1]!.x.tied) := by
    simp only [RM.tiedTo, RP.rm, List.length_map]
    by_cases h1 : i + 1 < (p.ls l).length
    · rw [map_at _ h1]
    · simp [h1]
  rw [e]
  by_cases h1 : i + 1 < (p.ls l).length
  · have k4 := r.mtied hl h1
    have h1i : ((i : Int) + 1 < ((p.ls l).length : Int)) = True := eq_true (by omega)
    repeat' first
        | refine EV.seq ?_
        | (refine EV.reg ?_; (conv => (arg 2; whnf)); simp only [push_cast, Int.cast_ofNat_Int, reduceIte, Nat.reduceEqDiff, reduceCtorEq, Nat.reduceAdd, Nat.reduceSub, Nat.reduceMul, Int.reduceToNat, Nat.reduceLeDiff, hw, h1i])
        | assumption
        | (refine condW.merge ?_ (fun hc K' hK => ?_) ?_; rotate_left)
        | (refine EV.ret Q41_ok ?_; simp only [push_cast, Int.cast_ofNat_Int, reduceIte, Nat.reduceEqDiff, reduceCtorEq, Nat.reduceAdd, Nat.reduceSub, Nat.reduceMul, Int.reduceToNat, Nat.reduceLeDiff, hw, h1i, Q41])
        | (refine And.intro (by omega) ?_)
        | ((first | refine Exists.intro _ (And.intro (rd_M (by assumption)) ?_) | refine Exists.intro _ (Exists.intro _ (Exists.intro _ (And.intro (rd_M (by assumption)) ?_))) | fail); try simp only [push_cast, Int.cast_ofNat_Int, reduceIte, Nat.reduceEqDiff, reduceCtorEq, Nat.reduceAdd, Nat.reduceSub, Nat.reduceMul, Int.reduceToNat, Nat.reduceLeDiff, hw, h1i])
        | fail
    simp [h1]
  · have h1i : ((i : Int) + 1 < ((p.ls l).length : Int)) = False := eq_false (by omega)
    repeat' first
        | refine EV.seq ?_
        | (refine EV.reg ?_; (conv => (arg 2; whnf)); simp only [push_cast, Int.cast_ofNat_Int, reduceIte, Nat.reduceEqDiff, reduceCtorEq, Nat.reduceAdd, Nat.reduceSub, Nat.reduceMul, Int.reduceToNat, Nat.reduceLeDiff, hw, h1i])
        | (refine condW.merge ?_ (fun hc K' hK => ?_) ?_; rotate_left)
        | (refine EV.ret Q41_ok ?_; simp only [push_cast, Int.cast_ofNat_Int, reduceIte, Nat.reduceEqDiff, reduceCtorEq, Nat.reduceAdd, Nat.reduceSub, Nat.reduceMul, Int.reduceToNat, Nat.reduceLeDiff, hw, h1i, Q41])
        | (refine And.intro (by omega) ?_)
        | (refine Exists.intro _ (Exists.intro _ (Exists.intro _ (And.intro (rd_M (by assumption)) ?_))); try simp only [push_cast, Int.cast_ofNat_Int, reduceIte, Nat.reduceEqDiff, reduceCtorEq, Nat.reduceAdd, Nat.reduceSub, Nat.reduceMul, Int.reduceToNat, Nat.reduceLeDiff, hw, h1i])
        | (exfalso; simp at hc; done)
        | exact false
        | fail
    simp [h1]

end
end Go.EV

namespace Go.EV
open Go.Proofs

abbrev RCh := Int × Int × Bool
def encRC (c : RCh) : List Value := [vi c.1, vi c.2.1, vb c.2.2]
def RM.low (m : RM) (w : Nat) (o : OpV) : Nat := place m.ids o.loc.toNat (m.thr[w]!.now o.loc.toNat)
def RM.storeAt (m : RM) (l k : Nat) : List RCh := if decide (k = (m.lists l).length) || !(m.lists l)[k]!.tied then [(-1, (k : Int), true)] else []
def RM.hit (m : RM) (o : OpV) (k : Nat) : Bool := decide (o.kind = 2) || (decide (3 ≤ o.kind) && decide ((m.lists o.loc.toNat)[k]!.word = o.v))
def RM.chAt (m : RM) (o : OpV) (k : Nat) : List RCh :=
  (if m.hit o k && !m.tiedTo o.loc.toNat k then [((k : Int), (k : Int) + 1, true)] else []) ++ (if !m.hit o k || decide (o.kind = 4) then [((k : Int), -1, false)] else [])
def fromN {α : Type} (f : Nat → List α) (lo n : Nat) : List α := (List.range n).flatMap fun k => f (lo + k)
def RM.choices (m : RM) (w : Nat) (o : OpV) : List RCh :=
  if o.kind = 5 then [(-1, -1, false)]
  else if o.kind = 1 then fromN (m.storeAt o.loc.toNat) (m.low w o + 1) ((m.lists o.loc.toNat).length - m.low w o)
  else fromN (m.chAt o) (m.low w o) ((m.lists o.loc.toNat).length - m.low w o)

theorem fromN_succ {α : Type} (f : Nat → List α) (lo k : Nat) : fromN f lo (k + 1) = fromN f lo k ++ f (lo + k) := by simp [fromN, List.range_succ]
theorem fromN_len {α : Type} (f : Nat → List α) (lo : Nat) (h : ∀ k, (f k).length ≤ 2) : ∀ k, (fromN f lo k).length ≤ 2 * k
  | 0 => by simp [fromN]
  | k + 1 => by
    have := fromN_len f lo h k
    have h2 := h (lo + k)
    rw [fromN_succ, List.length_append]; omega
theorem storeAt_len (m : RM) (l k : Nat) : (m.storeAt l k).length ≤ 2 := by unfold RM.storeAt; split <;> simp
theorem chAt_len (m : RM) (o : OpV) (k : Nat) : (m.chAt o k).length ≤ 2 := by unfold RM.chAt; split <;> split <;> simp

/-- What a loop over places has gathered. -/
theorem fromN_fn {α : Type} (f : Nat → List α) (lo hi : Nat) (h : ∀ k, (f k).length ≤ 2) : ∃ CF : Nat → List α, fromN f lo (hi - lo) = CF hi ∧ CF lo = [] ∧ (∀ i, lo ≤ i → CF (i + 1) = CF i ++ f i) ∧ ∀ i, (CF i).length ≤ 2 * i := by
  refine ⟨fun i => fromN f lo (i - lo), rfl, by simp [fromN], fun i hi => ?_, fun i => ?_⟩
  · have e1 : i + 1 - lo = (i - lo) + 1 := by omega
    have e2 : lo + (i - lo) = i := by omega
    dsimp only
    rw [e1, fromN_succ, e2]
  · have := fromN_len f lo h (i - lo)
    dsimp only; omega

section
variable {M : PHeap} {mp : Nat} {p : RP} {B : Nat}

set_option maxRecDepth 8000 in
set_option maxHeartbeats 8000000 in
theorem ref_choices_c (r : RdX M mp p) (wf : p.rm.Wf B) {w : Nat} (hw : w < p.pt.length) (hat : p.pt[w]!.th.at_ < p.prog[w]!.length) (o : OpV) (hoe : p.prog[w]![p.pt[w]!.th.at_]! = o) (ho : okOpE o) : Con Try.prog 48 #[pv mp 0, vi w] M [] fun v _ G' =>
    ∃ ov, v = osv ov (p.rm.choices w o).length ∧ osok 3 ov (p.rm.choices w o).length ((p.rm.choices w o).flatMap encRC) ∧ G' = osg 89 ov ((p.rm.choices w o).flatMap encRC) := by
  obtain ⟨kd, lo, v, w', od⟩ := o
  obtain ⟨o1, o2, o3, o4, o5⟩ := ho
  dsimp only at o1 o2 o3 o4 o5
  obtain ⟨l, rfl⟩ : ∃ l : Nat, lo = l := ⟨lo.toNat, by omega⟩
  have hl : l < 3 := by omega
  have h0 := r.h0
  have h1 := r.h1
  have h3 := r.h3
  have h4 := r.h4
  have k1 := r.at hw
  have k3 := r.list hl
  have k4 := r.now hw
  have hlb := wf.bl l hl
  have hlp : 0 < (p.ls l).length := by simpa [RP.rm] using wf.lp l hl
  obtain ⟨pb, po, epg, hpg⟩ := r.progAt wf
  rw [epg] at h0
  obtain ⟨a', c', hr1, hr2⟩ := hpg w hw
  obtain ⟨qb, qo, rfl, hat2⟩ := Sl.at (enc := encOp) (fun _ => rfl) (by omega) hr2 (by omega)
  have hr3 := hat2 _ hat
  rw [← getB hat, hoe] at hr3
  have hpl : p.prog.length = p.pt.length := by simpa [RP.rm] using wf.pl
  have hth : p.rm.thr[w]! = p.pt[w]!.th := by simp only [RP.rm]; rw [map_at _ hw]
  have hvn : VR M p.pt[w]!.nb p.pt[w]!.th.now := (r.vs.th _ (by rw [getB hw]; exact List.getElem_mem _)).now
  have k5 := hvn.at hl
  refine Con.enter Q35_ok (args := [pv mp 0, vi w]) (by simp [Q35]) fun w0 => ?_
  simp only [Q35, argE]
  repeat' first
      | refine EV.seq ?_
      | refine EV.skip ?_
      | ((first | refine EV.reg ?_ | refine EV.any _ (List.Sublist.refl _) ?_ | fail); (conv => (arg 2; whnf)); simp only [push_cast, Int.cast_ofNat_Int, reduceIte, Nat.reduceEqDiff, reduceCtorEq, Nat.reduceAdd, Nat.reduceSub, Nat.reduceMul, Int.reduceToNat, Nat.reduceLeDiff])
      | ((refine EV.cond rfl (fun h => ?_) (fun h => ?_) <;> try simp only [reduceCtorEq, reduceIte, if_true, if_false, Bool.not_eq_true', Bool.not_eq_false', decide_eq_true_eq, decide_eq_false_iff_not, Bool.and_eq_true, Bool.or_eq_true, Bool.and_eq_false_iff, Bool.or_eq_false_iff] at h) <;> try (exfalso; first | exact h True.intro | (exact h; done) | omega | (simp only [not_true_eq_false, false_or, or_false] at h; omega)))
      | (with_reducible intro b; try simp only [push_cast, Int.cast_ofNat_Int, reduceIte, Nat.reduceEqDiff, reduceCtorEq, Nat.reduceAdd, Nat.reduceSub, Nat.reduceMul, Int.reduceToNat, Nat.reduceLeDiff])
      | (refine And.intro (by omega) ?_)
      | ((first | refine Exists.intro _ (And.intro (rd_M (by assumption)) ?_) | refine Exists.intro _ (Exists.intro _ (Exists.intro _ (And.intro (rd_M (by assumption)) ?_))) | refine xi rfl (by simp only [List.length_cons, List.length_nil]; omega) ?_ | fail); try simp only [push_cast, Int.cast_ofNat_Int, reduceIte, Nat.reduceEqDiff, reduceCtorEq, Nat.reduceAdd, Nat.reduceSub, Nat.reduceMul, Int.reduceToNat, Nat.reduceLeDiff])
      | (refine xw ?_; simp only [push_cast, Int.cast_ofNat_Int, reduceIte, Nat.reduceEqDiff, reduceCtorEq, Nat.reduceAdd, Nat.reduceSub, Nat.reduceMul, Int.reduceToNat, Nat.reduceLeDiff])
      | (refine And.intro (PHeap.le_refl _) (And.intro (fun p hp => List.mem_cons_of_mem _ hp) ?_))
      | fail
  · refine EV.to (ρ' := [(4, rowV b 1 1)]) (G' := [(b, Cl 89 [vi (-1), vi (-1), vb false])]) ?_ ?env0 (by (repeat' first | exact List.Sublist.refl _ | exact List.nil_sublist _ | exact List.sublist_append_left _ _ | refine List.Sublist.cons_cons _ ?_ | refine List.Sublist.append_left ?_ _ | refine List.sublist_append_of_sublist_right ?_ | refine List.Sublist.cons _ ?_))
    case env0 =>
      repeat' first
        | (refine List.forall_mem_cons.2 (And.intro ?_ ?_))
        | (intro _ hnil; cases hnil; done)
        | rfl
        | fail
    refine EV.ret Q35_ok ?_
    simp only [push_cast, Int.cast_ofNat_Int, reduceIte, Nat.reduceEqDiff, reduceCtorEq, Nat.reduceAdd, Nat.reduceSub, Nat.reduceMul, Int.reduceToNat, Nat.reduceLeDiff, Q35]
    have e : p.rm.choices w ⟨kd, l, v, w', od⟩ = [(-1, -1, false)] := by simp only [RM.choices, if_pos h]
    rw [e]
    exact ⟨some (b, 1, []), rfl, ⟨rfl, rfl, Nat.le_refl _, by simp [maxLen]⟩, rfl⟩
  · have h5 := h
    repeat' first
        | refine EV.seq ?_
        | refine EV.skip ?_
        | refine EV.block ?_
        | (refine EV.reg ?_; (conv => (arg 2; whnf)); simp only [push_cast, Int.cast_ofNat_Int, reduceIte, Nat.reduceEqDiff, reduceCtorEq, Nat.reduceAdd, Nat.reduceSub, Nat.reduceMul, Int.reduceToNat, Nat.reduceLeDiff])
        | (refine Exists.intro _ (And.intro (ref_place_q ((r.mono (PHeap.le_add _ _)).line wf.bl) hl _) ?_); try simp only [push_cast, Int.cast_ofNat_Int, reduceIte, Nat.reduceEqDiff, reduceCtorEq, Nat.reduceAdd, Nat.reduceSub, Nat.reduceMul, Int.reduceToNat, Nat.reduceLeDiff])
        | ((refine EV.cond rfl (fun h => ?_) (fun h => ?_) <;> try simp only [reduceCtorEq, reduceIte, if_true, if_false, Bool.not_eq_true', Bool.not_eq_false', decide_eq_true_eq, decide_eq_false_iff_not, Bool.and_eq_true, Bool.or_eq_true, Bool.and_eq_false_iff, Bool.or_eq_false_iff] at h) <;> try (exfalso; first | exact h True.intro | (exact h; done) | omega | (simp only [not_true_eq_false, false_or, or_false] at h; omega)))
        | (refine xi rfl (by simp only [List.length_cons, List.length_nil]; omega) ?_; try simp only [push_cast, Int.cast_ofNat_Int, reduceIte, Nat.reduceEqDiff, reduceCtorEq, Nat.reduceAdd, Nat.reduceSub, Nat.reduceMul, Int.reduceToNat, Nat.reduceLeDiff])
        | fail
    all_goals
      have hll : (p.rm.ids l).length = (p.ls l).length := by simp [RM.ids, RP.rm]
      have hlm : (p.rm.lists l).length = (p.ls l).length := by simp [RP.rm]
      have hplt := place_lt p.rm.ids l (p.pt[w]!.th.now l) (by omega)
      rw [hll] at hplt
      have hlow : ∀ v w' od, p.rm.low w ⟨kd, l, v, w', od⟩ = place p.rm.ids l (p.pt[w]!.th.now l) := fun v w' od => by simp only [RM.low, hth, Int.toNat_natCast]
      refine EV.freeze (G₁ := [_]) (G₂ := []) ?_
      generalize hN : M.add [(b, Cl 55 [vi kd, vi l, vi v, vi w', vi od])] = N
      have hMN : M.le N := hN ▸ PHeap.le_add _ _
      have hk0 : rd N b 0 1 [vi kd] := hN ▸ rd_own' 0 rfl rfl (by simp)
      have hk1 : rd N b 1 1 [vi l] := hN ▸ rd_own' 0 rfl rfl (by simp)
      have hk2 : rd N b 2 1 [vi v] := hN ▸ rd_own' 0 rfl rfl (by simp)
      clear hN h0 h1 h3 h4 k1 k3 k4 k5 hr1 hr2 hr3 hpg hat2
      have rN := r.mono hMN
    · have hch : p.rm.choices w ⟨kd, l, v, w', od⟩ = fromN (p.rm.storeAt l) (place p.rm.ids l (p.pt[w]!.th.now l) + 1) ((p.ls l).length + 1 - (place p.rm.ids l (p.pt[w]!.th.now l) + 1)) := by
        simp only [RM.choices, if_neg h5, if_pos h, hlow, Int.toNat_natCast, hlm]
        congr 1; omega
      rw [hch]
      generalize place p.rm.ids l (p.pt[w]!.th.now l) = lo at hplt ⊢
      obtain ⟨CF, hCe, hC0, hCs, hCl⟩ := fromN_fn (p.rm.storeAt l) (lo + 1) ((p.ls l).length + 1) (storeAt_len _ _)
      rw [hCe]
      refine EV.to (ρ' := [(0, pv mp 0), (5, pv b 0), (6, osv none (CF (lo + 1)).length), (7, rowV (p.mv l).1 (p.ls l).length (p.mv l).2.1), (9, vi (lo + 1 : Nat))]) (G' := osg 89 none ((CF (lo + 1)).flatMap encRC)) ?_ ?env1 (by (repeat' first | exact List.Sublist.refl _ | exact List.nil_sublist _ | exact List.sublist_append_left _ _ | refine List.Sublist.cons_cons _ ?_ | refine List.Sublist.append_left ?_ _ | refine List.sublist_append_of_sublist_right ?_ | refine List.Sublist.cons _ ?_))
      case env1 =>
        rw [hC0]
        repeat' first
          | (refine List.forall_mem_cons.2 (And.intro ?_ ?_))
          | (intro _ hnil; cases hnil; done)
          | rfl
          | (refine env_w64 rfl (by first | rfl | (push_cast; first | rfl | omega)) (by omega) (by omega); done)
          | fail
      refine EV.loop (fun x : Nat × Vec => ([(0, pv mp 0), (5, pv b 0), (6, osv x.2 (CF x.1).length), (7, rowV (p.mv l).1 (p.ls l).length (p.mv l).2.1), (9, vi x.1)], N, osg 89 x.2 ((CF x.1).flatMap encRC)))
        (fun x => lo + 1 ≤ x.1 ∧ x.1 ≤ (p.ls l).length + 1 ∧ osok 3 x.2 (CF x.1).length ((CF x.1).flatMap encRC))
        (fun x => (p.ls l).length + 1 - x.1) (lo + 1, none) ⟨Nat.le_refl _, by dsimp only; omega, by rw [hC0]; exact ⟨rfl, rfl⟩⟩ ?_
      rintro ⟨i, ov⟩ ⟨hlo, hk, hov⟩ ih
      dsimp only at hlo hk hov ih ⊢
      have hC1 := hCs i hlo
      have hC2 := hCl i
      have hAt : p.rm.storeAt l i = if decide (i = (p.ls l).length) || !(p.ls l)[i]!.x.tied then [(-1, (i : Int), true)] else [] := by
        simp only [RM.storeAt, hlm]
        by_cases h : i < (p.ls l).length
        · have : (p.rm.lists l)[i]! = (p.ls l)[i]!.x := by simp only [RP.rm]; rw [map_at _ h]
          rw [this]
        · by_cases h2 : i = (p.ls l).length
          · simp [h2]
          · have h3 : (p.rm.lists l)[i]! = default := by
              rw [getElem!_neg]; rw [hlm]; omega
            have h4 : (p.ls l)[i]! = default := by
              rw [getElem!_neg]; omega
            rw [h3, h4]; rfl
      have hone : ∀ o1, osok 3 o1 ((CF i).length + 1) ((CF i).flatMap encRC ++ encRC (-1, (i : Int), true)) → p.rm.storeAt l i = [(-1, (i : Int), true)] → osok 3 o1 (CF (i + 1)).length ((CF (i + 1)).flatMap encRC) := fun o1 h1 h2 => by
        rw [hC1, h2]; simpa using h1
      by_cases hcs : i < (p.ls l).length
      · have hty := rN.mtied hl hcs
        have hie : ((i : Int) = ((p.ls l).length : Int)) = False := eq_false (by omega)
        repeat' first
            | refine EV.seq ?_
            | refine EV.skip ?_
            | refine EV.block ?_
            | refine EV.inBlock ?_
            | (refine EV.reg ?_; (conv => (arg 2; whnf)); simp only [push_cast, Int.cast_ofNat_Int, reduceIte, Nat.reduceEqDiff, reduceCtorEq, Nat.reduceAdd, Nat.reduceSub, Nat.reduceMul, Int.reduceToNat, Nat.reduceLeDiff, hie])
            | assumption
            | (refine condW.merge ?_ (fun hc K' hK => ?_) ?_; rotate_left)
            | ((refine EV.cond rfl (fun h => ?_) (fun h => ?_) <;> try simp only [reduceCtorEq, reduceIte, if_true, if_false, Bool.not_eq_true', Bool.not_eq_false', decide_eq_true_eq, decide_eq_false_iff_not, Bool.and_eq_true, Bool.or_eq_true, Bool.and_eq_false_iff, Bool.or_eq_false_iff] at h) <;> try (exfalso; first | exact h True.intro | (exact h; done) | omega | (simp only [not_true_eq_false, false_or, or_false] at h; omega)))
            | (with_reducible intro b; try simp only [push_cast, Int.cast_ofNat_Int, reduceIte, Nat.reduceEqDiff, reduceCtorEq, Nat.reduceAdd, Nat.reduceSub, Nat.reduceMul, Int.reduceToNat, Nat.reduceLeDiff, hie])
            | (refine And.intro (by omega) ?_)
            | (refine Exists.intro _ (And.intro (rd_M (by assumption)) ?_); try simp only [push_cast, Int.cast_ofNat_Int, reduceIte, Nat.reduceEqDiff, reduceCtorEq, Nat.reduceAdd, Nat.reduceSub, Nat.reduceMul, Int.reduceToNat, Nat.reduceLeDiff, hie])
            | fail
        · refine ⟨_, Or.inr ⟨_, 0, rfl, rd_own' 0 rfl rfl (by simp)⟩, by simp [ok1_cons, ok1_nil, Value.oneCell'], Or.inl ⟨_, _, rfl, _, hov, _, cat_pull [[_], osg 89 ov _] 1 (by simp), ?_, ?_, ?_⟩⟩
          · simp only [maxLen]; omega
          · omega
          intro o1 ho1 _
          simp only [List.eraseIdx_cons_succ, List.eraseIdx_cons_zero, List.getElem_cons_succ, List.getElem_cons_zero, cat_two, cat_one, cat_nil, List.nil_append, List.cons_append, List.append_assoc, List.append_nil]
          repeat' first
              | refine EV.inBlock ?_
              | (refine EV.reg ?_; (conv => (arg 2; whnf)); simp only [push_cast, Int.cast_ofNat_Int, reduceIte, Nat.reduceEqDiff, reduceCtorEq, Nat.reduceAdd, Nat.reduceSub, Nat.reduceMul, Int.reduceToNat, Nat.reduceLeDiff])
              | fail
          have e := hAt
          rw [if_pos (by simp_all)] at e
          have ih3 := ih (i + 1, o1) ⟨by dsimp only; omega, by dsimp only; omega, hone _ ho1 e⟩ (by dsimp only; omega)
          simp only [hC1, e, List.length_append, List.flatMap_append] at ih3
          refine EV.to ih3 ?_ (by (repeat' first | exact List.Sublist.refl _ | exact List.nil_sublist _ | exact List.sublist_append_left _ _ | refine List.Sublist.cons_cons _ ?_ | refine List.Sublist.append_left ?_ _ | refine List.sublist_append_of_sublist_right ?_ | refine List.Sublist.cons _ ?_))
          repeat' first
            | (refine List.forall_mem_cons.2 (And.intro ?_ ?_))
            | (intro _ hnil; cases hnil; done)
            | rfl
            | (refine env_w64 rfl (by first | rfl | (push_cast; first | rfl | omega)) (by omega) (by omega); done)
            | fail
        · have e := hAt
          rw [if_neg (by simp_all; omega)] at e
          have ih3 := ih (i + 1, ov) ⟨by dsimp only; omega, by dsimp only; omega, by rw [hC1, e]; simpa using hov⟩ (by dsimp only; omega)
          simp only [hC1, e, List.append_nil] at ih3
          refine EV.to ih3 ?_ (by (repeat' first | exact List.Sublist.refl _ | exact List.nil_sublist _ | exact List.sublist_append_left _ _ | refine List.Sublist.cons_cons _ ?_ | refine List.Sublist.append_left ?_ _ | refine List.sublist_append_of_sublist_right ?_ | refine List.Sublist.cons _ ?_))
          repeat' first
            | (refine List.forall_mem_cons.2 (And.intro ?_ ?_))
            | (intro _ hnil; cases hnil; done)
            | rfl
            | (refine env_w64 rfl (by first | rfl | (push_cast; first | rfl | omega)) (by omega) (by omega); done)
            | fail
      by_cases hie : i = (p.ls l).length
      · have hie' : ((i : Int) = ((p.ls l).length : Int)) = True := eq_true (by omega)
        repeat' first
            | refine EV.seq ?_
            | refine EV.skip ?_
            | refine EV.block ?_
            | refine EV.inBlock ?_
            | (refine EV.reg ?_; (conv => (arg 2; whnf)); simp only [push_cast, Int.cast_ofNat_Int, reduceIte, Nat.reduceEqDiff, reduceCtorEq, Nat.reduceAdd, Nat.reduceSub, Nat.reduceMul, Int.reduceToNat, Nat.reduceLeDiff, hie'])
            | (refine condW.merge ?_ (fun hc K' hK => ?_) ?_; rotate_left)
            | ((refine EV.cond rfl (fun h => ?_) (fun h => ?_) <;> try simp only [reduceCtorEq, reduceIte, if_true, if_false, Bool.not_eq_true', Bool.not_eq_false', decide_eq_true_eq, decide_eq_false_iff_not, Bool.and_eq_true, Bool.or_eq_true, Bool.and_eq_false_iff, Bool.or_eq_false_iff] at h) <;> try (exfalso; first | exact h True.intro | (exact h; done) | omega | (simp only [not_true_eq_false, false_or, or_false] at h; omega)))
            | (with_reducible intro b; try simp only [push_cast, Int.cast_ofNat_Int, reduceIte, Nat.reduceEqDiff, reduceCtorEq, Nat.reduceAdd, Nat.reduceSub, Nat.reduceMul, Int.reduceToNat, Nat.reduceLeDiff, hie'])
            | (refine And.intro (by omega) ?_)
            | (exfalso; simp at hc; done)
            | exact false
            | fail
        · refine ⟨_, Or.inr ⟨_, 0, rfl, rd_own' 0 rfl rfl (by simp)⟩, by simp [ok1_cons, ok1_nil, Value.oneCell'], Or.inl ⟨_, _, rfl, _, hov, _, cat_pull [[_], osg 89 ov _] 1 (by simp), ?_, ?_, ?_⟩⟩
          · simp only [maxLen]; omega
          · omega
          intro o1 ho1 _
          simp only [List.eraseIdx_cons_succ, List.eraseIdx_cons_zero, List.getElem_cons_succ, List.getElem_cons_zero, cat_two, cat_one, cat_nil, List.nil_append, List.cons_append, List.append_assoc, List.append_nil]
          repeat' first
              | refine EV.inBlock ?_
              | (refine EV.reg ?_; (conv => (arg 2; whnf)); simp only [push_cast, Int.cast_ofNat_Int, reduceIte, Nat.reduceEqDiff, reduceCtorEq, Nat.reduceAdd, Nat.reduceSub, Nat.reduceMul, Int.reduceToNat, Nat.reduceLeDiff])
              | fail
          have e := hAt
          rw [if_pos (by simp [hie])] at e
          have ih3 := ih (i + 1, o1) ⟨by dsimp only; omega, by dsimp only; omega, hone _ ho1 e⟩ (by dsimp only; omega)
          simp only [hC1, e, List.length_append, List.flatMap_append] at ih3
          refine EV.to ih3 ?_ (by (repeat' first | exact List.Sublist.refl _ | exact List.nil_sublist _ | exact List.sublist_append_left _ _ | refine List.Sublist.cons_cons _ ?_ | refine List.Sublist.append_left ?_ _ | refine List.sublist_append_of_sublist_right ?_ | refine List.Sublist.cons _ ?_))
          repeat' first
            | (refine List.forall_mem_cons.2 (And.intro ?_ ?_))
            | (intro _ hnil; cases hnil; done)
            | rfl
            | (refine env_w64 rfl (by first | rfl | (push_cast; first | rfl | omega)) (by omega) (by omega); done)
            | fail
        · exact absurd True.intro h.1
      · have e : i = (p.ls l).length + 1 := by omega
        subst e
        repeat' first
            | refine EV.seq ?_
            | (refine EV.reg ?_; (conv => (arg 2; whnf)); simp only [push_cast, Int.cast_ofNat_Int, reduceIte, Nat.reduceEqDiff, reduceCtorEq, Nat.reduceAdd, Nat.reduceSub, Nat.reduceMul, Int.reduceToNat, Nat.reduceLeDiff])
            | ((refine EV.cond rfl (fun h => ?_) (fun h => ?_) <;> try simp only [reduceCtorEq, reduceIte, if_true, if_false, Bool.not_eq_true', Bool.not_eq_false', decide_eq_true_eq, decide_eq_false_iff_not, Bool.and_eq_true, Bool.or_eq_true, Bool.and_eq_false_iff, Bool.or_eq_false_iff] at h) <;> try (exfalso; first | exact h True.intro | (exact h; done) | omega | (simp only [not_true_eq_false, false_or, or_false] at h; omega)))
            | (refine EV.exit rfl ?_)
            | (refine EV.ret Q35_ok ?_; simp only [push_cast, Int.cast_ofNat_Int, reduceIte, Nat.reduceEqDiff, reduceCtorEq, Nat.reduceAdd, Nat.reduceSub, Nat.reduceMul, Int.reduceToNat, Nat.reduceLeDiff, Q35])
            | fail
        exact ⟨ov, rfl, hov, rfl⟩
    · have hch : p.rm.choices w ⟨kd, l, v, w', od⟩ = fromN (p.rm.chAt ⟨kd, l, v, w', od⟩) (place p.rm.ids l (p.pt[w]!.th.now l)) ((p.ls l).length - place p.rm.ids l (p.pt[w]!.th.now l)) := by
        simp only [RM.choices, if_neg h5, if_neg h, hlow, Int.toNat_natCast, hlm]
      rw [hch]
      generalize place p.rm.ids l (p.pt[w]!.th.now l) = lo at hplt ⊢
      obtain ⟨CF, hCe, hC0, hCs, hCl⟩ := fromN_fn (p.rm.chAt ⟨kd, l, v, w', od⟩) lo (p.ls l).length (chAt_len _ _)
      rw [hCe]
      refine EV.to (ρ' := [(0, pv mp 0), (5, pv b 0), (6, osv none (CF lo).length), (7, rowV (p.mv l).1 (p.ls l).length (p.mv l).2.1), (10, vi lo)]) (G' := osg 89 none ((CF lo).flatMap encRC)) ?_ ?env2 (by (repeat' first | exact List.Sublist.refl _ | exact List.nil_sublist _ | exact List.sublist_append_left _ _ | refine List.Sublist.cons_cons _ ?_ | refine List.Sublist.append_left ?_ _ | refine List.sublist_append_of_sublist_right ?_ | refine List.Sublist.cons _ ?_))
      case env2 =>
        rw [hC0]
        repeat' first
          | (refine List.forall_mem_cons.2 (And.intro ?_ ?_))
          | (intro _ hnil; cases hnil; done)
          | rfl
          | fail
      refine EV.loop (fun x : Nat × Vec => ([(0, pv mp 0), (5, pv b 0), (6, osv x.2 (CF x.1).length), (7, rowV (p.mv l).1 (p.ls l).length (p.mv l).2.1), (10, vi x.1)], N, osg 89 x.2 ((CF x.1).flatMap encRC)))
        (fun x => lo ≤ x.1 ∧ x.1 ≤ (p.ls l).length ∧ osok 3 x.2 (CF x.1).length ((CF x.1).flatMap encRC))
        (fun x => (p.ls l).length - x.1) (lo, none) ⟨Nat.le_refl _, by dsimp only; omega, by rw [hC0]; exact ⟨rfl, rfl⟩⟩ ?_
      rintro ⟨i, ov⟩ ⟨hlo, hk, hov⟩ ih
      dsimp only at hlo hk hov ih ⊢
      have hC1 := hCs i hlo
      have hC2 := hCl i
      have hw1 : IntKind.i64.wrap ((i : Int) + 1) = (i : Int) + 1 := w64 (by omega) (by omega)
      repeat' first
          | refine EV.seq ?_
          | refine EV.skip ?_
          | refine EV.block ?_
          | (refine EV.reg ?_; (conv => (arg 2; whnf)); simp only [push_cast, Int.cast_ofNat_Int, reduceIte, Nat.reduceEqDiff, reduceCtorEq, Nat.reduceAdd, Nat.reduceSub, Nat.reduceMul, Int.reduceToNat, Nat.reduceLeDiff])
          | ((refine EV.cond rfl (fun h => ?_) (fun h => ?_) <;> try simp only [reduceCtorEq, reduceIte, if_true, if_false, Bool.not_eq_true', Bool.not_eq_false', decide_eq_true_eq, decide_eq_false_iff_not, Bool.and_eq_true, Bool.or_eq_true, Bool.and_eq_false_iff, Bool.or_eq_false_iff] at h) <;> try (exfalso; first | exact h True.intro | (exact h; done) | omega | (simp only [not_true_eq_false, false_or, or_false] at h; omega)))
          | (refine EV.exit rfl ?_)
          | (refine Exists.intro _ (And.intro (rd_M (by assumption)) ?_); try simp only [push_cast, Int.cast_ofNat_Int, reduceIte, Nat.reduceEqDiff, reduceCtorEq, Nat.reduceAdd, Nat.reduceSub, Nat.reduceMul, Int.reduceToNat, Nat.reduceLeDiff])
          | fail
      · have hi : i < (p.ls l).length := by omega
        have hwd := rN.mword hl hi
        have hmw : (p.rm.lists l)[i]!.word = (p.ls l)[i]!.x.word := by simp only [RP.rm]; rw [map_at _ hi]
        have hAt : p.rm.chAt ⟨kd, l, v, w', od⟩ i = (if (decide (kd = 2) || (decide (3 ≤ kd) && decide ((p.ls l)[i]!.x.word = v))) && !p.rm.tiedTo l i then [((i : Int), (i : Int) + 1, true)] else []) ++ (if !(decide (kd = 2) || (decide (3 ≤ kd) && decide ((p.ls l)[i]!.x.word = v))) || decide (kd = 4) then [((i : Int), -1, false)] else []) := by
          simp only [RM.chAt, RM.hit, Int.toNat_natCast, hmw]
        repeat' first
            | refine EV.seq ?_
            | refine EV.skip ?_
            | refine EV.inBlock ?_
            | ((first | refine EV.reg ?_ | refine EV.any _ (List.Sublist.refl _) ?_ | fail); (conv => (arg 2; whnf)); simp only [push_cast, Int.cast_ofNat_Int, reduceIte, Nat.reduceEqDiff, reduceCtorEq, Nat.reduceAdd, Nat.reduceSub, Nat.reduceMul, Int.reduceToNat, Nat.reduceLeDiff, hw1])
            | (refine ConQ.call (ref_tiedTo_q (rN.mono (PHeap.le_add _ _)) wf hl hi) ?_; try simp only [push_cast, Int.cast_ofNat_Int, reduceIte, Nat.reduceEqDiff, reduceCtorEq, Nat.reduceAdd, Nat.reduceSub, Nat.reduceMul, Int.reduceToNat, Nat.reduceLeDiff, hw1])
            | assumption
            | (refine condW.merge ?_ (fun hc K' hK => ?_) ?_; rotate_left)
            | (refine condQ.mk ?_ (fun hc => ?_) ?_; rotate_left; (try simp only [decide_eq_true_eq, decide_eq_false_iff_not, Bool.not_eq_true', Bool.not_eq_false', Bool.and_eq_true, Bool.or_eq_true, Bool.and_eq_false_iff, Bool.or_eq_false_iff] at hc))
            | (with_reducible rfl)
            | ((refine EV.cond rfl (fun h => ?_) (fun h => ?_) <;> try simp only [reduceCtorEq, reduceIte, if_true, if_false, Bool.not_eq_true', Bool.not_eq_false', decide_eq_true_eq, decide_eq_false_iff_not, Bool.and_eq_true, Bool.or_eq_true, Bool.and_eq_false_iff, Bool.or_eq_false_iff] at h) <;> try (exfalso; first | exact h True.intro | (exact h; done) | omega | (simp only [not_true_eq_false, false_or, or_false] at h; omega)))
            | (with_reducible intro b; try simp only [push_cast, Int.cast_ofNat_Int, reduceIte, Nat.reduceEqDiff, reduceCtorEq, Nat.reduceAdd, Nat.reduceSub, Nat.reduceMul, Int.reduceToNat, Nat.reduceLeDiff, hw1])
            | (refine And.intro (by omega) ?_)
            | (refine Exists.intro _ (And.intro (rd_M (by assumption)) ?_); try simp only [push_cast, Int.cast_ofNat_Int, reduceIte, Nat.reduceEqDiff, reduceCtorEq, Nat.reduceAdd, Nat.reduceSub, Nat.reduceMul, Int.reduceToNat, Nat.reduceLeDiff, hw1])
            | fail
        · refine ⟨_, Or.inr ⟨_, 0, rfl, rd_own' 0 rfl rfl (by simp)⟩, by simp [ok1_cons, ok1_nil, Value.oneCell'], Or.inl ⟨_, _, rfl, _, hov, _, cat_pull [[_], osg 89 ov _] 1 (by simp), ?_, ?_, ?_⟩⟩
          · simp only [maxLen]; omega
          · omega
          intro o1 ho1 _
          simp only [List.eraseIdx_cons_succ, List.eraseIdx_cons_zero, List.getElem_cons_succ, List.getElem_cons_zero, cat_two, cat_one, cat_nil, List.nil_append, List.cons_append, List.append_assoc, List.append_nil]
          repeat' first
              | refine EV.seq ?_
              | refine EV.skip ?_
              | refine EV.inBlock ?_
              | (refine EV.reg ?_; (conv => (arg 2; whnf)); simp only [push_cast, Int.cast_ofNat_Int, reduceIte, Nat.reduceEqDiff, reduceCtorEq, Nat.reduceAdd, Nat.reduceSub, Nat.reduceMul, Int.reduceToNat, Nat.reduceLeDiff, hw1])
              | assumption
              | (refine condW.merge ?_ (fun hc K' hK => ?_) ?_; rotate_left)
              | ((refine EV.cond rfl (fun h => ?_) (fun h => ?_) <;> try simp only [reduceCtorEq, reduceIte, if_true, if_false, Bool.not_eq_true', Bool.not_eq_false', decide_eq_true_eq, decide_eq_false_iff_not, Bool.and_eq_true, Bool.or_eq_true, Bool.and_eq_false_iff, Bool.or_eq_false_iff] at h) <;> try (exfalso; first | exact h True.intro | (exact h; done) | omega | (simp only [not_true_eq_false, false_or, or_false] at h; omega)))
              | ((first | with_reducible intro b | refine Exists.intro _ (And.intro (rd_M (by assumption)) ?_) | fail); try simp only [push_cast, Int.cast_ofNat_Int, reduceIte, Nat.reduceEqDiff, reduceCtorEq, Nat.reduceAdd, Nat.reduceSub, Nat.reduceMul, Int.reduceToNat, Nat.reduceLeDiff, hw1])
              | fail
          · refine ⟨_, Or.inr ⟨_, 0, rfl, rd_own' 0 rfl rfl (by simp)⟩, by simp [ok1_cons, ok1_nil, Value.oneCell'], Or.inl ⟨_, _, rfl, _, ho1, _, cat_pull [[_, _], osg 89 o1 _] 1 (by simp), ?_, ?_, ?_⟩⟩
            · simp only [maxLen]; omega
            · omega
            intro o2 ho2 _
            simp only [List.eraseIdx_cons_succ, List.eraseIdx_cons_zero, List.getElem_cons_succ, List.getElem_cons_zero, cat_two, cat_one, cat_nil, List.nil_append, List.cons_append, List.append_assoc, List.append_nil]
            repeat' first
                | refine EV.inBlock ?_
                | (refine EV.reg ?_; (conv => (arg 2; whnf)); simp only [push_cast, Int.cast_ofNat_Int, reduceIte, Nat.reduceEqDiff, reduceCtorEq, Nat.reduceAdd, Nat.reduceSub, Nat.reduceMul, Int.reduceToNat, Nat.reduceLeDiff])
                | fail
            have e : CF (i + 1) = CF i ++ [((i : Int), (i : Int) + 1, true), ((i : Int), -1, false)] := by
              rw [hC1, hAt]; congr 1; clear ih hov ho1 ho2; grind
            have ih3 := ih (i + 1, o2) ⟨by dsimp only; omega, by dsimp only; omega, by rw [e]; simpa [encRC] using ho2⟩ (by dsimp only; omega)
            simp only [e, List.length_append, List.flatMap_append] at ih3
            refine EV.to ih3 ?_ (by (repeat' first | exact List.Sublist.refl _ | exact List.nil_sublist _ | exact List.sublist_append_left _ _ | refine List.Sublist.cons_cons _ ?_ | refine List.Sublist.append_left ?_ _ | refine List.sublist_append_of_sublist_right ?_ | refine List.Sublist.cons _ ?_))
            repeat' first
              | (refine List.forall_mem_cons.2 (And.intro ?_ ?_))
              | (intro _ hnil; cases hnil; done)
              | rfl
              | (refine env_w64 rfl (by first | rfl | (push_cast; first | rfl | omega)) (by omega) (by omega); done)
              | fail
          · have e : CF (i + 1) = CF i ++ [((i : Int), (i : Int) + 1, true)] := by
              rw [hC1, hAt]; congr 1; clear ih hov ho1; grind
            have ih3 := ih (i + 1, o1) ⟨by dsimp only; omega, by dsimp only; omega, by rw [e]; simpa [encRC] using ho1⟩ (by dsimp only; omega)
            simp only [e, List.length_append, List.flatMap_append] at ih3
            refine EV.to ih3 ?_ (by (repeat' first | exact List.Sublist.refl _ | exact List.nil_sublist _ | exact List.sublist_append_left _ _ | refine List.Sublist.cons_cons _ ?_ | refine List.Sublist.append_left ?_ _ | refine List.sublist_append_of_sublist_right ?_ | refine List.Sublist.cons _ ?_))
            repeat' first
              | (refine List.forall_mem_cons.2 (And.intro ?_ ?_))
              | (intro _ hnil; cases hnil; done)
              | rfl
              | fail
        · refine ⟨_, Or.inr ⟨_, 0, rfl, rd_own' 0 rfl rfl (by simp)⟩, by simp [ok1_cons, ok1_nil, Value.oneCell'], Or.inl ⟨_, _, rfl, _, hov, _, cat_pull [[_], osg 89 ov _] 1 (by simp), ?_, ?_, ?_⟩⟩
          · simp only [maxLen]; omega
          · omega
          intro o1 ho1 _
          simp only [List.eraseIdx_cons_succ, List.eraseIdx_cons_zero, List.getElem_cons_succ, List.getElem_cons_zero, cat_two, cat_one, cat_nil, List.nil_append, List.cons_append, List.append_assoc, List.append_nil]
          repeat' first
              | refine EV.inBlock ?_
              | (refine EV.reg ?_; (conv => (arg 2; whnf)); simp only [push_cast, Int.cast_ofNat_Int, reduceIte, Nat.reduceEqDiff, reduceCtorEq, Nat.reduceAdd, Nat.reduceSub, Nat.reduceMul, Int.reduceToNat, Nat.reduceLeDiff])
              | fail
          have e : CF (i + 1) = CF i ++ [((i : Int), -1, false)] := by
            rw [hC1, hAt]; congr 1; clear ih hov ho1; grind
          have ih3 := ih (i + 1, o1) ⟨by dsimp only; omega, by dsimp only; omega, by rw [e]; simpa [encRC] using ho1⟩ (by dsimp only; omega)
          simp only [e, List.length_append, List.flatMap_append] at ih3
          refine EV.to ih3 ?_ (by (repeat' first | exact List.Sublist.refl _ | exact List.nil_sublist _ | exact List.sublist_append_left _ _ | refine List.Sublist.cons_cons _ ?_ | refine List.Sublist.append_left ?_ _ | refine List.sublist_append_of_sublist_right ?_ | refine List.Sublist.cons _ ?_))
          repeat' first
            | (refine List.forall_mem_cons.2 (And.intro ?_ ?_))
            | (intro _ hnil; cases hnil; done)
            | rfl
            | (refine env_w64 rfl (by first | rfl | (push_cast; first | rfl | omega)) (by omega) (by omega); done)
            | fail
        · have e : CF (i + 1) = CF i := by
            rw [hC1, hAt]; clear ih hov; grind
          have ih3 := ih (i + 1, ov) ⟨by dsimp only; omega, by dsimp only; omega, by rw [e]; simpa using hov⟩ (by dsimp only; omega)
          simp only [e] at ih3
          refine EV.to ih3 ?_ (by (repeat' first | exact List.Sublist.refl _ | exact List.nil_sublist _ | exact List.sublist_append_left _ _ | refine List.Sublist.cons_cons _ ?_ | refine List.Sublist.append_left ?_ _ | refine List.sublist_append_of_sublist_right ?_ | refine List.Sublist.cons _ ?_))
          repeat' first
            | (refine List.forall_mem_cons.2 (And.intro ?_ ?_))
            | (intro _ hnil; cases hnil; done)
            | rfl
            | fail
      · have e : i = (p.ls l).length := by omega
        subst e
        repeat' first
            | (refine EV.ret Q35_ok ?_; simp only [push_cast, Int.cast_ofNat_Int, reduceIte, Nat.reduceEqDiff, reduceCtorEq, Nat.reduceAdd, Nat.reduceSub, Nat.reduceMul, Int.reduceToNat, Nat.reduceLeDiff, Q35])
            | fail
        exact ⟨ov, rfl, hov, rfl⟩

end
end Go.EV

namespace Go.EV
open Go.Proofs

def RM.turn (m : RM) (who : Int) : OpV × Int :=
  if m.bad who = true then (opZ, 1)
  else if m.thr[who.toNat]!.at_ = m.prog[who.toNat]!.length then (opZ, 7)
  else (m.prog[who.toNat]![m.thr[who.toNat]!.at_]!, 0)
def RM.leftR (m : RM) (who : Int) : Int × Int := if m.bad who then (0, 1) else (m.leftOf who.toNat, 0)
def RM.reachR (m : RM) (who loc : Int) : Int × Int :=
  if m.bad who || decide (loc < 0) || decide (3 ≤ loc) then (0, 1) else (place m.ids loc.toNat (m.thr[who.toNat]!.now loc.toNat), 0)
def RM.choicesR (m : RM) (who : Int) : Int × Int :=
  if (m.turn who).2 ≠ 0 then (0, (m.turn who).2) else ((m.choices who.toNat (m.turn who).1).length, 0)
def RM.lefts (m : RM) (n : Nat) : List Int := (List.range n).map m.leftOf
def RM.over (m : RM) : Bool := !((m.lefts m.thr.length).any fun x => decide (0 < x))
def RM.wordsR (m : RM) (loc : Int) : List Int × Int := if loc < 0 ∨ 3 ≤ loc then ([], 1) else ((m.lists loc.toNat).map RMsg.word, 0)
def RM.lastW (m : RM) (l : Nat) : Int := (m.lists l)[(m.lists l).length - 1]!.word
def RM.outcome (m : RM) : List Int := (m.thr.map RThr.read).flatten ++ (List.range 3).map m.lastW
def RM.outcomeR (m : RM) : List Int × Int := if m.over then (m.outcome, 0) else ([], 7)

section
variable {M : PHeap} {mp : Nat} {p : RP} {B : Nat}

/-- What a walk at one thread needs. -/
theorem RdX.prog1 (r : RdX M mp p) (wf : p.rm.Wf B) {w : Nat} (hw : w < p.pt.length) : ∃ pb po a c, p.pg = some ⟨pb, po, none⟩ ∧ w < p.prog.length ∧ rd M mp 0 1 [.slice (some ⟨pb, po, none⟩) p.prog.length p.pc] ∧ rd M pb (po + w) 1 [.slice a p.prog[w]!.length c] ∧ rdS M 5 a p.prog[w]!.length (p.prog[w]!.flatMap encOp) ∧ p.pt[w]!.th.at_ ≤ p.prog[w]!.length ∧ p.prog[w]!.length < 1000000 := by
  obtain ⟨pb, po, epg, hpg⟩ := r.progAt wf
  obtain ⟨a, c, h1, h2⟩ := hpg w hw
  have hpl : p.prog.length = p.pt.length := by simpa [RP.rm] using wf.pl
  have hnx := wf.nx w (by simpa [RP.rm] using hw)
  simp only [RP.rm] at hnx
  rw [map_at _ hw] at hnx
  refine ⟨pb, po, a, c, epg, by omega, epg ▸ r.h0, h1, h2, hnx, ?_⟩
  have := wf.pb p.prog[w]! (by rw [getB (by omega)]; exact List.getElem_mem _)
  exact this

theorem RP.thr_at {w : Nat} (hw : w < p.pt.length) : p.rm.thr[w]! = p.pt[w]!.th := by simp only [RP.rm]; rw [map_at _ hw]
theorem RP.leftOf_at {w : Nat} (hw : w < p.pt.length) : p.rm.leftOf w = (p.prog[w]!.length : Int) - p.pt[w]!.th.at_ := by
  simp only [RM.leftOf, RP.thr_at hw]; rfl
theorem RP.nthr : p.rm.thr.length = p.pt.length := by simp [RP.rm]
theorem RM.bad_ok {m : RM} {w : Nat} (h : w < m.thr.length) : m.bad w = false := by
  simp [RM.bad]; omega

theorem ref_Left_q (r : RdX M mp p) (wf : p.rm.Wf B) (who : Int) : ConQ Try.prog 45 #[pv mp 0, vi who] M (ie (p.rm.leftR who)) := by
  have h1 := r.h1
  refine Con.enter Q29_ok (args := [pv mp 0, vi who]) (by simp [Q29]) fun w0 => ?_
  simp only [Q29, argE]
  by_cases hb : p.rm.bad who = true
  · repeat' first
      | refine EV.seq ?_
      | (refine EV.reg ?_; (conv => (arg 2; whnf)); simp only [push_cast, Int.cast_ofNat_Int, reduceIte, Nat.reduceEqDiff, reduceCtorEq, Nat.reduceAdd, Nat.reduceSub, Nat.reduceMul, Int.reduceToNat, Nat.reduceLeDiff, hb])
      | (refine ConQ.call (ref_isThread_q (r.mono (PHeap.le_add _ _)) _) ?_; try simp only [push_cast, Int.cast_ofNat_Int, reduceIte, Nat.reduceEqDiff, reduceCtorEq, Nat.reduceAdd, Nat.reduceSub, Nat.reduceMul, Int.reduceToNat, Nat.reduceLeDiff, hb])
      | ((refine EV.cond rfl (fun h => ?_) (fun h => ?_) <;> try simp only [reduceCtorEq, reduceIte, if_true, if_false, Bool.not_eq_true', Bool.not_eq_false', decide_eq_true_eq, decide_eq_false_iff_not, Bool.and_eq_true, Bool.or_eq_true, Bool.and_eq_false_iff, Bool.or_eq_false_iff] at h) <;> try (exfalso; first | exact h True.intro | (exact h; done) | omega | (simp only [not_true_eq_false, false_or, or_false] at h; omega)))
      | (refine EV.ret Q29_ok ?_; simp only [push_cast, Int.cast_ofNat_Int, reduceIte, Nat.reduceEqDiff, reduceCtorEq, Nat.reduceAdd, Nat.reduceSub, Nat.reduceMul, Int.reduceToNat, Nat.reduceLeDiff, hb, Q29])
      | fail
    all_goals simp [RM.leftR, hb]
  · obtain ⟨w, rfl, hw⟩ := RM.bad_no hb
    have hw' : w < p.pt.length := by rwa [RP.nthr] at hw
    obtain ⟨pb, po, a, c, epg, hwp, k0, k1, k2, hnx, hpb⟩ := r.prog1 wf hw'
    have k3 := r.at hw'
    have hbf : p.rm.bad w = false := by simpa using hb
    have hwr : IntKind.i64.wrap ((p.prog[w]!.length : Int) - p.pt[w]!.th.at_) = (p.prog[w]!.length : Int) - p.pt[w]!.th.at_ := w64 (by omega) (by omega)
    repeat' first
        | refine EV.seq ?_
        | refine EV.skip ?_
        | ((first | refine EV.reg ?_ | refine EV.any _ (List.Sublist.refl _) ?_ | fail); (conv => (arg 2; whnf)); simp only [push_cast, Int.cast_ofNat_Int, reduceIte, Nat.reduceEqDiff, reduceCtorEq, Nat.reduceAdd, Nat.reduceSub, Nat.reduceMul, Int.reduceToNat, Nat.reduceLeDiff, hbf, hwr])
        | (refine ConQ.call (ref_isThread_q (r.mono (PHeap.le_add _ _)) _) ?_; try simp only [push_cast, Int.cast_ofNat_Int, reduceIte, Nat.reduceEqDiff, reduceCtorEq, Nat.reduceAdd, Nat.reduceSub, Nat.reduceMul, Int.reduceToNat, Nat.reduceLeDiff, hbf, hwr])
        | ((refine EV.cond rfl (fun h => ?_) (fun h => ?_) <;> try simp only [reduceCtorEq, reduceIte, if_true, if_false, Bool.not_eq_true', Bool.not_eq_false', decide_eq_true_eq, decide_eq_false_iff_not, Bool.and_eq_true, Bool.or_eq_true, Bool.and_eq_false_iff, Bool.or_eq_false_iff] at h) <;> try (exfalso; first | exact h True.intro | (exact h; done) | omega | (simp only [not_true_eq_false, false_or, or_false] at h; omega)))
        | (refine EV.ret Q29_ok ?_; simp only [push_cast, Int.cast_ofNat_Int, reduceIte, Nat.reduceEqDiff, reduceCtorEq, Nat.reduceAdd, Nat.reduceSub, Nat.reduceMul, Int.reduceToNat, Nat.reduceLeDiff, hbf, hwr, Q29])
        | (refine And.intro (by omega) ?_)
        | ((first | refine Exists.intro _ (And.intro (rd_M (by assumption)) ?_) | refine Exists.intro _ (Exists.intro _ (Exists.intro _ (And.intro (rd_M (by assumption)) ?_))) | fail); try simp only [push_cast, Int.cast_ofNat_Int, reduceIte, Nat.reduceEqDiff, reduceCtorEq, Nat.reduceAdd, Nat.reduceSub, Nat.reduceMul, Int.reduceToNat, Nat.reduceLeDiff, hbf, hwr])
        | fail
    all_goals (first | (simp [RM.leftR, hbf, RP.leftOf_at hw']; done) | skip)

theorem ref_Reach_q (r : RdX M mp p) (wf : p.rm.Wf B) (who loc : Int) : ConQ Try.prog 46 #[pv mp 0, vi who, vi loc] M (ie (p.rm.reachR who loc)) := by
  have h4 := r.h4
  refine Con.enter Q32_ok (args := [pv mp 0, vi who, vi loc]) (by simp [Q32]) fun w0 => ?_
  simp only [Q32, argE]
  by_cases hb : (p.rm.bad who || decide (loc < 0) || decide (3 ≤ loc)) = true
  · have hb2 : (p.rm.bad who = true ∨ loc < 0) ∨ 3 ≤ loc := by simpa using hb
    repeat' first
        | refine EV.seq ?_
        | refine EV.skip ?_
        | (refine EV.reg ?_; (conv => (arg 2; whnf)); simp only [push_cast, Int.cast_ofNat_Int, reduceIte, Nat.reduceEqDiff, reduceCtorEq, Nat.reduceAdd, Nat.reduceSub, Nat.reduceMul, Int.reduceToNat, Nat.reduceLeDiff])
        | (refine ConQ.call (ref_isThread_q (r.mono (PHeap.le_add _ _)) _) ?_; try simp only [push_cast, Int.cast_ofNat_Int, reduceIte, Nat.reduceEqDiff, reduceCtorEq, Nat.reduceAdd, Nat.reduceSub, Nat.reduceMul, Int.reduceToNat, Nat.reduceLeDiff])
        | assumption
        | (refine condW.merge ?_ (fun hc K' hK => ?_) ?_; rotate_left)
        | ((refine EV.cond rfl (fun h => ?_) (fun h => ?_) <;> try simp only [reduceCtorEq, reduceIte, if_true, if_false, Bool.not_eq_true', Bool.not_eq_false', decide_eq_true_eq, decide_eq_false_iff_not, Bool.and_eq_true, Bool.or_eq_true, Bool.and_eq_false_iff, Bool.or_eq_false_iff] at h) <;> try (exfalso; first | exact h True.intro | (exact h; done) | omega | (simp only [not_true_eq_false, false_or, or_false] at h; omega)))
        | (refine EV.ret Q32_ok ?_; simp only [push_cast, Int.cast_ofNat_Int, reduceIte, Nat.reduceEqDiff, reduceCtorEq, Nat.reduceAdd, Nat.reduceSub, Nat.reduceMul, Int.reduceToNat, Nat.reduceLeDiff, Q32])
        | (refine Exists.intro _ (Exists.intro _ (Exists.intro _ (And.intro (rd_M (by assumption)) ?_))); try simp only [push_cast, Int.cast_ofNat_Int, reduceIte, Nat.reduceEqDiff, reduceCtorEq, Nat.reduceAdd, Nat.reduceSub, Nat.reduceMul, Int.reduceToNat, Nat.reduceLeDiff])
        | fail
    all_goals (first | (simp only [RM.reachR, if_pos hb]; done) | (exfalso; simp_all <;> omega) | skip)
  · have hb2 : p.rm.bad who = false ∧ ¬ loc < 0 ∧ ¬ 3 ≤ loc := by simpa [and_assoc] using hb
    obtain ⟨w, rfl, hw⟩ := RM.bad_no (m := p.rm) (who := who) (by rw [hb2.1]; simp)
    have hw' : w < p.pt.length := by rwa [RP.nthr] at hw
    obtain ⟨l, rfl⟩ : ∃ l : Nat, loc = l := ⟨loc.toNat, by omega⟩
    have hl : l < 3 := by omega
    have k3 := r.now hw'
    have hvn : VR M p.pt[w]!.nb p.pt[w]!.th.now := (r.vs.th _ (by rw [getB hw']; exact List.getElem_mem _)).now
    have k5 := hvn.at hl
    repeat' first
        | refine EV.seq ?_
        | refine EV.skip ?_
        | (refine EV.reg ?_; (conv => (arg 2; whnf)); simp only [push_cast, Int.cast_ofNat_Int, reduceIte, Nat.reduceEqDiff, reduceCtorEq, Nat.reduceAdd, Nat.reduceSub, Nat.reduceMul, Int.reduceToNat, Nat.reduceLeDiff, hb2.1])
        | ((first | refine ConQ.call (ref_place_q ((r.mono (PHeap.le_add _ _)).line wf.bl) hl _) ?_ | refine ConQ.call (ref_isThread_q (r.mono (PHeap.le_add _ _)) _) ?_ | fail); try simp only [push_cast, Int.cast_ofNat_Int, reduceIte, Nat.reduceEqDiff, reduceCtorEq, Nat.reduceAdd, Nat.reduceSub, Nat.reduceMul, Int.reduceToNat, Nat.reduceLeDiff, hb2.1])
        | assumption
        | (refine condW.merge ?_ (fun hc K' hK => ?_) ?_; rotate_left)
        | ((refine EV.cond rfl (fun h => ?_) (fun h => ?_) <;> try simp only [reduceCtorEq, reduceIte, if_true, if_false, Bool.not_eq_true', Bool.not_eq_false', decide_eq_true_eq, decide_eq_false_iff_not, Bool.and_eq_true, Bool.or_eq_true, Bool.and_eq_false_iff, Bool.or_eq_false_iff] at h) <;> try (exfalso; first | exact h True.intro | (exact h; done) | omega | (simp only [not_true_eq_false, false_or, or_false] at h; omega)))
        | (refine EV.ret Q32_ok ?_; simp only [push_cast, Int.cast_ofNat_Int, reduceIte, Nat.reduceEqDiff, reduceCtorEq, Nat.reduceAdd, Nat.reduceSub, Nat.reduceMul, Int.reduceToNat, Nat.reduceLeDiff, hb2.1, Q32])
        | (refine And.intro (by omega) ?_)
        | ((first | refine Exists.intro _ (And.intro (rd_M (by assumption)) ?_) | refine Exists.intro _ (Exists.intro _ (Exists.intro _ (And.intro (rd_M (by assumption)) ?_))) | fail); try simp only [push_cast, Int.cast_ofNat_Int, reduceIte, Nat.reduceEqDiff, reduceCtorEq, Nat.reduceAdd, Nat.reduceSub, Nat.reduceMul, Int.reduceToNat, Nat.reduceLeDiff, hb2.1])
        | fail
    all_goals (first | (exfalso; simp_all <;> omega) | (simp only [RM.reachR, if_neg hb, Int.toNat_natCast, RP.thr_at hw']; done) | skip)

theorem RM.turn_bad {m : RM} {who : Int} (h : m.bad who = true) : m.turn who = (opZ, 1) := by simp only [RM.turn, if_pos h]
theorem RM.turn_over {m : RM} {w : Nat} (h : w < m.thr.length) (h2 : m.thr[w]!.at_ = m.prog[w]!.length) : m.turn w = (opZ, 7) := by
  simp only [RM.turn, RM.bad_ok h, Int.toNat_natCast, if_pos h2]; rfl
theorem RM.turn_ok {m : RM} {w : Nat} (h : w < m.thr.length) (h2 : m.thr[w]!.at_ ≠ m.prog[w]!.length) : m.turn w = (m.prog[w]![m.thr[w]!.at_]!, 0) := by
  simp only [RM.turn, RM.bad_ok h, Int.toNat_natCast, if_neg h2]; rfl
theorem RM.op_ok {m : RM} (wf : m.Wf B) {w : Nat} (hw : w < m.thr.length) (h2 : m.thr[w]!.at_ ≠ m.prog[w]!.length) : okOpE (m.prog[w]![m.thr[w]!.at_]!) := by
  have hpl := wf.pl
  have hnl := wf.nx w hw
  have hlt : m.thr[w]!.at_ < m.prog[w]!.length := by omega
  rw [getB hlt]
  exact wf.po _ (by rw [getB (show w < m.prog.length by omega)]; exact List.getElem_mem _) _ (List.getElem_mem _)

theorem ref_Choices_q (r : RdX M mp p) (wf : p.rm.Wf B) (who : Int) : ConQ Try.prog 39 #[pv mp 0, vi who] M (ie (p.rm.choicesR who)) := by
  have h1 := r.h1
  refine Con.enter Q28_ok (args := [pv mp 0, vi who]) (by simp [Q28]) fun w0 => ?_
  simp only [Q28, argE]
  by_cases hb : p.rm.bad who = true
  · repeat' first
      | refine EV.seq ?_
      | (refine EV.reg ?_; (conv => (arg 2; whnf)); simp only [push_cast, Int.cast_ofNat_Int, reduceIte, Nat.reduceEqDiff, reduceCtorEq, Nat.reduceAdd, Nat.reduceSub, Nat.reduceMul, Int.reduceToNat, Nat.reduceLeDiff, hb])
      | (refine ConQ.call (ref_isThread_q (r.mono (PHeap.le_add _ _)) _) ?_; try simp only [push_cast, Int.cast_ofNat_Int, reduceIte, Nat.reduceEqDiff, reduceCtorEq, Nat.reduceAdd, Nat.reduceSub, Nat.reduceMul, Int.reduceToNat, Nat.reduceLeDiff, hb])
      | ((refine EV.cond rfl (fun h => ?_) (fun h => ?_) <;> try simp only [reduceCtorEq, reduceIte, if_true, if_false, Bool.not_eq_true', Bool.not_eq_false', decide_eq_true_eq, decide_eq_false_iff_not, Bool.and_eq_true, Bool.or_eq_true, Bool.and_eq_false_iff, Bool.or_eq_false_iff] at h) <;> try (exfalso; first | exact h True.intro | (exact h; done) | omega | (simp only [not_true_eq_false, false_or, or_false] at h; omega)))
      | (refine EV.ret Q28_ok ?_; simp only [push_cast, Int.cast_ofNat_Int, reduceIte, Nat.reduceEqDiff, reduceCtorEq, Nat.reduceAdd, Nat.reduceSub, Nat.reduceMul, Int.reduceToNat, Nat.reduceLeDiff, hb, Q28])
      | fail
    all_goals simp [RM.choicesR, RM.turn_bad hb]
  · obtain ⟨w, rfl, hw⟩ := RM.bad_no hb
    have hw' : w < p.pt.length := by rwa [RP.nthr] at hw
    obtain ⟨pb, po, a, c, epg, hwp, k0, k1, k2, hnx, hpb⟩ := r.prog1 wf hw'
    have k3 := r.at hw'
    have hbf : p.rm.bad w = false := by simpa using hb
    have hta := RP.thr_at hw'
    repeat' first
        | refine EV.seq ?_
        | refine EV.skip ?_
        | ((first | refine EV.reg ?_ | refine EV.any _ (List.Sublist.refl _) ?_ | fail); (conv => (arg 2; whnf)); simp only [push_cast, Int.cast_ofNat_Int, reduceIte, Nat.reduceEqDiff, reduceCtorEq, Nat.reduceAdd, Nat.reduceSub, Nat.reduceMul, Int.reduceToNat, Nat.reduceLeDiff, hbf])
        | (refine ConQ.call (ref_isThread_q (r.mono (PHeap.le_add _ _)) _) ?_; try simp only [push_cast, Int.cast_ofNat_Int, reduceIte, Nat.reduceEqDiff, reduceCtorEq, Nat.reduceAdd, Nat.reduceSub, Nat.reduceMul, Int.reduceToNat, Nat.reduceLeDiff, hbf])
        | ((refine EV.cond rfl (fun h => ?_) (fun h => ?_) <;> try simp only [reduceCtorEq, reduceIte, if_true, if_false, Bool.not_eq_true', Bool.not_eq_false', decide_eq_true_eq, decide_eq_false_iff_not, Bool.and_eq_true, Bool.or_eq_true, Bool.and_eq_false_iff, Bool.or_eq_false_iff] at h) <;> try (exfalso; first | exact h True.intro | (exact h; done) | omega | (simp only [not_true_eq_false, false_or, or_false] at h; omega)))
        | (refine And.intro (by omega) ?_)
        | ((first | refine Exists.intro _ (And.intro (rd_M (by assumption)) ?_) | refine Exists.intro _ (Exists.intro _ (Exists.intro _ (And.intro (rd_M (by assumption)) ?_))) | fail); try simp only [push_cast, Int.cast_ofNat_Int, reduceIte, Nat.reduceEqDiff, reduceCtorEq, Nat.reduceAdd, Nat.reduceSub, Nat.reduceMul, Int.reduceToNat, Nat.reduceLeDiff, hbf])
        | fail
    · repeat' first
        | (refine EV.ret Q28_ok ?_; simp only [push_cast, Int.cast_ofNat_Int, reduceIte, Nat.reduceEqDiff, reduceCtorEq, Nat.reduceAdd, Nat.reduceSub, Nat.reduceMul, Int.reduceToNat, Nat.reduceLeDiff, Q28])
        | fail
      have e := RM.turn_over hw (by rw [hta]; show p.pt[w]!.th.at_ = p.prog[w]!.length; omega)
      simp [RM.choicesR, e]
    · have h2 : p.rm.thr[w]!.at_ ≠ p.rm.prog[w]!.length := by rw [hta]; show p.pt[w]!.th.at_ ≠ p.prog[w]!.length; omega
      have e := RM.turn_ok hw h2
      have ho := RM.op_ok wf hw h2
      rw [hta] at e ho
      have hlt : p.pt[w]!.th.at_ < p.prog[w]!.length := by omega
      refine Con.callB (G1 := []) (ref_choices_c (r.mono (PHeap.le_add _ _)) wf hw' hlt _ rfl ho) (PHeap.le_refl _) (List.Perm.refl _) ?_
      rintro v M' G' ⟨ov, rfl, hov, rfl⟩
      repeat' first
          | (refine EV.ret Q28_ok ?_; simp only [push_cast, Int.cast_ofNat_Int, reduceIte, Nat.reduceEqDiff, reduceCtorEq, Nat.reduceAdd, Nat.reduceSub, Nat.reduceMul, Int.reduceToNat, Nat.reduceLeDiff, Q28])
          | fail
      have e2 : (p.rm.turn w).1 = p.prog[w]![p.pt[w]!.th.at_]! := by rw [e]; rfl
      simp only [RM.choicesR, e, ne_eq, not_true_eq_false, if_false, Int.toNat_natCast]
      rfl

theorem RM.lefts_succ (m : RM) (n : Nat) : m.lefts (n + 1) = m.lefts n ++ [m.leftOf n] := by simp [RM.lefts, List.range_succ]

theorem ref_Over_q (r : RdX M mp p) (wf : p.rm.Wf B) : ConQ Try.prog 44 #[pv mp 0] M (vb p.rm.over) := by
  have h1 := r.h1
  have ht3 : p.pt.length ≤ 3 := by simpa [RP.rm] using wf.t3
  refine Con.enter Q31_ok (args := [pv mp 0]) (by simp [Q31]) fun w0 => ?_
  simp only [Q31, argE]
  repeat' first
      | refine EV.seq ?_
      | refine EV.skip ?_
      | refine EV.block ?_
      | (refine EV.reg ?_; (conv => (arg 2; whnf)); simp only [push_cast, Int.cast_ofNat_Int, reduceIte, Nat.reduceEqDiff, reduceCtorEq, Nat.reduceAdd, Nat.reduceSub, Nat.reduceMul, Int.reduceToNat, Nat.reduceLeDiff, Option.isNone_some])
      | ((refine EV.cond rfl (fun h => ?_) (fun h => ?_) <;> try simp only [reduceCtorEq, reduceIte, if_true, if_false, Bool.not_eq_true', Bool.not_eq_false', decide_eq_true_eq, decide_eq_false_iff_not, Bool.and_eq_true, Bool.or_eq_true, Bool.and_eq_false_iff, Bool.or_eq_false_iff] at h) <;> try (exfalso; first | exact h True.intro | (exact h; done) | omega | (simp only [not_true_eq_false, false_or, or_false] at h; omega)))
      | fail
  refine EV.to (ρ' := [(0, pv mp 0), (3, vi (0 : Nat))]) (G' := []) ?_ ?env0 (by simp)
  case env0 =>
    repeat' first
      | (refine List.forall_mem_cons.2 (And.intro ?_ ?_))
      | (intro _ hnil; cases hnil; done)
      | rfl
      | fail
  refine EV.loop (fun i : Nat => ([(0, pv mp 0), (3, vi i)], M, [])) (fun i => i ≤ p.pt.length ∧ ((p.rm.lefts i).any fun x => decide (0 < x)) = false) (fun i => p.pt.length - i) 0 (by simp [RM.lefts]) ?_
  intro i ⟨hi, hok⟩ ih
  dsimp only at ih ⊢
  repeat' first
      | refine EV.seq ?_
      | refine EV.skip ?_
      | refine EV.block ?_
      | (refine EV.reg ?_; (conv => (arg 2; whnf)); simp only [push_cast, Int.cast_ofNat_Int, reduceIte, Nat.reduceEqDiff, reduceCtorEq, Nat.reduceAdd, Nat.reduceSub, Nat.reduceMul, Int.reduceToNat, Nat.reduceLeDiff])
      | ((refine EV.cond rfl (fun h => ?_) (fun h => ?_) <;> try simp only [reduceCtorEq, reduceIte, if_true, if_false, Bool.not_eq_true', Bool.not_eq_false', decide_eq_true_eq, decide_eq_false_iff_not, Bool.and_eq_true, Bool.or_eq_true, Bool.and_eq_false_iff, Bool.or_eq_false_iff] at h) <;> try (exfalso; first | exact h True.intro | (exact h; done) | omega | (simp only [not_true_eq_false, false_or, or_false] at h; omega)))
      | (refine EV.exit rfl ?_)
      | (refine Exists.intro _ (Exists.intro _ (Exists.intro _ (And.intro (rd_M (by assumption)) ?_))); try simp only [push_cast, Int.cast_ofNat_Int, reduceIte, Nat.reduceEqDiff, reduceCtorEq, Nat.reduceAdd, Nat.reduceSub, Nat.reduceMul, Int.reduceToNat, Nat.reduceLeDiff])
      | fail
  · have hi' : i < p.pt.length := by omega
    obtain ⟨pb, po, a, c, epg, hwp, k0, k1, k2, hnx, hpb⟩ := r.prog1 wf hi'
    have k3 := r.at hi'
    have hl := RP.leftOf_at hi'
    repeat' first
        | refine EV.seq ?_
        | refine EV.skip ?_
        | refine EV.inBlock ?_
        | ((first | refine EV.reg ?_ | refine EV.any _ (List.Sublist.refl _) ?_ | fail); (conv => (arg 2; whnf)); simp only [push_cast, Int.cast_ofNat_Int, reduceIte, Nat.reduceEqDiff, reduceCtorEq, Nat.reduceAdd, Nat.reduceSub, Nat.reduceMul, Int.reduceToNat, Nat.reduceLeDiff])
        | ((refine EV.cond rfl (fun h => ?_) (fun h => ?_) <;> try simp only [reduceCtorEq, reduceIte, if_true, if_false, Bool.not_eq_true', Bool.not_eq_false', decide_eq_true_eq, decide_eq_false_iff_not, Bool.and_eq_true, Bool.or_eq_true, Bool.and_eq_false_iff, Bool.or_eq_false_iff] at h) <;> try (exfalso; first | exact h True.intro | (exact h; done) | omega | (simp only [not_true_eq_false, false_or, or_false] at h; omega)))
        | (refine And.intro (by omega) ?_)
        | ((first | refine Exists.intro _ (And.intro (rd_M (by assumption)) ?_) | refine Exists.intro _ (Exists.intro _ (Exists.intro _ (And.intro (rd_M (by assumption)) ?_))) | fail); try simp only [push_cast, Int.cast_ofNat_Int, reduceIte, Nat.reduceEqDiff, reduceCtorEq, Nat.reduceAdd, Nat.reduceSub, Nat.reduceMul, Int.reduceToNat, Nat.reduceLeDiff])
        | fail
    · repeat' first
        | (refine EV.ret Q31_ok ?_; simp only [push_cast, Int.cast_ofNat_Int, reduceIte, Nat.reduceEqDiff, reduceCtorEq, Nat.reduceAdd, Nat.reduceSub, Nat.reduceMul, Int.reduceToNat, Nat.reduceLeDiff, Q31])
        | fail
      have : ((p.rm.lefts p.rm.thr.length).any fun x => decide (0 < x)) = true := by
        rw [List.any_eq_true]
        exact ⟨p.rm.leftOf i, List.mem_map.2 ⟨i, List.mem_range.2 (by rw [RP.nthr]; omega), rfl⟩, by rw [hl]; simpa using h⟩
      simp [RM.over, this]
    · refine EV.to (ih (i + 1) ⟨by omega, ?_⟩ (by omega)) ?_ (by simp)
      · have hz : decide (0 < (p.prog[i]!.length : Int) - p.pt[i]!.th.at_) = false := by
          rw [decide_eq_false_iff_not]; omega
        rw [RM.lefts_succ, List.any_append, hok, hl]
        simp only [List.any_cons, List.any_nil, hz, Bool.or_false]
      · repeat' first
          | (refine List.forall_mem_cons.2 (And.intro ?_ ?_))
          | (intro _ hnil; cases hnil; done)
          | rfl
          | (refine env_w64 rfl (by first | rfl | (push_cast; first | rfl | omega)) (by omega) (by omega); done)
          | fail
  · have e : i = p.pt.length := by omega
    subst e
    repeat' first
        | (refine EV.ret Q31_ok ?_; simp only [push_cast, Int.cast_ofNat_Int, reduceIte, Nat.reduceEqDiff, reduceCtorEq, Nat.reduceAdd, Nat.reduceSub, Nat.reduceMul, Int.reduceToNat, Nat.reduceLeDiff, Q31])
        | fail
    rw [← RP.nthr] at hok
    simp [RM.over, hok]

end
end Go.EV

namespace Go.EV
open Go.Proofs
section
variable {M : PHeap} {mp : Nat} {p : RP} {B : Nat}

theorem ints_take {α : Type} (f : α → Int) {l : List α} [Inhabited α] {i : Nat} (hi : i < l.length) : (l.take (i + 1)).map f = (l.take i).map f ++ [f l[i]!] := by
  rw [List.take_succ_eq_append_getElem hi, List.map_append, getB hi]; rfl

set_option maxRecDepth 8000 in
set_option maxHeartbeats 4000000 in
theorem ref_Words_c (r : RdX M mp p) (wf : p.rm.Wf B) (loc : Int) : Con Try.prog 47 #[pv mp 0, vi loc] M [] (RowT (p.rm.wordsR loc).1 (p.rm.wordsR loc).2) := by
  have h3 := r.h3
  refine Con.enter Q34_ok (args := [pv mp 0, vi loc]) (by simp [Q34]) fun w0 => ?_
  simp only [Q34, argE]
  by_cases hb : loc < 0 ∨ 3 ≤ loc
  · have e : p.rm.wordsR loc = ([], 1) := by simp only [RM.wordsR, if_pos hb]
    rw [e]
    repeat' first
        | refine EV.seq ?_
        | (refine EV.reg ?_; (conv => (arg 2; whnf)); simp only [push_cast, Int.cast_ofNat_Int, reduceIte, Nat.reduceEqDiff, reduceCtorEq, Nat.reduceAdd, Nat.reduceSub, Nat.reduceMul, Int.reduceToNat, Nat.reduceLeDiff, Option.isNone_some])
        | assumption
        | (refine condW.merge ?_ (fun hc K' hK => ?_) ?_; rotate_left)
        | ((refine EV.cond rfl (fun h => ?_) (fun h => ?_) <;> try simp only [reduceCtorEq, reduceIte, if_true, if_false, Bool.not_eq_true', Bool.not_eq_false', decide_eq_true_eq, decide_eq_false_iff_not, Bool.and_eq_true, Bool.or_eq_true, Bool.and_eq_false_iff, Bool.or_eq_false_iff] at h) <;> try (exfalso; first | exact h True.intro | (exact h; done) | omega | (simp only [not_true_eq_false, false_or, or_false] at h; omega)))
        | (refine EV.ret Q34_ok ?_; simp only [push_cast, Int.cast_ofNat_Int, reduceIte, Nat.reduceEqDiff, reduceCtorEq, Nat.reduceAdd, Nat.reduceSub, Nat.reduceMul, Int.reduceToNat, Nat.reduceLeDiff, Option.isNone_some, Q34])
        | (refine Exists.intro _ (Exists.intro _ (Exists.intro _ (And.intro (rd_M (by assumption)) ?_))); try simp only [push_cast, Int.cast_ofNat_Int, reduceIte, Nat.reduceEqDiff, reduceCtorEq, Nat.reduceAdd, Nat.reduceSub, Nat.reduceMul, Int.reduceToNat, Nat.reduceLeDiff, Option.isNone_some])
        | fail
    exact ⟨none, rfl, ⟨rfl, rfl⟩, rfl⟩
  · obtain ⟨l, rfl⟩ : ∃ l : Nat, loc = l := ⟨loc.toNat, by omega⟩
    have hl : l < 3 := by omega
    have e : p.rm.wordsR l = ((p.ls l).map fun q => q.x.word, 0) := by
      simp only [RM.wordsR, if_neg hb, Int.toNat_natCast, RP.rm, List.map_map]
      rfl
    rw [e]
    have h4 := r.list hl
    have hlb := wf.bl l hl
    obtain ⟨WL, hWL⟩ : ∃ WL : Nat → List Int, WL = fun i => ((p.ls l).take i).map fun q => q.x.word := ⟨_, rfl⟩
    have hWe : ((p.ls l).map fun q => q.x.word) = WL (p.ls l).length := by rw [hWL]; simp
    have hW0 : WL 0 = [] := by rw [hWL]; rfl
    have hWs : ∀ i, i < (p.ls l).length → WL (i + 1) = WL i ++ [(p.ls l)[i]!.x.word] := fun i hi => by rw [hWL]; exact ints_take (fun q : RX => q.x.word) hi
    have hWn : ∀ i, i ≤ (p.ls l).length → (WL i).length = i := fun i hi => by rw [hWL]; simp; omega
    rw [hWe]
    clear hWL hWe
    repeat' first
        | refine EV.seq ?_
        | refine EV.skip ?_
        | refine EV.block ?_
        | (refine EV.reg ?_; (conv => (arg 2; whnf)); simp only [push_cast, Int.cast_ofNat_Int, reduceIte, Nat.reduceEqDiff, reduceCtorEq, Nat.reduceAdd, Nat.reduceSub, Nat.reduceMul, Int.reduceToNat, Nat.reduceLeDiff, Option.isNone_some])
        | assumption
        | (refine condW.merge ?_ (fun hc K' hK => ?_) ?_; rotate_left)
        | ((refine EV.cond rfl (fun h => ?_) (fun h => ?_) <;> try simp only [reduceCtorEq, reduceIte, if_true, if_false, Bool.not_eq_true', Bool.not_eq_false', decide_eq_true_eq, decide_eq_false_iff_not, Bool.and_eq_true, Bool.or_eq_true, Bool.and_eq_false_iff, Bool.or_eq_false_iff] at h) <;> try (exfalso; first | exact h True.intro | (exact h; done) | omega | (simp only [not_true_eq_false, false_or, or_false] at h; omega)))
        | (refine Exists.intro _ (Exists.intro _ (Exists.intro _ (And.intro (rd_M (by assumption)) ?_))); try simp only [push_cast, Int.cast_ofNat_Int, reduceIte, Nat.reduceEqDiff, reduceCtorEq, Nat.reduceAdd, Nat.reduceSub, Nat.reduceMul, Int.reduceToNat, Nat.reduceLeDiff, Option.isNone_some])
        | fail
    refine EV.to (ρ' := [(0, pv mp 0), (1, vi l), (6, osv none (WL 0).length), (7, vi (0 : Nat))]) (G' := osg 3 none ((WL 0).map vi)) ?_ ?env1 (by (repeat' first | exact List.Sublist.refl _ | exact List.nil_sublist _ | exact List.sublist_append_left _ _ | refine List.Sublist.cons_cons _ ?_ | refine List.Sublist.append_left ?_ _ | refine List.sublist_append_of_sublist_right ?_ | refine List.Sublist.cons _ ?_))
    case env1 =>
      rw [hW0]
      repeat' first
        | (refine List.forall_mem_cons.2 (And.intro ?_ ?_))
        | (intro _ hnil; cases hnil; done)
        | rfl
        | fail
    refine EV.loop (fun x : Nat × Vec => ([(0, pv mp 0), (1, vi l), (6, osv x.2 (WL x.1).length), (7, vi x.1)], M, osg 3 x.2 ((WL x.1).map vi)))
      (fun x => x.1 ≤ (p.ls l).length ∧ osok 1 x.2 (WL x.1).length ((WL x.1).map vi))
      (fun x => (p.ls l).length - x.1) (0, none) ⟨Nat.zero_le _, by dsimp only; rw [hW0]; exact ⟨rfl, rfl⟩⟩ ?_
    rintro ⟨i, ov⟩ ⟨hi, hov⟩ ih
    dsimp only at hi hov ih ⊢
    have hn := hWn i hi
    repeat' first
        | refine EV.seq ?_
        | refine EV.skip ?_
        | refine EV.block ?_
        | (refine EV.reg ?_; (conv => (arg 2; whnf)); simp only [push_cast, Int.cast_ofNat_Int, reduceIte, Nat.reduceEqDiff, reduceCtorEq, Nat.reduceAdd, Nat.reduceSub, Nat.reduceMul, Int.reduceToNat, Nat.reduceLeDiff])
        | ((refine EV.cond rfl (fun h => ?_) (fun h => ?_) <;> try simp only [reduceCtorEq, reduceIte, if_true, if_false, Bool.not_eq_true', Bool.not_eq_false', decide_eq_true_eq, decide_eq_false_iff_not, Bool.and_eq_true, Bool.or_eq_true, Bool.and_eq_false_iff, Bool.or_eq_false_iff] at h) <;> try (exfalso; first | exact h True.intro | (exact h; done) | omega | (simp only [not_true_eq_false, false_or, or_false] at h; omega)))
        | (refine EV.exit rfl ?_)
        | (refine And.intro (by omega) ?_)
        | (refine Exists.intro _ (Exists.intro _ (Exists.intro _ (And.intro (rd_M (by assumption)) ?_))); try simp only [push_cast, Int.cast_ofNat_Int, reduceIte, Nat.reduceEqDiff, reduceCtorEq, Nat.reduceAdd, Nat.reduceSub, Nat.reduceMul, Int.reduceToNat, Nat.reduceLeDiff])
        | fail
    · have hi' : i < (p.ls l).length := by omega
      have hwd := r.mword hl hi'
      repeat' first
          | ((first | with_reducible intro b | refine Exists.intro _ (And.intro (rd_M (by assumption)) ?_) | fail); try simp only [push_cast, Int.cast_ofNat_Int, reduceIte, Nat.reduceEqDiff, reduceCtorEq, Nat.reduceAdd, Nat.reduceSub, Nat.reduceMul, Int.reduceToNat, Nat.reduceLeDiff])
          | fail
      refine ⟨_, Or.inr ⟨_, 0, rfl, rd_own' 0 rfl rfl (by simp)⟩, by simp [ok1_cons, ok1_nil, Value.oneCell'], Or.inl ⟨_, _, rfl, _, hov, _, cat_pull [[_], osg 3 ov _] 1 (by simp), ?_, ?_, ?_⟩⟩
      · simp only [maxLen]; omega
      · omega
      intro o1 ho1 _
      simp only [List.eraseIdx_cons_succ, List.eraseIdx_cons_zero, List.getElem_cons_succ, List.getElem_cons_zero, cat_two, cat_one, cat_nil, List.nil_append, List.cons_append, List.append_assoc, List.append_nil]
      repeat' first
          | refine EV.inBlock ?_
          | (refine EV.reg ?_; (conv => (arg 2; whnf)); simp only [push_cast, Int.cast_ofNat_Int, reduceIte, Nat.reduceEqDiff, reduceCtorEq, Nat.reduceAdd, Nat.reduceSub, Nat.reduceMul, Int.reduceToNat, Nat.reduceLeDiff])
          | fail
      have e2 := hWs i hi'
      have ih3 := ih (i + 1, o1) ⟨by dsimp only; omega, by dsimp only; rw [e2]; simpa using ho1⟩ (by dsimp only; omega)
      simp only [e2, List.length_append, List.map_append] at ih3
      refine EV.to ih3 ?_ (by (repeat' first | exact List.Sublist.refl _ | exact List.nil_sublist _ | exact List.sublist_append_left _ _ | refine List.Sublist.cons_cons _ ?_ | refine List.Sublist.append_left ?_ _ | refine List.sublist_append_of_sublist_right ?_ | refine List.Sublist.cons _ ?_))
      repeat' first
        | (refine List.forall_mem_cons.2 (And.intro ?_ ?_))
        | (intro _ hnil; cases hnil; done)
        | rfl
        | (refine env_w64 rfl (by first | rfl | (push_cast; first | rfl | omega)) (by omega) (by omega); done)
        | fail
    · have e3 : i = (p.ls l).length := by omega
      subst e3
      refine EV.ret Q34_ok ?_
      simp only [push_cast, Int.cast_ofNat_Int, reduceIte, Nat.reduceEqDiff, reduceCtorEq, Nat.reduceAdd, Nat.reduceSub, Nat.reduceMul, Int.reduceToNat, Nat.reduceLeDiff, Q34]
      exact ⟨ov, rfl, hov, rfl⟩

set_option maxRecDepth 8000 in
set_option maxHeartbeats 4000000 in
theorem ref_Outcome_c (r : RdX M mp p) (wf : p.rm.Wf B) : Con Try.prog 41 #[pv mp 0] M [] (RowT p.rm.outcomeR.1 p.rm.outcomeR.2) := by
  have h2 := r.h2
  have h3 := r.h3
  have hB := wf.b0
  have ht3 : p.pt.length ≤ 3 := by simpa [RP.rm] using wf.t3
  refine Con.enter Q30_ok (args := [pv mp 0]) (by simp [Q30]) fun w0 => ?_
  simp only [Q30, argE]
  repeat' first
      | refine EV.seq ?_
      | refine EV.skip ?_
      | refine EV.block ?_
      | (refine EV.reg ?_; (conv => (arg 2; whnf)); simp only [push_cast, Int.cast_ofNat_Int, reduceIte, Nat.reduceEqDiff, reduceCtorEq, Nat.reduceAdd, Nat.reduceSub, Nat.reduceMul, Int.reduceToNat, Nat.reduceLeDiff, Option.isNone_some])
      | (refine ConQ.call (ref_Over_q (r.mono (PHeap.le_add _ _)) wf) ?_; try simp only [push_cast, Int.cast_ofNat_Int, reduceIte, Nat.reduceEqDiff, reduceCtorEq, Nat.reduceAdd, Nat.reduceSub, Nat.reduceMul, Int.reduceToNat, Nat.reduceLeDiff, Option.isNone_some])
      | assumption
      | (refine condW.merge ?_ (fun hc K' hK => ?_) ?_; rotate_left)
      | ((refine EV.cond rfl (fun h => ?_) (fun h => ?_) <;> try simp only [reduceCtorEq, reduceIte, if_true, if_false, Bool.not_eq_true', Bool.not_eq_false', decide_eq_true_eq, decide_eq_false_iff_not, Bool.and_eq_true, Bool.or_eq_true, Bool.and_eq_false_iff, Bool.or_eq_false_iff] at h) <;> try (exfalso; first | exact h True.intro | (exact h; done) | omega | (simp only [not_true_eq_false, false_or, or_false] at h; omega)))
      | (refine Exists.intro _ (Exists.intro _ (Exists.intro _ (And.intro (rd_M (by assumption)) ?_))); try simp only [push_cast, Int.cast_ofNat_Int, reduceIte, Nat.reduceEqDiff, reduceCtorEq, Nat.reduceAdd, Nat.reduceSub, Nat.reduceMul, Int.reduceToNat, Nat.reduceLeDiff, Option.isNone_some])
      | fail
  · refine EV.ret Q30_ok ?_
    simp only [push_cast, Int.cast_ofNat_Int, reduceIte, Nat.reduceEqDiff, reduceCtorEq, Nat.reduceAdd, Nat.reduceSub, Nat.reduceMul, Int.reduceToNat, Nat.reduceLeDiff, Q30]
    have e : p.rm.outcomeR = ([], 7) := by simp only [RM.outcomeR, h, Bool.false_eq_true, if_false]
    rw [e]
    exact ⟨none, rfl, ⟨rfl, rfl⟩, rfl⟩
  · have e : p.rm.outcomeR = (p.rm.outcome, 0) := by simp only [RM.outcomeR, h, if_true]
    rw [e]
    clear e
    obtain ⟨RL, hRL⟩ : ∃ RL : Nat → List Int, RL = fun i => ((p.pt.take i).map fun q => q.th.read).flatten := ⟨_, rfl⟩
    have hR0 : RL 0 = [] := by rw [hRL]; rfl
    have hRs : ∀ i, i < p.pt.length → RL (i + 1) = RL i ++ p.pt[i]!.th.read := fun i hi => by
      rw [hRL]; dsimp only; rw [List.take_succ_eq_append_getElem hi, List.map_append, List.flatten_append, getB hi]; simp
    have hRe : (p.rm.thr.map RThr.read).flatten = RL p.pt.length := by rw [hRL]; simp [RP.rm]; rfl
    have hOe : p.rm.outcome = RL p.pt.length ++ (List.range 3).map p.rm.lastW := by rw [RM.outcome, hRe]
    rw [hOe]
    clear hRL hRe hOe
    refine EV.to (ρ' := [(0, pv mp 0), (4, osv none (RL 0).length), (5, vi (0 : Nat))]) (G' := osg 3 none ((RL 0).map vi)) ?_ ?env1 (by (repeat' first | exact List.Sublist.refl _ | exact List.nil_sublist _ | exact List.sublist_append_left _ _ | refine List.Sublist.cons_cons _ ?_ | refine List.Sublist.append_left ?_ _ | refine List.sublist_append_of_sublist_right ?_ | refine List.Sublist.cons _ ?_))
    case env1 =>
      rw [hR0]
      repeat' first
        | (refine List.forall_mem_cons.2 (And.intro ?_ ?_))
        | (intro _ hnil; cases hnil; done)
        | rfl
        | fail
    refine EV.loop (fun x : Nat × Vec => ([(0, pv mp 0), (4, osv x.2 (RL x.1).length), (5, vi x.1)], M, osg 3 x.2 ((RL x.1).map vi)))
      (fun x => x.1 ≤ p.pt.length ∧ (RL x.1).length ≤ x.1 * B ∧ osok 1 x.2 (RL x.1).length ((RL x.1).map vi))
      (fun x => p.pt.length - x.1) (0, none) ⟨Nat.zero_le _, by dsimp only; rw [hR0]; simp, by dsimp only; rw [hR0]; exact ⟨rfl, rfl⟩⟩ ?_
    rintro ⟨i, ov⟩ ⟨hi, hLl, hov⟩ ih
    dsimp only at hi hLl hov ih ⊢
    have hLb : (RL i).length ≤ 3 * 1000000 := by
      have : i * B ≤ 3 * 1000000 := Nat.mul_le_mul (by omega) (by omega)
      omega
    repeat' first
        | refine EV.seq ?_
        | refine EV.skip ?_
        | refine EV.block ?_
        | (refine EV.reg ?_; (conv => (arg 2; whnf)); simp only [push_cast, Int.cast_ofNat_Int, reduceIte, Nat.reduceEqDiff, reduceCtorEq, Nat.reduceAdd, Nat.reduceSub, Nat.reduceMul, Int.reduceToNat, Nat.reduceLeDiff])
        | ((refine EV.cond rfl (fun h => ?_) (fun h => ?_) <;> try simp only [reduceCtorEq, reduceIte, if_true, if_false, Bool.not_eq_true', Bool.not_eq_false', decide_eq_true_eq, decide_eq_false_iff_not, Bool.and_eq_true, Bool.or_eq_true, Bool.and_eq_false_iff, Bool.or_eq_false_iff] at h) <;> try (exfalso; first | exact h True.intro | (exact h; done) | omega | (simp only [not_true_eq_false, false_or, or_false] at h; omega)))
        | (refine EV.exit rfl ?_)
        | (refine And.intro (by omega) ?_)
        | (refine Exists.intro _ (Exists.intro _ (Exists.intro _ (And.intro (rd_M (by assumption)) ?_))); try simp only [push_cast, Int.cast_ofNat_Int, reduceIte, Nat.reduceEqDiff, reduceCtorEq, Nat.reduceAdd, Nat.reduceSub, Nat.reduceMul, Int.reduceToNat, Nat.reduceLeDiff])
        | fail
    · have hi' : i < p.pt.length := by omega
      have k1 := r.read hi'
      have hqm : p.pt[i]! ∈ p.pt := by rw [getB hi']; exact List.getElem_mem _
      have hrr := r.rr _ hqm
      have hrb : p.pt[i]!.th.read.length ≤ B := wf.rb _ (List.mem_map.2 ⟨_, hqm, rfl⟩)
      repeat' first
          | (refine Exists.intro _ (Exists.intro _ (Exists.intro _ (And.intro (rd_M (by assumption)) ?_))); try simp only [push_cast, Int.cast_ofNat_Int, reduceIte, Nat.reduceEqDiff, reduceCtorEq, Nat.reduceAdd, Nat.reduceSub, Nat.reduceMul, Int.reduceToNat, Nat.reduceLeDiff])
          | fail
      have hokr : ok1 (p.pt[i]!.th.read.map vi) := by
        intro v hv
        obtain ⟨y, _, rfl⟩ := List.mem_map.1 hv
        rfl
      refine ⟨_, (rdS_M hrr),  hokr, Or.inl ⟨_, _, rfl, _, hov, _, cat_pull [osg 3 ov _] 0 (by simp), ?_, ?_, ?_⟩⟩
      · simp only [maxLen]; omega
      · omega
      intro o1 ho1 _
      simp only [List.eraseIdx_cons_succ, List.eraseIdx_cons_zero, List.getElem_cons_succ, List.getElem_cons_zero, cat_two, cat_one, cat_nil, List.nil_append, List.cons_append, List.append_assoc, List.append_nil]
      repeat' first
          | refine EV.inBlock ?_
          | (refine EV.reg ?_; (conv => (arg 2; whnf)); simp only [push_cast, Int.cast_ofNat_Int, reduceIte, Nat.reduceEqDiff, reduceCtorEq, Nat.reduceAdd, Nat.reduceSub, Nat.reduceMul, Int.reduceToNat, Nat.reduceLeDiff])
          | fail
      have e2 := hRs i hi'
      have ih3 := ih (i + 1, o1) ⟨by dsimp only; omega, by dsimp only; rw [e2, List.length_append, Nat.succ_mul]; omega, by dsimp only; rw [e2]; simpa using ho1⟩ (by dsimp only; omega)
      simp only [e2, List.length_append, List.map_append] at ih3
      refine EV.to ih3 ?_ (by (repeat' first | exact List.Sublist.refl _ | exact List.nil_sublist _ | exact List.sublist_append_left _ _ | refine List.Sublist.cons_cons _ ?_ | refine List.Sublist.append_left ?_ _ | refine List.sublist_append_of_sublist_right ?_ | refine List.Sublist.cons _ ?_))
      repeat' first
        | (refine List.forall_mem_cons.2 (And.intro ?_ ?_))
        | (intro _ hnil; cases hnil; done)
        | rfl
        | (refine env_w64 rfl (by first | rfl | (push_cast; first | rfl | omega)) (by omega) (by omega); done)
        | fail
    · have e3 : i = p.pt.length := by omega
      subst e3
      obtain ⟨L, hL⟩ : ∃ L, L = RL p.pt.length := ⟨_, rfl⟩
      rw [← hL] at hov hLb ⊢
      have hout : ∀ k, L ++ (List.range (k + 1)).map p.rm.lastW = (L ++ (List.range k).map p.rm.lastW) ++ [p.rm.lastW k] := fun k => by rw [List.range_succ, List.map_append, List.append_assoc]; rfl
      obtain ⟨O, hO⟩ : ∃ O : Nat → List Int, O = fun k => L ++ (List.range k).map p.rm.lastW := ⟨_, rfl⟩
      have hO0 : O 0 = L := by rw [hO]; simp
      have hO3 : O 3 = L ++ (List.range 3).map p.rm.lastW := by rw [hO]
      have hOs : ∀ k, O (k + 1) = O k ++ [p.rm.lastW k] := fun k => by rw [hO]; exact hout k
      have hOl : ∀ k, (O k).length = L.length + k := fun k => by rw [hO]; simp
      rw [← hO3]
      rw [← hO0] at hov
      clear hout ih
      refine EV.to (ρ' := [(0, pv mp 0), (4, osv ov (O 0).length), (6, vi (0 : Nat))]) (G' := osg 3 ov ((O 0).map vi)) ?_ ?env2 (by rw [hO0]; exact List.Sublist.refl _)
      case env2 =>
        rw [hO0]
        repeat' first
          | (refine List.forall_mem_cons.2 (And.intro ?_ ?_))
          | (intro _ hnil; cases hnil; done)
          | rfl
          | fail
      refine EV.loop (fun x : Nat × Vec => ([(0, pv mp 0), (4, osv x.2 (O x.1).length), (6, vi x.1)], M, osg 3 x.2 ((O x.1).map vi)))
        (fun x => x.1 ≤ 3 ∧ osok 1 x.2 (O x.1).length ((O x.1).map vi)) (fun x => 3 - x.1) (0, ov) ⟨by dsimp only; omega, hov⟩ ?_
      rintro ⟨l, ov⟩ ⟨hl, hov⟩ ih
      dsimp only at hl hov ih ⊢
      have hOll := hOl l
      repeat' first
          | refine EV.seq ?_
          | refine EV.skip ?_
          | refine EV.block ?_
          | (refine EV.reg ?_; (conv => (arg 2; whnf)); simp only [push_cast, Int.cast_ofNat_Int, reduceIte, Nat.reduceEqDiff, reduceCtorEq, Nat.reduceAdd, Nat.reduceSub, Nat.reduceMul, Int.reduceToNat, Nat.reduceLeDiff])
          | ((refine EV.cond rfl (fun h => ?_) (fun h => ?_) <;> try simp only [reduceCtorEq, reduceIte, if_true, if_false, Bool.not_eq_true', Bool.not_eq_false', decide_eq_true_eq, decide_eq_false_iff_not, Bool.and_eq_true, Bool.or_eq_true, Bool.and_eq_false_iff, Bool.or_eq_false_iff] at h) <;> try (exfalso; first | exact h True.intro | (exact h; done) | omega | (simp only [not_true_eq_false, false_or, or_false] at h; omega)))
          | (refine EV.exit rfl ?_)
          | fail
      · have hl' : l < 3 := by omega
        have hlp : 0 < (p.ls l).length := by simpa [RP.rm] using wf.lp l hl'
        have hlb := wf.bl l hl'
        have k4 := r.list hl'
        have hwd := r.mword hl' (i := (p.ls l).length - 1) (by omega)
        have hw1 : IntKind.i64.wrap (((p.ls l).length : Int) - 1) = ((p.ls l).length : Int) - 1 := w64 (by omega) (by omega)
        have hw2 : (((p.ls l).length : Int) - 1).toNat = (p.ls l).length - 1 := by omega
        have hlw : p.rm.lastW l = (p.ls l)[(p.ls l).length - 1]!.x.word := by
          simp only [RM.lastW, RP.rm, List.length_map]
          rw [map_at _ (by omega)]
        repeat' first
            | (refine EV.any _ (List.Sublist.refl _) ?_; (conv => (arg 2; whnf)); simp only [push_cast, Int.cast_ofNat_Int, reduceIte, Nat.reduceEqDiff, reduceCtorEq, Nat.reduceAdd, Nat.reduceSub, Nat.reduceMul, Int.reduceToNat, Nat.reduceLeDiff, hw1, hw2])
            | (with_reducible intro b; try simp only [push_cast, Int.cast_ofNat_Int, reduceIte, Nat.reduceEqDiff, reduceCtorEq, Nat.reduceAdd, Nat.reduceSub, Nat.reduceMul, Int.reduceToNat, Nat.reduceLeDiff, hw1, hw2])
            | (refine And.intro (by omega) ?_)
            | ((first | refine Exists.intro _ (And.intro (rd_M (by assumption)) ?_) | refine Exists.intro _ (Exists.intro _ (Exists.intro _ (And.intro (rd_M (by assumption)) ?_))) | fail); try simp only [push_cast, Int.cast_ofNat_Int, reduceIte, Nat.reduceEqDiff, reduceCtorEq, Nat.reduceAdd, Nat.reduceSub, Nat.reduceMul, Int.reduceToNat, Nat.reduceLeDiff, hw1, hw2])
            | (refine And.intro (PHeap.le_refl _) (And.intro (fun p hp => List.mem_cons_of_mem _ hp) ?_))
            | fail
        refine ⟨_, Or.inr ⟨_, 0, rfl, rd_own' 0 rfl rfl (by simp)⟩, by simp [ok1_cons, ok1_nil, Value.oneCell'], Or.inl ⟨_, _, rfl, _, hov, _, cat_pull [[_], osg 3 ov _] 1 (by simp), ?_, ?_, ?_⟩⟩
        · simp only [maxLen]; omega
        · omega
        intro o1 ho1 _
        simp only [List.eraseIdx_cons_succ, List.eraseIdx_cons_zero, List.getElem_cons_succ, List.getElem_cons_zero, cat_two, cat_one, cat_nil, List.nil_append, List.cons_append, List.append_assoc, List.append_nil]
        repeat' first
            | refine EV.inBlock ?_
            | (refine EV.reg ?_; (conv => (arg 2; whnf)); simp only [push_cast, Int.cast_ofNat_Int, reduceIte, Nat.reduceEqDiff, reduceCtorEq, Nat.reduceAdd, Nat.reduceSub, Nat.reduceMul, Int.reduceToNat, Nat.reduceLeDiff])
            | fail
        have ih3 := ih (l + 1, o1) ⟨by dsimp only; omega, by dsimp only; rw [hOs l, hlw]; simpa using ho1⟩ (by dsimp only; omega)
        simp only [hOs l, hlw, List.length_append, List.map_append] at ih3
        refine EV.to ih3 ?_ (by (repeat' first | exact List.Sublist.refl _ | exact List.nil_sublist _ | exact List.sublist_append_left _ _ | refine List.Sublist.cons_cons _ ?_ | refine List.Sublist.append_left ?_ _ | refine List.sublist_append_of_sublist_right ?_ | refine List.Sublist.cons _ ?_))
        repeat' first
          | (refine List.forall_mem_cons.2 (And.intro ?_ ?_))
          | (intro _ hnil; cases hnil; done)
          | rfl
          | (refine env_w64 rfl (by first | rfl | (push_cast; first | rfl | omega)) (by omega) (by omega); done)
          | fail
      · have e3 : l = 3 := by omega
        subst e3
        refine EV.ret Q30_ok ?_
        simp only [push_cast, Int.cast_ofNat_Int, reduceIte, Nat.reduceEqDiff, reduceCtorEq, Nat.reduceAdd, Nat.reduceSub, Nat.reduceMul, Int.reduceToNat, Nat.reduceLeDiff, Q30]
        exact ⟨ov, rfl, hov, rfl⟩

end
end Go.EV

namespace Go.EV
open Go.Proofs
section
variable {M : PHeap}

def insL (xs : List Int) (i : Nat) (x : Int) : List Int := xs.take i ++ x :: xs.drop i

theorem ex_cast1 {p : Nat → Prop} (n : Nat) : (∃ l : Nat, (n : Int) + 1 = l ∧ p l) ↔ p (n + 1) :=
  ⟨fun ⟨l, e, h⟩ => by have : l = n + 1 := by omega
                       exact this ▸ h, fun h => ⟨n + 1, by omega, h⟩⟩

theorem two1 {α : Type} (A Z s1 D : List α) (v : α) {i : Nat} (hA : A.length = i) (hZ : Z.length = D.length + 1) :
    (((A ++ (Z ++ s1)).take i ++ v :: (A ++ (Z ++ s1)).drop (i + 1)).take (i + 1) ++ (D ++ ((A ++ (Z ++ s1)).take i ++ v :: (A ++ (Z ++ s1)).drop (i + 1)).drop (i + 1 + D.length))) = A ++ (v :: (D ++ s1)) := by
  subst hA
  cases Z with
  | nil => simp at hZ
  | cons z Z =>
    have hZ' : Z.length = D.length := by simpa using hZ
    have e1 : (A ++ (z :: Z ++ s1)).take A.length = A := by simp
    have e2 : (A ++ (z :: Z ++ s1)).drop (A.length + 1) = Z ++ s1 := by simp [List.drop_length_add_append]
    rw [e1, e2, List.take_length_add_append, Nat.add_assoc, List.drop_length_add_append]
    simp [← hZ', Nat.add_comm 1]

theorem two2 {α : Type} (P D sp : List α) (s0 v : α) {i : Nat} (hP : P.length = i) :
    (((P ++ (D ++ (s0 :: sp))).take (i + 1) ++ (D ++ (P ++ (D ++ (s0 :: sp))).drop (i + 1 + D.length))).take i ++ v :: ((P ++ (D ++ (s0 :: sp))).take (i + 1) ++ (D ++ (P ++ (D ++ (s0 :: sp))).drop (i + 1 + D.length))).drop (i + 1)) = P ++ (v :: (D ++ sp)) := by
  subst hP
  have e1 : ((P ++ (D ++ (s0 :: sp))).take (P.length + 1)).length = P.length + 1 := by simp; omega
  have e2 : (P ++ (D ++ (s0 :: sp))).drop (P.length + 1 + D.length) = sp := by
    rw [Nat.add_assoc, List.drop_length_add_append, Nat.add_comm 1, List.drop_length_add_append]; simp
  rw [e2, List.take_append_of_le_length (by omega), List.drop_append, List.drop_eq_nil_of_le (by omega), e1]
  simp [List.take_take]

theorem insL_len (xs : List Int) (i : Nat) (x : Int) : (insL xs i x).length = xs.length + 1 := by simp [insL]; omega

theorem ov_fn : ∃ fn, (Try.prog).funcs[(93 : Nat)]? = some fn ∧ (fn.name == "runtime.NumGoroutine") = false ∧ fn.body.isNone = true ∧ Extern.findNext fn = none ∧ Extern.find fn = some (Extern.SlicesOverlaps.overlaps #[32, 32] #[4]) := by
  have h1 : ((Try.prog).funcs[(93 : Nat)]?).map (fun fn => (fn.name == "runtime.NumGoroutine", fn.body.isNone, (Extern.findNext fn).isNone)) = some (false, true, true) := by kernel_rfl
  have h2 : ((Try.prog).funcs[(93 : Nat)]?).bind (fun fn => Extern.find fn) = some (Extern.SlicesOverlaps.overlaps #[32, 32] #[4]) := by kernel_rfl
  revert h1 h2
  cases (Try.prog).funcs[(93 : Nat)]? with
  | none => intro h1; cases h1
  | some fn =>
    intro h1 h2
    simp only [Option.map_some, Option.some.injEq, Prod.mk.injEq, Option.isNone_iff_eq_none] at h1
    exact ⟨fn, rfl, h1.1, by simpa using h1.2.1, h1.2.2, h2⟩

theorem ov_run {w0 w : World} {F : List Nat} {M0 : PHeap} {b vb : Nat} {cs : List Value} {u : Value} (hs : EV.St w0 F M0 M [(b, Cl 3 cs), (vb, Cl 3 [u])] w) (hcs : cs.length ≠ 0) (k lb cb : Nat) :
    (callFunc 93 #[rowV vb 1 1, .slice (some ⟨b, k, none⟩) lb cb]).run Try.prog w = .ok (.value (.bool false)) w := by
  obtain ⟨fn, hf, h1, h2, h3, h4⟩ := ov_fn
  have hnd := hs.nodup
  have hne : vb ≠ b := by simpa [eq_comm] using hnd
  have ha := hs.own (vb, _) (by simp; exact .inr rfl)
  have hb := hs.own (b, _) (by simp; exact .inl rfl)
  have hu : (Try.prog).underlying 32 = some (.slice 3) := by kernel_rfl
  have hsz : ((Try.prog).info? 3).map (·.size) = some 1 := by kernel_rfl
  dsimp only at ha hb
  rw [run_callFunc_extern hf h1 h2 h3 h4, Lib.run_overlaps_apart w 32 4 3 hu 1 (fun w => run_sizeOf hsz w) ⟨vb, 0, none⟩ ⟨b, k, none⟩ 1 1 lb cb hne 3 3 1 cs.length
    (by simp [World.shape?, ha]) (by simp [World.shape?, hb]) hcs (by simp [World.frozen?, ha]) (by simp [World.frozen?, ha])]
  rfl

set_option maxRecDepth 8000 in
set_option maxHeartbeats 4000000 in
theorem slices_Insert_c (xs : List Int) (b cap : Nat) (sp : List Value) (hok : osok 1 (some (b, cap, sp)) xs.length (xs.map vi)) {i : Nat} (hi : i ≤ xs.length) (hx : xs.length < 1000000) (x : Int) (vb : Nat) :
    Con Try.prog 85 #[rowV b xs.length cap, vi i, rowV vb 1 1] M [(b, Cl 3 (xs.map vi ++ sp)), (vb, Cl 3 [vi x])] fun v _ G' =>
      ∃ o : Nat × Nat × List Value, v = rowV o.1 (xs.length + 1) o.2.1 ∧ osok 1 (some o) (xs.length + 1) ((insL xs i x).map vi) ∧ G' = [(o.1, Cl 3 ((insL xs i x).map vi ++ o.2.2))] := by
  obtain ⟨k1, k2, k3, k4⟩ := hok
  refine Con.enter Q62_ok (args := [rowV b xs.length cap, vi i, rowV vb 1 1]) (by simp [Q62]) fun w0 => ?_
  simp only [Q62, argE]
  have hw1 : IntKind.i64.wrap ((xs.length : Int) + 1) = (xs.length : Int) + 1 := w64 (by omega) (by omega)
  have hw2 : IntKind.i64.wrap ((i : Int) + 1) = (i : Int) + 1 := w64 (by omega) (by omega)
  have hw3 : IntKind.i64.wrap ((xs.length : Int) + 1 - i) = ((xs.length + 1 - i : Nat) : Int) := by rw [w64 (by omega) (by omega)]; omega
  have hml : (xs.map vi).length = xs.length := by simp
  repeat' first
      | refine EV.seq ?_
      | refine EV.skip ?_
      | (refine EV.reg ?_; (conv => (arg 2; whnf)); simp only [push_cast, Int.cast_ofNat_Int, reduceIte, Nat.reduceEqDiff, reduceCtorEq, Nat.reduceAdd, Nat.reduceSub, Nat.reduceMul, Int.reduceToNat, Nat.reduceLeDiff, Option.map_some, Option.map_none, Option.isSome_none, Option.isNone_none, Option.some.injEq, Int.natCast_inj, exists_eq_left', or_true, true_or, Bool.false_eq_true, hw1, hw2, hw3, ex_cast1, osg])
      | ((refine EV.cond rfl (fun h => ?_) (fun h => ?_) <;> try simp only [reduceCtorEq, reduceIte, if_true, if_false, Bool.not_eq_true', Bool.not_eq_false', decide_eq_true_eq, decide_eq_false_iff_not, Bool.and_eq_true, Bool.or_eq_true, Bool.and_eq_false_iff, Bool.or_eq_false_iff] at h) <;> try (exfalso; first | exact h True.intro | (exact h; done) | omega | (simp only [not_true_eq_false, false_or, or_false] at h; omega)))
      | (refine And.intro (by omega) ?_)
      | fail
  · subst h
    refine ⟨_, Or.inr ⟨_, 0, rfl, rd_own' 1 rfl rfl (by simp)⟩, by simp [ok1_cons, ok1_nil, Value.oneCell'], Or.inl ⟨some (b, cap, sp), _, rfl, xs.map vi, ⟨k1, k2, k3, k4⟩, [_], List.Perm.refl _, ?_, ?_, ?_⟩⟩
    · simp only [maxLen]; omega
    · omega
    intro o1 ho1 _
    simp only [List.eraseIdx_cons_succ, List.eraseIdx_cons_zero, List.getElem_cons_succ, List.getElem_cons_zero, List.insertIdx_zero, List.insertIdx_succ_cons, cat_two, cat_one, cat_nil, List.nil_append, List.cons_append, List.append_assoc, List.append_nil]
    cases o1 with
    | none => exact absurd ho1.1 (by omega)
    | some o =>
      have e : (insL xs xs.length x).map vi = xs.map vi ++ [vi x] := by simp [insL]
      refine EV.to (ρ' := [(6, rowV o.1 (xs.length + 1) o.2.1)]) (G' := [(o.1, Cl 3 ((insL xs xs.length x).map vi ++ o.2.2))]) ?_ ?env0 (by rw [e]; (repeat' first | exact List.Sublist.refl _ | exact List.nil_sublist _ | exact List.sublist_append_left _ _ | refine List.Sublist.cons_cons _ ?_ | refine List.Sublist.append_left ?_ _ | refine List.sublist_append_of_sublist_right ?_ | refine List.Sublist.cons _ ?_))
      case env0 =>
        repeat' first
          | (refine List.forall_mem_cons.2 (And.intro ?_ ?_))
          | (intro _ hnil; cases hnil; done)
          | rfl
          | fail
      refine EV.ret Q62_ok ?_
      simp only [push_cast, Int.cast_ofNat_Int, reduceIte, Nat.reduceEqDiff, reduceCtorEq, Nat.reduceAdd, Nat.reduceSub, Nat.reduceMul, Int.reduceToNat, Nat.reduceLeDiff, Q62]
      exact ⟨o, rfl, by rw [e]; exact ho1, rfl⟩
  · have hc0 : ¬ cap = 0 := by omega
    refine ⟨(xs.take i).map vi, Or.inr ⟨b, 0, by rw [if_neg hc0]; rfl, rd_own' 0 rfl ?_ ?_⟩, by omega, by omega, by simp only [maxLen]; omega, by omega, ?_⟩
    · rw [Nat.mul_one, List.drop_zero, List.take_append_of_le_length (by omega), List.map_take]
    · rw [List.length_append]; omega
    rintro b1 c1 s1 ⟨z1, z2, z3, z4⟩
    have hc1 : ¬ c1 = i := by omega
    have hc2 : ¬ c1 = i + 1 := by omega
    have hc3 : ¬ cap = i := by omega
    have q1 : i + (xs.length + 1 - i) = xs.length + 1 := by omega
    have q2 : min 1 (xs.length + 1 - i) = 1 := by omega
    have q3 : xs.length + 1 - (i + 1) = xs.length - i := by omega
    have q4 : min (xs.length - i) (xs.length - i) = xs.length - i := by omega
    have q5 : ¬ (xs.length - i = 0) := by omega
    repeat' first
        | refine EV.seq ?_
        | (refine EV.reg ?_; (conv => (arg 2; whnf)); simp only [push_cast, Int.cast_ofNat_Int, reduceIte, Nat.reduceEqDiff, reduceCtorEq, Nat.reduceAdd, Nat.reduceSub, Nat.reduceMul, Int.reduceToNat, Nat.reduceLeDiff, Option.map_some, Option.map_none, Option.isSome_none, Option.isNone_none, Option.some.injEq, Int.natCast_inj, exists_eq_left', or_true, true_or, Bool.false_eq_true, hw1, hw2, hw3, ex_cast1, osg, addr_add, hc0, hc1, hc2, hc3, q1, q2, q3, q4, q5])
        | (refine And.intro (by omega) ?_)
        | fail
    refine ⟨[vi x], Or.inr ⟨vb, 0, rfl, rd_own' 1 rfl rfl (by simp)⟩, by simp [ok1_cons, ok1_nil, Value.oneCell'], Or.inr ⟨b1, i, rfl, 3, _, [_, _], [], rfl, ?_, ?_⟩⟩
    · rw [List.append_assoc] at z2; rw [z2]; omega
    repeat' first
        | refine EV.seq ?_
        | fail
    refine EV.any (t := Q62_11) _ (List.Sublist.refl _) ?_
    simp only [push_cast, Int.cast_ofNat_Int, reduceIte, Nat.reduceEqDiff, reduceCtorEq, Nat.reduceAdd, Nat.reduceSub, Nat.reduceMul, Int.reduceToNat, Nat.reduceLeDiff, Option.map_some, Option.map_none, Option.isSome_none, Option.isNone_none, Option.some.injEq, Int.natCast_inj, exists_eq_left', or_true, true_or, Bool.false_eq_true, hw1, hw2, hw3, ex_cast1, osg, addr_add, hc0, hc1, hc2, hc3, q1, q2, q3, q4, q5, Q62_11]
    repeat refine And.intro (by omega) ?_
    refine ⟨(xs.drop i).map vi, Or.inr ⟨b, i, rfl, rd_own' 0 rfl ?_ ?_⟩, ?_, Or.inr ⟨b1, i + 1, rfl, 3, _, [_, _], [], rfl, ?_, ?_⟩⟩
    · rw [Nat.mul_one, List.drop_append_of_le_length (by omega), List.take_append_of_le_length (by rw [List.length_drop]; omega), List.map_drop]
      exact List.take_of_length_le (by rw [List.length_drop]; omega)
    · rw [List.length_append]; omega
    · intro v hv
      obtain ⟨y, _, rfl⟩ := List.mem_map.1 (List.mem_of_mem_take hv)
      rfl
    · simp; omega
    repeat' first
        | refine EV.seq ?_
        | (refine EV.reg ?_; (conv => (arg 2; whnf)); simp only [push_cast, Int.cast_ofNat_Int, reduceIte, Nat.reduceEqDiff, reduceCtorEq, Nat.reduceAdd, Nat.reduceSub, Nat.reduceMul, Int.reduceToNat, Nat.reduceLeDiff, Option.map_some, Option.map_none, Option.isSome_none, Option.isNone_none, Option.some.injEq, Int.natCast_inj, exists_eq_left', or_true, true_or, Bool.false_eq_true, hw1, hw2, hw3, ex_cast1, osg, addr_add, hc0, hc1, hc2, hc3, q1, q2, q3, q4, q5])
        | fail
    have hD : List.take (xs.length - i) ((xs.drop i).map vi) = (xs.drop i).map vi := List.take_of_length_le (by simp)
    have hDl : ((xs.drop i).map vi).length = xs.length - i := by simp
    have e := two1 ((xs.take i).map vi) (List.replicate (xs.length + 1 - i) [Value.int IntKind.i64 0]).flatten s1 ((xs.drop i).map vi) (vi x) (i := i) (by simp; omega) (by simp; omega)
    simp only [hD]
    rw [e]
    have e3 : (insL xs i x).map vi ++ s1 = (xs.take i).map vi ++ (vi x :: ((xs.drop i).map vi ++ s1)) := by simp [insL]
    rw [← e3]
    refine EV.to (ρ' := [(6, rowV b1 (xs.length + 1) c1)]) (G' := [(b1, Cl 3 ((insL xs i x).map vi ++ s1))]) ?_ ?env1 (by (repeat' first | exact List.Sublist.refl _ | exact List.nil_sublist _ | exact List.sublist_append_left _ _ | refine List.Sublist.cons_cons _ ?_ | refine List.Sublist.append_left ?_ _ | refine List.sublist_append_of_sublist_right ?_ | refine List.Sublist.cons _ ?_))
    case env1 =>
      repeat' first
        | (refine List.forall_mem_cons.2 (And.intro ?_ ?_))
        | (intro _ hnil; cases hnil; done)
        | rfl
        | fail
    refine EV.ret Q62_ok ?_
    simp only [push_cast, Int.cast_ofNat_Int, reduceIte, Nat.reduceEqDiff, reduceCtorEq, Nat.reduceAdd, Nat.reduceSub, Nat.reduceMul, Int.reduceToNat, Nat.reduceLeDiff, Q62]
    refine ⟨(b1, c1, s1), rfl, ⟨by simp [insL_len], ?_, by omega, z4⟩, rfl⟩
    rw [List.length_append, List.length_map, insL_len]
    simp at z2
    omega
  · have hc0 : ¬ cap = 0 := by omega
    have hc1 : ¬ cap = i + 1 := by omega
    have hc2 : ¬ cap = i := by omega
    have hc3 : ¬ cap = i := by omega
    have q1 : xs.length + 1 - (i + 1) = xs.length - i := by omega
    have q2 : min (xs.length + 1 - i) (xs.length - i) = xs.length - i := by omega
    have q3 : min 1 (xs.length + 1 - i) = 1 := by omega
    have q4 : ¬ (xs.length - i = 0) := by omega
    have q5 : ¬ (xs.length - i = 0) := by omega
    repeat' first
        | fail
    simp only [hc0, hc1, if_false, addr_add, Option.map_some, Nat.zero_add]
    refine ⟨.bool false, fun w hs => ⟨w, ov_run hs (by rw [List.length_append]; omega) _ _ _, rfl, rfl, rfl, rfl⟩, ?_⟩
    simp only [onv_some]
    repeat' first
        | refine EV.seq ?_
        | ((refine EV.cond rfl (fun h => ?_) (fun h => ?_) <;> try simp only [reduceCtorEq, reduceIte, if_true, if_false, Bool.not_eq_true', Bool.not_eq_false', decide_eq_true_eq, decide_eq_false_iff_not, Bool.and_eq_true, Bool.or_eq_true, Bool.and_eq_false_iff, Bool.or_eq_false_iff] at h) <;> try (exfalso; first | exact h True.intro | (exact h; done) | omega | (simp only [not_true_eq_false, false_or, or_false] at h; omega)))
        | fail
    refine EV.any (t := Q62_15) _ (List.Sublist.refl _) ?_
    simp only [push_cast, Int.cast_ofNat_Int, reduceIte, Nat.reduceEqDiff, reduceCtorEq, Nat.reduceAdd, Nat.reduceSub, Nat.reduceMul, Int.reduceToNat, Nat.reduceLeDiff, Option.map_some, Option.map_none, Option.isSome_none, Option.isNone_none, Option.some.injEq, Int.natCast_inj, exists_eq_left', or_true, true_or, Bool.false_eq_true, hw1, hw2, hw3, ex_cast1, osg, addr_add, hc0, hc1, hc2, hc3, q1, q2, q3, q4, q5, Q62_15]
    repeat refine And.intro (by omega) ?_
    have hsl : sp.length = cap - xs.length := by rw [List.length_append] at k2; omega
    have q2' : min (xs.length - i) (xs.length + 1 - i) = xs.length - i := by omega
    refine ⟨((xs.map vi ++ sp).drop i).take (xs.length + 1 - i), Or.inr ⟨b, i, rfl, rd_own' 0 rfl (by rw [Nat.mul_one]) ?_⟩, ?_, Or.inr ⟨b, i + 1, rfl, 3, _, [], [_], rfl, ?_, ?_⟩⟩
    · rw [List.length_append]; omega
    · rw [List.take_take, q2', List.drop_append_of_le_length (by omega), List.take_append_of_le_length (by rw [List.length_drop]; omega)]
      intro v hv
      obtain ⟨y, _, rfl⟩ := List.mem_map.1 (List.mem_of_mem_drop (List.mem_of_mem_take hv))
      rfl
    · rw [List.length_append]; omega
    have e1 : List.take (xs.length - i) (((xs.map vi ++ sp).drop i).take (xs.length + 1 - i)) = (xs.drop i).map vi := by
      rw [List.take_take, q2', List.drop_append_of_le_length (by omega), List.take_append_of_le_length (by rw [List.length_drop]; omega), List.map_drop]
      exact List.take_of_length_le (by rw [List.length_drop]; omega)
    simp only [e1]
    repeat' first
        | refine EV.seq ?_
        | (refine EV.reg ?_; (conv => (arg 2; whnf)); simp only [push_cast, Int.cast_ofNat_Int, reduceIte, Nat.reduceEqDiff, reduceCtorEq, Nat.reduceAdd, Nat.reduceSub, Nat.reduceMul, Int.reduceToNat, Nat.reduceLeDiff, Option.map_some, Option.map_none, Option.isSome_none, Option.isNone_none, Option.some.injEq, Int.natCast_inj, exists_eq_left', or_true, true_or, Bool.false_eq_true, hw1, hw2, hw3, ex_cast1, osg, addr_add, hc0, hc1, hc2, hc3, q1, q2, q3, q4, q5])
        | (refine And.intro (by omega) ?_)
        | fail
    refine ⟨[vi x], Or.inr ⟨vb, 0, rfl, rd_own' 1 rfl rfl (by simp)⟩, by simp [ok1_cons, ok1_nil, Value.oneCell'], Or.inr ⟨b, i, rfl, 3, _, [], [_], rfl, ?_, ?_⟩⟩
    · simp; omega
    repeat' first
        | refine EV.seq ?_
        | (refine EV.reg ?_; (conv => (arg 2; whnf)); simp only [push_cast, Int.cast_ofNat_Int, reduceIte, Nat.reduceEqDiff, reduceCtorEq, Nat.reduceAdd, Nat.reduceSub, Nat.reduceMul, Int.reduceToNat, Nat.reduceLeDiff, Option.map_some, Option.map_none, Option.isSome_none, Option.isNone_none, Option.some.injEq, Int.natCast_inj, exists_eq_left', or_true, true_or, Bool.false_eq_true, hw1, hw2, hw3, ex_cast1, osg, addr_add, hc0, hc1, hc2, hc3, q1, q2, q3, q4, q5])
        | fail
    obtain ⟨s0, sp', rfl⟩ : ∃ s0 sp', sp = s0 :: sp' := by
      cases sp with
      | nil => simp at hsl; omega
      | cons s0 sp' => exact ⟨s0, sp', rfl⟩
    have hX : xs.map vi ++ s0 :: sp' = (xs.take i).map vi ++ ((xs.drop i).map vi ++ (s0 :: sp')) := by
      rw [← List.append_assoc, ← List.map_append, List.take_append_drop]
    have e := two2 ((xs.take i).map vi) ((xs.drop i).map vi) sp' s0 (vi x) (i := i) (by simp; omega)
    rw [hX, e]
    have e3 : (insL xs i x).map vi ++ sp' = (xs.take i).map vi ++ (vi x :: ((xs.drop i).map vi ++ sp')) := by simp [insL]
    rw [← e3]
    refine EV.to (ρ' := [(6, rowV b (xs.length + 1) cap)]) (G' := [(b, Cl 3 ((insL xs i x).map vi ++ sp'))]) ?_ ?env2 (by (repeat' first | exact List.Sublist.refl _ | exact List.nil_sublist _ | exact List.sublist_append_left _ _ | refine List.Sublist.cons_cons _ ?_ | refine List.Sublist.append_left ?_ _ | refine List.sublist_append_of_sublist_right ?_ | refine List.Sublist.cons _ ?_))
    case env2 =>
      repeat' first
        | (refine List.forall_mem_cons.2 (And.intro ?_ ?_))
        | (intro _ hnil; cases hnil; done)
        | rfl
        | fail
    refine EV.ret Q62_ok ?_
    simp only [push_cast, Int.cast_ofNat_Int, reduceIte, Nat.reduceEqDiff, reduceCtorEq, Nat.reduceAdd, Nat.reduceSub, Nat.reduceMul, Int.reduceToNat, Nat.reduceLeDiff, Q62]
    refine ⟨(b, cap, sp'), rfl, ⟨by simp [insL_len], ?_, by omega, k4⟩, rfl⟩
    rw [List.length_append, List.length_map, insL_len]
    simp at hsl
    omega

end
end Go.EV

namespace Go.EV

theorem set_get {α : Type} [Inhabited α] (l : List α) (w i : Nat) (x : α) (hw : w < l.length) : (l.set w x)[i]! = if i = w then x else l[i]! := by
  by_cases hi : i < l.length
  · rw [getB (by simpa using hi), List.getElem_set, getB hi]
    by_cases h : w = i
    · rw [if_pos h, if_pos h.symm]
    · rw [if_neg h, if_neg (fun e => h e.symm)]
  · rw [getElem!_neg (l.set w x) i (by simpa using hi), getElem!_neg l i hi, if_neg (by omega)]

section
variable {m : VM} {B B' : Nat} {w : Nat}

theorem VM.Wf.up (wf : m.Wf B) (h : B ≤ B') (h0 : B' < 1000000) : m.Wf B' :=
  ⟨h0, wf.pl, wf.tp, wf.t3, wf.nx, wf.po, wf.pb, wf.lp, fun l hl => Nat.le_trans (wf.ll l hl) h, Nat.le_trans wf.ml h, wf.le, fun t ht => Nat.le_trans (wf.rb t ht) h⟩

theorem VM.Wf.set (wf : m.Wf B) (hw : w < m.thr.length) (t' : Thr) (hn : t'.next ≤ m.prog[w]!.length) (hr : t'.read.length ≤ B) (all' : Vw) : VM.Wf { m with thr := m.thr.set w t', all := all' } B := by
  refine ⟨wf.b0, by simpa using wf.pl, by simpa using wf.tp, by simpa using wf.t3, ?_, wf.po, wf.pb, wf.lp, wf.ll, wf.ml, wf.le, ?_⟩
  · intro i hi
    dsimp only
    rw [set_get _ _ _ _ hw]
    by_cases h : i = w
    · subst h; rw [if_pos rfl]; exact hn
    · rw [if_neg h]; exact wf.nx i (by simpa using hi)
  · intro t ht
    rcases List.mem_or_eq_of_mem_set ht with h | h
    · exact wf.rb t h
    · rw [h]; exact hr

theorem rb_at (wf : m.Wf B) (hw : w < m.thr.length) : m.thr[w]!.read.length ≤ B := wf.rb _ (by rw [getB hw]; exact List.getElem_mem _)

/-- No message stands twice in a line. -/
def VM.Nd (m : VM) : Prop := ∀ l, l < 3 → (m.line l).Nodup

theorem reads_wf (wf : m.Wf B) (hB : B + 1 < 1000000) (hw : w < m.thr.length) (n : Int) (o : OpV) : (m.reads w n o).Wf (B + 1) := by
  have h1 := (wf.up (Nat.le_succ B) hB)
  unfold VM.reads VM.setThr
  refine h1.set hw _ ?_ ?_ m.all
  · exact wf.nx w hw
  · have := rb_at wf hw
    simp only [List.length_append, List.length_singleton]; omega

theorem fenced_wf (wf : m.Wf B) (hw : w < m.thr.length) (o : OpV) : (m.fenced w o).Wf B :=
  by
  unfold VM.fenced
  refine wf.set hw _ ?_ ?_ _
  · exact wf.nx w hw
  · exact rb_at wf hw

theorem nexts_wf (wf : m.Wf B) (hw : w < m.thr.length) (hn : m.thr[w]!.next ≠ m.prog[w]!.length) : (m.nexts w).Wf B := by
  unfold VM.nexts VM.setThr
  refine wf.set hw _ ?_ ?_ m.all
  · have := wf.nx w hw
    dsimp only; omega
  · exact rb_at wf hw

theorem ins_mem {l : List Int} {k : Nat} {x y : Int} : y ∈ l.take k ++ x :: l.drop k ↔ y = x ∨ y ∈ l := by
  have : y ∈ l ↔ y ∈ l.take k ∨ y ∈ l.drop k := by rw [← List.mem_append, List.take_append_drop]
  simp [this]; grind

theorem ins_len {l : List Int} {k : Nat} {x : Int} : (l.take k ++ x :: l.drop k).length = l.length + 1 := by
  simp; omega

theorem writes_wf (wf : m.Wf B) (hB : B + 1 < 1000000) (hw : w < m.thr.length) (a : Nat) (word : Int) (o : OpV) (tied : Bool) : (m.writes w a word o tied).Wf (B + 1) := by
  have h1 := (wf.up (Nat.le_succ B) hB).set hw { m.thr[w]! with now := upd m.thr[w]!.now o.loc.toNat (m.msgs.length : Int), gained := joinV (upd m.line o.loc.toNat ((m.line o.loc.toNat).take (a + 1) ++ (m.msgs.length : Int) :: (m.line o.loc.toNat).drop (a + 1))) m.thr[w]!.gained (upd m.thr[w]!.now o.loc.toNat (m.msgs.length : Int)) } (wf.nx w hw) (by have := rb_at wf hw; dsimp only; omega) m.all
  refine ⟨h1.b0, h1.pl, h1.tp, h1.t3, h1.nx, h1.po, h1.pb, ?_, ?_, ?_, ?_, h1.rb⟩
  · intro l hl
    simp only [VM.writes, upd]
    split
    · rw [ins_len]; omega
    · exact wf.lp l hl
  · intro l hl
    simp only [VM.writes, upd]
    split
    · rename_i e; subst e; rw [ins_len]; have := wf.ll _ hl; omega
    · have := wf.ll l hl; omega
  · simp only [VM.writes, List.length_append, List.length_singleton]; have := wf.ml; omega
  · intro l hl n hn
    simp only [VM.writes, upd, List.length_append, List.length_singleton] at hn ⊢
    split at hn
    · rename_i e; subst e
      rcases ins_mem.1 hn with rfl | hn
      · omega
      · have := wf.le _ hl n hn; omega
    · have := wf.le l hl n hn; omega

theorem ins_nodup {l : List Int} {k : Nat} {x : Int} (h : l.Nodup) (hx : x ∉ l) : (l.take k ++ x :: l.drop k).Nodup := by
  have hp : (l.take k ++ x :: l.drop k).Perm (x :: l) := by
    refine List.perm_middle.trans ?_
    rw [List.take_append_drop]
  exact hp.nodup_iff.2 (List.nodup_cons.2 ⟨hx, h⟩)

theorem fresh (wf : m.Wf B) {l : Nat} (hl : l < 3) : (m.msgs.length : Int) ∉ m.line l := fun h => by
  have := wf.le l hl _ h; omega

theorem writes_nd (wf : m.Wf B) (nd : m.Nd) (a : Nat) (word : Int) (o : OpV) (tied : Bool) : (m.writes w a word o tied).Nd := by
  intro l hl
  simp only [VM.writes, upd]
  split
  · rename_i e; subst e; exact ins_nodup (nd _ hl) (fresh wf hl)
  · exact nd l hl

/-! ### Places -/

theorem idxOf_ins {l : List Int} {k : Nat} {x y : Int} (hy : y ∈ l) (hne : y ≠ x) : l.idxOf y ≤ (l.take k ++ x :: l.drop k).idxOf y := by
  rw [List.idxOf_append]
  have h2 : l.idxOf y = if y ∈ l.take k then (l.take k).idxOf y else (l.drop k).idxOf y + (l.take k).length := by
    rw [← List.idxOf_append, List.take_append_drop]
  rw [h2]
  split
  · exact Nat.le_refl _
  · rw [List.idxOf_cons, show (x == y) = false from beq_eq_false_iff_ne.2 (fun e => hne e.symm)]; simp only [cond_false]; omega

theorem place_ins {line : Nat → List Int} {l0 k : Nat} {x : Int} (hx : x ∉ line l0) (l : Nat) (n : Int) : place line l n ≤ place (upd line l0 ((line l0).take k ++ x :: (line l0).drop k)) l n := by
  unfold place
  simp only [upd]
  by_cases h : l = l0
  · subst h
    simp only [if_true]
    by_cases hm : n ∈ line l
    · rw [if_pos hm, if_pos (ins_mem.2 (.inr hm))]
      exact idxOf_ins hm (fun e => hx (e ▸ hm))
    · rw [if_neg hm]; exact Nat.zero_le _
  · simp only [if_neg h]; exact Nat.le_refl _

theorem place_new {line : Nat → List Int} {l k : Nat} {x : Int} (hx : x ∉ line l) (hk : k ≤ (line l).length) : place (upd line l ((line l).take k ++ x :: (line l).drop k)) l x = k := by
  unfold place
  simp only [upd, if_true]
  rw [if_pos (ins_mem.2 (.inl rfl)), List.idxOf_append, if_neg (fun h => hx (List.mem_of_mem_take h)), List.idxOf_cons_self]
  simp; omega

theorem place_at {line : Nat → List Int} {l a : Nat} (nd : (line l).Nodup) (ha : a < (line l).length) : place line l (line l)[a]! = a := by
  unfold place
  rw [getB ha, if_pos (List.getElem_mem _)]
  exact nd.idxOf_getElem a ha

theorem place_neg {line : Nat → List Int} {l : Nat} {n : Int} (hle : ∀ n ∈ line l, 0 ≤ n) (hn : n < 0) : place line l n = 0 := by
  unfold place
  rw [if_neg (fun h => by have := hle n h; omega)]

theorem place_join {line : Nat → List Int} {l : Nat} (hle : ∀ n ∈ line l, 0 ≤ n) (x y : Vw) : place line l (joinV line x y l) = max (place line l (x l)) (place line l (y l)) := by
  unfold joinV
  split
  · rename_i h
    rcases h.2 with h2 | h2
    · rw [place_neg hle h2]; omega
    · omega
  · rename_i h
    by_cases hy : 0 ≤ y l
    · have : ¬ (x l < 0 ∨ place line l (x l) < place line l (y l)) := fun h2 => h ⟨hy, h2⟩
      omega
    · rw [place_neg hle (n := y l) (by omega)]; omega

/-! ### A step -/

structure VM.Le (m m' : VM) : Prop where
  tl : m'.thr.length = m.thr.length
  pr : m'.prog = m.prog
  mono : ∀ t, t < m.thr.length → ∀ l, l < 3 → place m.line l (m.thr[t]!.now l) ≤ place m'.line l (m'.thr[t]!.now l)

theorem VM.Le.refl (m : VM) : m.Le m := ⟨rfl, rfl, fun _ _ _ _ => Nat.le_refl _⟩
theorem VM.Le.trans {a b c : VM} (h : a.Le b) (k : b.Le c) : a.Le c :=
  ⟨k.tl.trans h.tl, k.pr.trans h.pr, fun t ht l hl => Nat.le_trans (h.mono t ht l hl) (k.mono t (by rw [h.tl]; exact ht) l hl)⟩

theorem VM.Le.set {t' : Thr} {all' : Vw} (hw : w < m.thr.length) (h : ∀ l, l < 3 → place m.line l (m.thr[w]!.now l) ≤ place m.line l (t'.now l)) : m.Le { m with thr := m.thr.set w t', all := all' } := by
  refine ⟨by simp, rfl, fun t ht l hl => ?_⟩
  dsimp only
  rw [set_get _ _ _ _ hw]
  by_cases e : t = w
  · subst e; rw [if_pos rfl]; exact h l hl
  · rw [if_neg e]; exact Nat.le_refl _

def VM.Own (m : VM) : Prop := ∀ l, l < 3 → ∀ n ∈ m.line l, m.msgs[n.toNat]!.view l = n

theorem hle (wf : m.Wf B) {l : Nat} (hl : l < 3) : ∀ n ∈ m.line l, 0 ≤ n := fun n hn => (wf.le l hl n hn).1

theorem nexts_le (hw : w < m.thr.length) : m.Le (m.nexts w) := by
  unfold VM.nexts VM.setThr
  exact VM.Le.set (all' := m.all) hw fun _ _ => Nat.le_refl _

theorem fenced_le (wf : m.Wf B) (hw : w < m.thr.length) (o : OpV) : m.Le (m.fenced w o) := by
  unfold VM.fenced
  refine VM.Le.set hw fun l hl => ?_
  have h0 := hle wf hl
  dsimp only
  split <;> split <;> (try rw [place_join h0]) <;> (try rw [place_join h0]) <;> omega

theorem reads_le (wf : m.Wf B) (nd : m.Nd) (hw : w < m.thr.length) (o : OpV) (ho : o.loc.toNat < 3) {a : Nat} (ha : a < (m.line o.loc.toNat).length) (hlo : place m.line o.loc.toNat (m.thr[w]!.now o.loc.toNat) ≤ a) :
    m.Le (m.reads w (m.line o.loc.toNat)[a]! o) := by
  unfold VM.reads VM.setThr
  refine VM.Le.set (all' := m.all) hw fun l hl => ?_
  have h0 := hle wf hl
  have h1 : place m.line l (m.thr[w]!.now l) ≤ place m.line l (upd m.thr[w]!.now o.loc.toNat (m.line o.loc.toNat)[a]! l) := by
    simp only [upd]
    split
    · rename_i e; subst e; rw [place_at (nd _ hl) ha]; exact hlo
    · exact Nat.le_refl _
  dsimp only
  split
  · rw [place_join h0]; omega
  · exact h1

theorem writes_le (wf : m.Wf B) (hw : w < m.thr.length) (o : OpV) (ho : o.loc.toNat < 3) {a : Nat} (ha : a < (m.line o.loc.toNat).length) (hlo : place m.line o.loc.toNat (m.thr[w]!.now o.loc.toNat) ≤ a) (word : Int) (tied : Bool) :
    m.Le (m.writes w a word o tied) := by
  have hf := fresh wf ho
  refine ⟨by simp [VM.writes], rfl, fun t ht l hl => ?_⟩
  simp only [VM.writes]
  rw [set_get _ _ _ _ hw]
  by_cases e : t = w
  · subst e
    rw [if_pos rfl]
    dsimp only
    by_cases e2 : l = o.loc.toNat
    · subst e2
      have h3 : upd m.thr[t]!.now o.loc.toNat (m.msgs.length : Int) o.loc.toNat = m.msgs.length := by simp only [upd, if_true]
      rw [h3, place_new hf (by omega)]; omega
    · have h3 : upd m.thr[t]!.now o.loc.toNat (m.msgs.length : Int) l = m.thr[t]!.now l := by simp only [upd, if_neg e2]
      rw [h3]; exact place_ins hf l _
  · rw [if_neg e]; exact place_ins hf l _

theorem writes_own (wf : m.Wf B) (ow : m.Own) (a : Nat) (word : Int) (o : OpV) (tied : Bool) : (m.writes w a word o tied).Own := by
  intro l hl n hn
  simp only [VM.writes] at hn ⊢
  have hold : n ∈ m.line l → (m.msgs ++ [(⟨word, upd (if tied then joinV (upd m.line o.loc.toNat ((m.line o.loc.toNat).take (a + 1) ++ (m.msgs.length : Int) :: (m.line o.loc.toNat).drop (a + 1))) (if relP o.ord then upd m.thr[w]!.now o.loc.toNat (m.msgs.length : Int) else m.thr[w]!.given) (m.msgs[((m.line o.loc.toNat)[a]!).toNat]!).view else (if relP o.ord then upd m.thr[w]!.now o.loc.toNat (m.msgs.length : Int) else m.thr[w]!.given)) o.loc.toNat (m.msgs.length : Int), tied⟩ : Msg)])[n.toNat]!.view l = n := fun h => by
    have h2 := wf.le l hl n h
    rw [getB (by simp; omega), List.getElem_append_left (by omega), ← getB]
    exact ow l hl n h
  simp only [upd] at hn
  split at hn
  · rename_i e; subst e
    rcases ins_mem.1 hn with rfl | hn
    · rw [getB (by simp), List.getElem_append_right (by simp)]
      simp [upd]
    · exact hold hn
  · exact hold hn

theorem reads_own (ow : m.Own) (n : Int) (o : OpV) : (m.reads w n o).Own := ow
theorem reads_nd (nd : m.Nd) (n : Int) (o : OpV) : (m.reads w n o).Nd := nd

theorem choices_mem {o : OpV} (h5 : o.kind ≠ 5) {c : Nat × Bool} (hc : c ∈ m.choices w o) : m.low w o ≤ c.1 ∧ c.1 < (m.line o.loc.toNat).length := by
  simp only [VM.choices, if_neg h5, VM.choicesFrom, List.mem_flatMap, List.mem_range] at hc
  obtain ⟨k, hk, hc⟩ := hc
  have : c.1 = m.low w o + k := by
    simp only [VM.choicesAt, List.mem_append] at hc
    rcases hc with hc | hc <;> (split at hc <;> simp at hc; subst hc; rfl)
  omega

/-- All that holds of a machine, and what a step leaves. -/
structure VM.Inv (m : VM) (B : Nat) : Prop where
  wf : m.Wf B
  nd : m.Nd
  ow : m.Own

theorem does_inv (iv : m.Inv B) (hB : B + 2 < 1000000) (hw : w < m.thr.length) (hn : m.thr[w]!.next ≠ m.prog[w]!.length) (o : OpV) (ho : okOpE o) {c : Nat × Bool} (hc : c ∈ m.choices w o) :
    (m.does w o c).Inv (B + 2) ∧ m.Le (m.does w o c) := by
  obtain ⟨wf, nd, ow⟩ := iv
  have hl : o.loc.toNat < 3 := by have := ho.2.2.1; have := ho.2.2.2.1; omega
  have w1 := nexts_wf wf hw hn
  have l1 : m.Le (m.nexts w) := nexts_le hw
  have hw1 : w < (m.nexts w).thr.length := by rw [l1.tl]; exact hw
  have ht1 : (m.nexts w).thr[w]!.now = m.thr[w]!.now := by simp only [VM.nexts, VM.setThr]; rw [set_get _ _ _ _ hw, if_pos rfl]
  simp only [VM.does]
  by_cases h5 : o.kind = 5
  · rw [if_pos h5]
    exact ⟨⟨(fenced_wf w1 hw1 o).up (by omega) hB, nd, ow⟩, l1.trans (fenced_le w1 hw1 o)⟩
  · rw [if_neg h5]
    obtain ⟨hlo, ha⟩ := choices_mem h5 hc
    have hlo' : place (m.nexts w).line o.loc.toNat ((m.nexts w).thr[w]!.now o.loc.toNat) ≤ c.1 := by rw [ht1]; exact hlo
    by_cases h1 : o.kind = 1
    · rw [if_pos h1]
      split
      · exact ⟨⟨(writes_wf w1 (by omega) hw1 _ _ _ _).up (by omega) hB, writes_nd w1 nd _ _ _ _, writes_own w1 ow _ _ _ _⟩, l1.trans (writes_le w1 hw1 o hl ha hlo' _ _)⟩
      · exact ⟨⟨w1.up (by omega) hB, nd, ow⟩, l1⟩
    · rw [if_neg h1]
      have w2 := reads_wf w1 (by omega) hw1 ((m.nexts w).line o.loc.toNat)[c.1]! o
      have l2 := l1.trans (reads_le w1 nd hw1 o hl ha hlo')
      have hw2 : w < ((m.nexts w).reads w ((m.nexts w).line o.loc.toNat)[c.1]! o).thr.length := by rw [l2.tl]; exact hw
      split
      · refine ⟨⟨(writes_wf w2 (by omega) hw2 _ _ _ _), writes_nd w2 nd _ _ _ _, writes_own w2 ow _ _ _ _⟩, l2.trans (writes_le w2 hw2 o hl ha ?_ _ _)⟩
        have h0 := hle w1 hl
        have e1 : place (m.nexts w).line o.loc.toNat ((m.nexts w).line o.loc.toNat)[c.1]! = c.1 := place_at (nd _ hl) ha
        have hmem : ((m.nexts w).line o.loc.toNat)[c.1]! ∈ (m.nexts w).line o.loc.toNat := by
          show (m.line o.loc.toNat)[c.1]! ∈ m.line o.loc.toNat
          rw [getB ha]; exact List.getElem_mem _
        have e2 : ((m.nexts w).msgs[((m.nexts w).line o.loc.toNat)[c.1]!.toNat]!).view o.loc.toNat = ((m.nexts w).line o.loc.toNat)[c.1]! := ow _ hl _ hmem
        have e3 : ∀ v : Vw, (upd v o.loc.toNat ((m.nexts w).line o.loc.toNat)[c.1]!) o.loc.toNat = ((m.nexts w).line o.loc.toNat)[c.1]! := fun v => by simp only [upd, if_true]
        simp only [VM.reads, VM.setThr]
        rw [set_get _ _ _ _ hw1, if_pos rfl]
        dsimp only
        split
        · rw [place_join h0, e3, e2, e1]; omega
        · rw [e3, e1]; exact Nat.le_refl _
      · exact ⟨⟨w2.up (by omega) hB, nd, ow⟩, l2⟩

theorem turn_cases (m : VM) (who : Int) : (m.turn who).2 ≠ 0 ∨ ((m.turn who).2 = 0 ∧ ∃ w : Nat, who = w ∧ w < m.thr.length ∧ m.thr[w]!.next ≠ m.prog[w]!.length ∧ (m.turn who).1 = m.prog[w]![m.thr[w]!.next]!) := by
  unfold VM.turn
  split
  · exact .inl (by simp)
  · split
    · exact .inl (by simp)
    · rename_i h1 h2
      refine .inr ⟨rfl, who.toNat, by omega, by omega, h2, rfl⟩

theorem op_ok (wf : m.Wf B) {w : Nat} (hw : w < m.thr.length) (h2 : m.thr[w]!.next ≠ m.prog[w]!.length) : okOpE (m.prog[w]![m.thr[w]!.next]!) := by
  have hpl := wf.pl
  have hnl := wf.nx w hw
  have hlt : m.thr[w]!.next < m.prog[w]!.length := by omega
  rw [getB hlt]
  exact wf.po _ (by rw [getB (show w < m.prog.length by omega)]; exact List.getElem_mem _) _ (List.getElem_mem _)

theorem step_inv (iv : m.Inv B) (hB : B + 2 < 1000000) (who number : Int) : (m.step who number).1.Inv (B + 2) ∧ m.Le (m.step who number).1 := by
  have hup : m.Inv (B + 2) := ⟨iv.wf.up (by omega) hB, iv.nd, iv.ow⟩
  unfold VM.step
  rcases turn_cases m who with h | ⟨h, w, rfl, hw, h2, e⟩
  · rw [if_pos h]; exact ⟨hup, .refl m⟩
  · rw [if_neg (by simpa using h)]
    split
    · exact ⟨hup, .refl m⟩
    · rename_i hn
      rw [Int.toNat_natCast] at hn ⊢
      have hlt : number.toNat < (m.choices w (m.turn w).1).length := by omega
      refine does_inv iv hB hw h2 _ (e ▸ op_ok iv.wf hw h2) ?_
      rw [getB hlt]; exact List.getElem_mem _

end
end Go.EV

namespace Go.EV
open Go.Proofs

def lnRow (line : Nat → List Int) (lv : Nat → Nat × Nat × List Value) (l : Nat) : Nat × Obj := ((lv l).1, Cl 3 ((line l).map vi ++ (lv l).2.2))
def lnRest (line : Nat → List Int) (lv : Nat → Nat × Nat × List Value) (l : Nat) : Own :=
  match l with
  | 0 => [lnRow line lv 1, lnRow line lv 2]
  | 1 => [lnRow line lv 0, lnRow line lv 2]
  | _ => [lnRow line lv 0, lnRow line lv 1]

theorem lnG_split (line : Nat → List Int) (lv : Nat → Nat × Nat × List Value) {l : Nat} (hl : l < 3) : (lnG line lv).Perm (lnRow line lv l :: lnRest line lv l) := by
  match l, hl with
  | 0, _ => exact List.Perm.refl _
  | 1, _ => exact List.Perm.swap _ _ _
  | 2, _ => exact (List.Perm.swap _ _ _).cons _ |>.trans (List.Perm.swap _ _ _)

theorem lnRest_upd (line : Nat → List Int) (lv : Nat → Nat × Nat × List Value) {l : Nat} (hl : l < 3) (L : List Int) (o : Nat × Nat × List Value) : lnRest (upd line l L) (upd lv l o) l = lnRest line lv l := by
  match l, hl with
  | 0, _ => rfl
  | 1, _ => rfl
  | 2, _ => rfl

theorem lnRest_sub (line : Nat → List Int) (lv : Nat → Nat × Nat × List Value) {l : Nat} (hl : l < 3) : (lnRest line lv l).Sublist (lnG line lv) := by
  match l, hl with
  | 0, _ => exact List.Sublist.cons _ (List.Sublist.refl _)
  | 1, _ => exact List.Sublist.cons_cons _ (List.Sublist.cons _ (List.Sublist.refl _))
  | 2, _ => exact List.Sublist.cons_cons _ (List.Sublist.cons_cons _ (List.Sublist.cons _ (List.Sublist.refl _)))

theorem lnG_upd (line : Nat → List Int) (lv : Nat → Nat × Nat × List Value) {l : Nat} (hl : l < 3) (L : List Int) (o : Nat × Nat × List Value) : ((o.1, Cl 3 (L.map vi ++ o.2.2)) :: lnRest line lv l).Perm (lnG (upd line l L) (upd lv l o)) := by
  have h := lnG_split (upd line l L) (upd lv l o) hl
  rw [lnRest_upd _ _ hl] at h
  have e : lnRow (upd line l L) (upd lv l o) l = (o.1, Cl 3 (L.map vi ++ o.2.2)) := by simp [lnRow, upd]
  rw [e] at h
  exact h.symm

theorem lnH_upd (line : Nat → List Int) (lv : Nat → Nat × Nat × List Value) (l : Nat) (L : List Int) (o : Nat × Nat × List Value) : upd (lnH line lv) l (rowV o.1 L.length o.2.1) = lnH (upd line l L) (upd lv l o) := by
  funext j
  simp only [upd, lnH]
  by_cases h : j = l
  · subst h; simp
  · simp [h]

theorem ins_perm {α : Type} {v r o h t m : α} {ln rest rd : List α} (hl : ln.Perm (r :: rest)) : (v :: o :: h :: t :: m :: (ln ++ rd)).Perm ([r, v] ++ (o :: h :: t :: m :: (rest ++ rd))) := by
  have h1 : (ln ++ rd).Perm (r :: (rest ++ rd)) := hl.append_right rd
  refine (((((h1.cons m).cons t).cons h).cons o).cons v).trans ?_
  exact List.perm_middle (l₁ := [v, o, h, t, m])

theorem ins_perm' {α : Type} {r o h t m : α} {ln rest rd : List α} (hl : (r :: rest).Perm ln) : (o :: h :: t :: m :: (rest ++ (rd ++ [r]))).Perm (o :: h :: t :: m :: (ln ++ rd)) := by
  refine List.Perm.cons _ (List.Perm.cons _ (List.Perm.cons _ (List.Perm.cons _ ?_)))
  rw [← List.append_assoc]
  exact (List.perm_append_comm (l₁ := rest ++ rd) (l₂ := [r])).trans (hl.append_right rd)

section
variable {M : PHeap} {G : Own} {mp : Nat} {B : Nat}

theorem rd_hd_lnH {line : Nat → List Int} {lv : Nat → Nat × Nat × List Value} {b : Nat} {T : TypeId} {pg mh th : Value} {all : Vw} {l : Nat} (hl : l < 3) [h : At G b T (hdL pg mh (lnH line lv) th all)] : rd (M.add G) b (2 + l) 1 [rowV (lv l).1 (line l).length (lv l).2.1] :=
  rd_hd_line (T := T) (lh := lnH line lv) hl

theorem rd_ln {line : Nat → List Int} {lv : Nat → Nat × Nat × List Value} {l i : Nat} (hl : l < 3) (hi : i < (line l).length) (h : ∀ q ∈ lnG line lv, q ∈ G) : rd (M.add G) (lv l).1 i 1 [vi (line l)[i]!] := by
  have hm : lnRow line lv l ∈ G := h _ ((lnG_split line lv hl).symm.subset (List.mem_cons_self ..))
  have := rd_mem (M := M) (off := i) (n := 1) hm (by simp; omega)
  rw [List.drop_append_of_le_length (by simp; omega), List.take_append_of_le_length (by simp; omega), map_part vi _ hi] at this
  exact this

theorem enc_st_at {l : Nat} (hl : l < 3) (v : Vw) (x : Int) : (encV v).take l ++ (vi x :: (encV v).drop (l + 1)) = encV (upd v l x) := by
  match l, hl with
  | 0, _ => rfl
  | 1, _ => rfl
  | 2, _ => rfl

theorem enc_drop (v : Vw) : (encV v).drop 3 = [] := rfl

theorem mc_st {X : List Value} {n : Nat} (hX : X.length = n * 5) (w c0 c1 c2 t : Value) (sp : List Value) (v : Vw) :
    (X ++ (w :: c0 :: c1 :: c2 :: t :: sp)).take (n * 5 + 1) ++ (encV v ++ (X ++ (w :: c0 :: c1 :: c2 :: t :: sp)).drop (n * 5 + 1 + 3)) = X ++ (w :: (encV v ++ (t :: sp))) := by
  rw [← hX, List.take_length_add_append, Nat.add_assoc, List.drop_length_add_append]
  simp [encV]

/-- What a write leaves of a thread, of the lines, and which message it makes. -/
def writesThr (line : Nat → List Int) (t : Thr) (l : Nat) (number : Int) : Thr :=
  ⟨upd t.now l number, joinV line t.gained (upd t.now l number), t.given, t.read, t.next⟩
def writesView (line : Nat → List Int) (t : Thr) (l : Nat) (number : Int) (od : Int) (tied : Bool) (s : Vw) : Vw :=
  let v1 := if relP od then upd t.now l number else t.given
  upd (if tied then joinV line v1 s else v1) l number

/-- What a function that turns a machine leaves. -/
def Wrote (mp : Nat) (p : PM) (m' : VM) (_ : Value) (_ : PHeap) (G' : Own) : Prop :=
  ∃ p' : PM, G' = p'.G mp ∧ p'.Ok ∧ p'.vm = m' ∧ p'.pg = p.pg ∧ p'.pc = p.pc

set_option maxRecDepth 8000 in
set_option maxHeartbeats 8000000 in
theorem view_writes_c (p : PM) (ok : p.Ok) (wf : p.vm.Wf B) (hB1 : B + 1 < 1000000) {w : Nat} (hw : w < p.pt.length) (a : Nat) (word : Int) (o : OpV) (ho : okOpE o) (ha : a < (p.line o.loc.toNat).length) (tied : Bool) :
    Con Try.prog 68 #[pv mp 0, vi w, vi a, vi word, vop o, vb tied] M (p.G mp) (Wrote mp p (p.vm.writes w a word o tied)) := by
  have hb : ∀ l, l < 3 → (p.line l).length ≤ B := fun l hl => wf.ll l hl
  have hml : p.msgs.length ≤ B := wf.ml
  have hB := wf.b0
  have hle := wf.le
  obtain ⟨kd, lo, v, w', od⟩ := o
  obtain ⟨o1, o2, o3, o4, o5⟩ := ho
  dsimp only at o1 o2 o3 o4 o5
  obtain ⟨l, rfl⟩ : ∃ l : Nat, lo = l := ⟨lo.toNat, by omega⟩
  have hl : l < 3 := by omega
  obtain ⟨pg, pc, ⟨mb, mc, ms⟩, lv, tv, prog, msgs, line, all, pt⟩ := p
  obtain ⟨pA, ⟨t, ov⟩, pC, rfl, hpA⟩ := PM.split pt w hw
  have hA : (pA.flatMap encPT).length = w * 11 := by rw [encPT_len, hpA]
  simp only [Int.toNat_natCast] at ha
  dsimp only at hb hw hml hle
  have hbl := hb l hl
  have hbb : ∀ j, j < 3 → (line j).length < 1000000 := fun j hj => by have := hb j hj; omega
  have hmem : (line l)[a]! ∈ line l := by rw [getB ha]; exact List.getElem_mem _
  have hfr : 0 ≤ (line l)[a]! ∧ (line l)[a]! < msgs.length := hle l hl _ hmem
  have hfn : (line l)[a]!.toNat < msgs.length := by omega
  have hX : (msgs.flatMap encMsg).length = msgs.length * 5 := flatMap_length (enc := encMsg) (fun _ => rfl) msgs
  have hw1 : IntKind.i64.wrap ((a : Int) + 1) = ((a + 1 : Nat) : Int) := by rw [w64 (by omega) (by omega)]; omega
  have hcast : ((a : Int) + 1) = ((a + 1 : Nat) : Int) := by omega
  refine Con.enter Q87_ok (args := [pv mp 0, vi w, vi a, vi word, vop ⟨kd, l, v, w', od⟩, vb tied]) (by simp [Q87]) fun w0 => ?_
  simp only [Q87, argE, PM.G]
  rw [tc_of]
  repeat' first
      | refine EV.seq ?_
      | (refine EV.reg ?_; (conv => (arg 2; whnf)); simp only [push_cast, Int.cast_ofNat_Int, reduceIte, Nat.reduceEqDiff, reduceCtorEq, Nat.reduceAdd, Nat.reduceSub, Nat.reduceMul, Int.reduceToNat, Nat.reduceLeDiff, tc_len hA, hd_len, encV_len, ok1_encV])
      | ((first | refine Exists.intro _ (Exists.intro _ (Exists.intro _ (And.intro (rd_hd_ms) ?_))) | refine Exists.intro _ (Exists.intro _ (Exists.intro _ (And.intro (rd_hd_th) ?_))) | with_reducible intro b | fail); try simp only [push_cast, Int.cast_ofNat_Int, reduceIte, Nat.reduceEqDiff, reduceCtorEq, Nat.reduceAdd, Nat.reduceSub, Nat.reduceMul, Int.reduceToNat, Nat.reduceLeDiff, tc_len hA, hd_len, encV_len, ok1_encV])
      | (refine And.intro (by omega) ?_)
      | fail
  refine EV.any (t := Q87_3) _ (List.Sublist.refl _) ?_
  simp only [push_cast, Int.cast_ofNat_Int, reduceIte, Nat.reduceEqDiff, reduceCtorEq, Nat.reduceAdd, Nat.reduceSub, Nat.reduceMul, Int.reduceToNat, Nat.reduceLeDiff, Q87_3]
  repeat' first
      | refine EV.seq ?_
      | ((first | refine Exists.intro _ (And.intro (rd_ln hl ha (fun q hq => by simp [hq])) ?_) | refine Exists.intro _ (Exists.intro _ (Exists.intro _ (And.intro (rd_hd_lnH (line := line) (lv := lv) hl) ?_))) | fail); try simp only [push_cast, Int.cast_ofNat_Int, reduceIte, Nat.reduceEqDiff, reduceCtorEq, Nat.reduceAdd, Nat.reduceSub, Nat.reduceMul, Int.reduceToNat, Nat.reduceLeDiff, tc_len hA, hd_len, encV_len, ok1_encV])
      | (refine And.intro (by omega) ?_)
      | (refine xi rfl (by simp only [List.length_cons, List.length_nil]; omega) ?_; try simp only [push_cast, Int.cast_ofNat_Int, reduceIte, Nat.reduceEqDiff, reduceCtorEq, Nat.reduceAdd, Nat.reduceSub, Nat.reduceMul, Int.reduceToNat, Nat.reduceLeDiff, tc_len hA, hd_len, encV_len, ok1_encV])
      | fail
  refine EV.any (t := Q87_4) _ (sub4 (List.Sublist.append_right (lnRest_sub line lv hl) _)) ?_
  simp only [push_cast, Int.cast_ofNat_Int, reduceIte, Nat.reduceEqDiff, reduceCtorEq, Nat.reduceAdd, Nat.reduceSub, Nat.reduceMul, Int.reduceToNat, Nat.reduceLeDiff, Q87_4]
  repeat' first
      | ((first | refine Exists.intro _ (Exists.intro _ (Exists.intro _ (And.intro (rd_hd_lnH (line := line) (lv := lv) hl) ?_))) | with_reducible intro b | fail); try simp only [push_cast, Int.cast_ofNat_Int, reduceIte, Nat.reduceEqDiff, reduceCtorEq, Nat.reduceAdd, Nat.reduceSub, Nat.reduceMul, Int.reduceToNat, Nat.reduceLeDiff, tc_len hA, hd_len, encV_len, ok1_encV, hw1])
      | (refine And.intro (by omega) ?_)
      | (refine xi rfl (by simp only [List.length_cons, List.length_nil]; omega) ?_; try simp only [push_cast, Int.cast_ofNat_Int, reduceIte, Nat.reduceEqDiff, reduceCtorEq, Nat.reduceAdd, Nat.reduceSub, Nat.reduceMul, Int.reduceToNat, Nat.reduceLeDiff, tc_len hA, hd_len, encV_len, ok1_encV, hw1])
      | fail
  refine And.intro (PHeap.le_refl _) (And.intro (mem_of_sub (List.Sublist.cons _ (sub4 (List.Sublist.append_right (lnRest_sub line lv hl) _)))) ?_)
  rw [hcast]
  refine Con.callB (Mr := M) (slices_Insert_c (line l) (lv l).1 (lv l).2.1 (lv l).2.2 (ok.lk l hl) (i := a + 1) (by omega) (by omega) msgs.length b) (PHeap.le_add _ _) (ins_perm (lnG_split line lv hl)) ?_
  rintro v1 M1 G1 ⟨o, rfl, hoo, rfl⟩
  simp only [push_cast, Int.cast_ofNat_Int, reduceIte, Nat.reduceEqDiff, reduceCtorEq, Nat.reduceAdd, Nat.reduceSub, Nat.reduceMul, Int.reduceToNat, Nat.reduceLeDiff]
  refine And.intro (PHeap.le_refl _) (And.intro (mem_of_sub (by (repeat' first | exact List.Sublist.refl _ | exact List.nil_sublist _ | exact List.sublist_append_left _ _ | refine List.Sublist.cons_cons _ ?_ | refine List.Sublist.append_left ?_ _ | refine List.sublist_append_of_sublist_right ?_ | refine List.Sublist.cons _ ?_))) ?_)
  refine And.intro (by omega) (And.intro (by omega) ?_)
  refine ⟨_, _, [_], _, rfl, ?_, ?_⟩
  · rw [hd_len]; omega
  simp only [push_cast, Int.cast_ofNat_Int, reduceIte, Nat.reduceEqDiff, reduceCtorEq, Nat.reduceAdd, Nat.reduceSub, Nat.reduceMul, Int.reduceToNat, Nat.reduceLeDiff, hd_st_line hl]
  refine EV.permG ?_ (ins_perm' (lnG_upd line lv hl (insL (line l) (a + 1) msgs.length) o))
  rw [← insL_len (line l) (a + 1) msgs.length, lnH_upd]
  have hbb' : ∀ j, j < 3 → (upd line l (insL (line l) (a + 1) msgs.length) j).length < 1000000 := fun j hj => by
    simp only [upd]
    split
    · rw [insL_len]; omega
    · exact hbb j hj
  have hlk' : ∀ j, j < 3 → osok 1 (some (upd lv l o j)) (upd line l (insL (line l) (a + 1) msgs.length) j).length ((upd line l (insL (line l) (a + 1) msgs.length) j).map vi) := fun j hj => by
    simp only [upd]
    by_cases e : j = l
    · simp only [if_pos e]; rw [insL_len]; exact hoo
    · simp only [if_neg e]; exact ok.lk j hj
  obtain ⟨line', hline'⟩ : ∃ line', line' = upd line l (insL (line l) (a + 1) msgs.length) := ⟨_, rfl⟩
  obtain ⟨lv', hlv'⟩ : ∃ lv', lv' = upd lv l o := ⟨_, rfl⟩
  simp only [← hline', ← hlv'] at hbb' hlk' ⊢
  repeat' first
      | refine EV.seq ?_
      | (refine EV.reg ?_; (conv => (arg 2; whnf)); simp only [push_cast, Int.cast_ofNat_Int, reduceIte, Nat.reduceEqDiff, reduceCtorEq, Nat.reduceAdd, Nat.reduceSub, Nat.reduceMul, Int.reduceToNat, Nat.reduceLeDiff, tc_len hA, hd_len, encV_len, ok1_encV])
      | ((first | refine Exists.intro _ (Exists.intro _ (Exists.intro _ (And.intro (rd_hd_ms) ?_))) | with_reducible intro b | fail); try simp only [push_cast, Int.cast_ofNat_Int, reduceIte, Nat.reduceEqDiff, reduceCtorEq, Nat.reduceAdd, Nat.reduceSub, Nat.reduceMul, Int.reduceToNat, Nat.reduceLeDiff, tc_len hA, hd_len, encV_len, ok1_encV])
      | fail
  refine ⟨_, Or.inr ⟨_, 0, rfl, rd_own' 0 rfl rfl (by simp)⟩, by simp [ok1_cons, ok1_nil, Value.oneCell'], Or.inl ⟨some (mb, mc, ms), _, rfl, _, ok.mok, _, cat_pull [[_, _, _, _], osg 67 (some (mb, mc, ms)) _, lnG line' lv', rdsG _] 1 (by simp), ?_, ?_, ?_⟩⟩
  · simp only [maxLen]; omega
  · omega
  intro q1 hq1 _
  cases q1 with
  | none => exact absurd hq1.1 (by omega)
  | some q1 =>
  obtain ⟨qb, qc, qs⟩ := q1
  simp only [List.eraseIdx_cons_succ, List.eraseIdx_cons_zero, List.getElem_cons_succ, List.getElem_cons_zero, List.insertIdx_zero, List.insertIdx_succ_cons, cat_two, cat_one, cat_nil, List.nil_append, List.cons_append, List.append_assoc, List.append_nil]
  simp only [push_cast, Int.cast_ofNat_Int, reduceIte, Nat.reduceEqDiff, reduceCtorEq, Nat.reduceAdd, Nat.reduceSub, Nat.reduceMul, Int.reduceToNat, Nat.reduceLeDiff, osg]
  repeat' first
      | refine EV.seq ?_
      | (refine xw ?_; simp only [push_cast, Int.cast_ofNat_Int, reduceIte, Nat.reduceEqDiff, reduceCtorEq, Nat.reduceAdd, Nat.reduceSub, Nat.reduceMul, Int.reduceToNat, Nat.reduceLeDiff, tc_len hA, hd_len, encV_len, ok1_encV, hd_st_ms])
      | fail
  refine EV.permG ?_ (cat_move [[_, _, _, _], lnG line' lv', rdsG _, [_]] 3 1 (by simp) (by simp))
  simp only [List.eraseIdx_cons_succ, List.eraseIdx_cons_zero, List.getElem_cons_succ, List.getElem_cons_zero, List.insertIdx_zero, List.insertIdx_succ_cons, cat_two, cat_one, cat_nil, List.nil_append, List.cons_append, List.append_assoc, List.append_nil]
  repeat' first
      | refine EV.seq ?_
      | refine EV.skip ?_
      | ((first | refine EV.reg ?_ | refine EV.any _ (List.Sublist.refl _) ?_ | fail); (conv => (arg 2; whnf)); simp only [push_cast, Int.cast_ofNat_Int, reduceIte, Nat.reduceEqDiff, reduceCtorEq, Nat.reduceAdd, Nat.reduceSub, Nat.reduceMul, Int.reduceToNat, Nat.reduceLeDiff, tc_len hA, hd_len, encV_len, ok1_encV, tc_st_at hA hl, tc_st_gained hA, enc_drop, enc_st_at hl, mc_st hX])
      | ((first | refine ConQ.call (view_join_l (RdL.of' (line := line') (lv := lv') (fun q hq => by simp [hq]) hbb') _ _) ?_ | refine ConQ.call (order_Releases_q _ o5) ?_ | refine Exists.intro _ (And.intro (rd_box) ?_) | refine Exists.intro _ (And.intro (rd_ms_view hfn) ?_) | refine Exists.intro _ (Exists.intro _ (Exists.intro _ (And.intro (rd_hd_ms) ?_))) | refine Exists.intro _ (And.intro (rd_tc_given hA) ?_) | refine Exists.intro _ (And.intro (rd_tc_gained hA) ?_) | refine Exists.intro _ (And.intro (rd_tc_now hA) ?_) | fail); try simp only [push_cast, Int.cast_ofNat_Int, reduceIte, Nat.reduceEqDiff, reduceCtorEq, Nat.reduceAdd, Nat.reduceSub, Nat.reduceMul, Int.reduceToNat, Nat.reduceLeDiff, tc_len hA, hd_len, encV_len, ok1_encV, tc_st_at hA hl, tc_st_gained hA, enc_drop, enc_st_at hl, mc_st hX])
      | ((refine EV.cond rfl (fun h => ?_) (fun h => ?_) <;> try simp only [reduceCtorEq, reduceIte, if_true, if_false, Bool.not_eq_true', Bool.not_eq_false', decide_eq_true_eq, decide_eq_false_iff_not, Bool.and_eq_true, Bool.or_eq_true, Bool.and_eq_false_iff, Bool.or_eq_false_iff] at h) <;> try (exfalso; first | exact h True.intro | (exact h; done) | omega | (simp only [not_true_eq_false, false_or, or_false] at h; omega)))
      | (with_reducible intro b; try simp only [push_cast, Int.cast_ofNat_Int, reduceIte, Nat.reduceEqDiff, reduceCtorEq, Nat.reduceAdd, Nat.reduceSub, Nat.reduceMul, Int.reduceToNat, Nat.reduceLeDiff, tc_len hA, hd_len, encV_len, ok1_encV, tc_st_at hA hl, tc_st_gained hA, enc_drop, enc_st_at hl, mc_st hX])
      | (refine And.intro (by omega) ?_)
      | (refine xi rfl (by simp only [List.length_cons, List.length_nil]; omega) ?_; try simp only [push_cast, Int.cast_ofNat_Int, reduceIte, Nat.reduceEqDiff, reduceCtorEq, Nat.reduceAdd, Nat.reduceSub, Nat.reduceMul, Int.reduceToNat, Nat.reduceLeDiff, tc_len hA, hd_len, encV_len, ok1_encV, tc_st_at hA hl, tc_st_gained hA, enc_drop, enc_st_at hl, mc_st hX])
      | (refine xw ?_; simp only [push_cast, Int.cast_ofNat_Int, reduceIte, Nat.reduceEqDiff, reduceCtorEq, Nat.reduceAdd, Nat.reduceSub, Nat.reduceMul, Int.reduceToNat, Nat.reduceLeDiff, tc_len hA, hd_len, encV_len, ok1_encV, tc_st_at hA hl, tc_st_gained hA, enc_drop, enc_st_at hl, mc_st hX])
      | (refine And.intro (PHeap.le_refl _) (And.intro (fun p hp => hp) ?_))
      | fail
  all_goals
    rename_i hr
    refine And.intro (by rw [List.length_append]; simp only [List.length_cons]; omega) ?_
    refine EV.to (ρ' := []) (G' := PM.G ⟨pg, pc, (qb, qc, qs), lv', tv, prog, msgs ++ [⟨word, writesView line' t l msgs.length od tied msgs[(line l)[a]!.toNat]!.view, tied⟩], line', all, pA ++ (writesThr line' t l msgs.length, ov) :: pC⟩ mp) ?_ (by simp)
      (by simp only [PM.G, tc_of, rdsG_at, pt_len, writesThr, writesView, h, hr, if_true, if_false, reduceCtorEq, reduceIte, List.length_append, List.length_singleton, List.flatMap_append, List.flatMap_cons, List.flatMap_nil, encMsg, encV, List.cons_append, List.nil_append, List.append_assoc, List.append_nil]; (repeat' first | exact List.Sublist.refl _ | exact List.nil_sublist _ | exact List.sublist_append_left _ _ | refine List.Sublist.cons_cons _ ?_ | refine List.Sublist.append_left ?_ _ | refine List.sublist_append_of_sublist_right ?_ | refine List.Sublist.cons _ ?_))
    refine EV.done Q87_ok ?_
    simp only [push_cast, Int.cast_ofNat_Int, reduceIte, Nat.reduceEqDiff, reduceCtorEq, Nat.reduceAdd, Nat.reduceSub, Nat.reduceMul, Int.reduceToNat, Nat.reduceLeDiff, Q87]
    have ok2 := PM.Ok.thr (all' := all) (writesThr line' t l msgs.length) ov ok (ok.rk (t, ov) (by simp))
    unfold Wrote
    refine ⟨_, rfl, ⟨?_, hlk', ok2.tk, ok2.rk⟩, ?_, rfl, rfl⟩
    · obtain ⟨z1, z2, z3, z4⟩ := hq1
      simp only [List.length_append, List.length_cons, List.length_nil] at z1 z2 z3
      refine ⟨?_, ?_, ?_, z4⟩
      · dsimp only; rw [flatMap_length (enc := encMsg) (sz := 5) (fun _ => rfl)]
      · dsimp only; rw [List.length_append, flatMap_length (enc := encMsg) (sz := 5) (fun _ => rfl), List.length_append, List.length_singleton]; omega
      · dsimp only; rw [List.length_append, List.length_singleton]; omega
    · subst hpA
      subst hline'
      simp only [PM.vm, VM.writes, thr_at, thr_set pA pC t _ ov ov, Int.toNat_natCast]
      rfl

end
end Go.EV

namespace Go.EV
open Go.Proofs

instance LEc.add {M : PHeap} {G : Own} : LEc M (M.add G) := ⟨PHeap.le_add _ _⟩

def idsL (ls : Nat → List RX) : Nat → List Int := fun l => ((ls l).map RX.x).map RMsg.id

section
variable {M : PHeap} {G : Own} {mp : Nat} {B w : Nat}

theorem RdR.of' {pg ah rh nh gh dh all next : Value} {lv : Blk} {mv : Nat → Blk} {ls : Nat → List RX} {sp : List Value} {T T2 : TypeId} [h0 : At G mp T [pg, ah, rh, rrow lv 3, nh, gh, dh, all, next]] [h1 : At G lv.1 T2 (lhC (lsV mv ls) sp)]
    (h2 : ∀ q ∈ lsG mv ls, q ∈ G) (hb : ∀ l, l < 3 → (ls l).length < 1000000) : RdR (M.add G) mp (idsL ls) := by
  have hids : ∀ l, (idsL ls l).length = (ls l).length := fun l => by simp [idsL]
  refine ⟨lv.1, lv.2.1, rd_at h0.mem rfl (Nat.le_of_ble_eq_true rfl), fun l hl => ⟨(mv l).1, (mv l).2.1, ?_, ?_, by rw [hids]; exact hb l hl⟩⟩
  · rw [hids]
    match l, hl with
    | 0, _ => exact rd_at h1.mem rfl (by simp only [lhC, List.length_cons]; omega)
    | 1, _ => exact rd_at h1.mem rfl (by simp only [lhC, List.length_cons]; omega)
    | 2, _ => exact rd_at h1.mem rfl (by simp only [lhC, List.length_cons]; omega)
  · intro i hi
    have hi' : i < (ls l).length := by rwa [hids] at hi
    have hm : ((mv l).1, Cl 86 ((ls l).flatMap encX ++ (mv l).2.2)) ∈ G := h2 _ (by
      match l, hl with
      | 0, _ => simp [lsG]
      | 1, _ => simp [lsG]
      | 2, _ => simp [lsG])
    have hr := (rd_mem0 (M := M) hm (flatMap_length (sz := 4) (enc := encX) (fun _ => rfl) _)).part0 (i * 4) 4 (by omega) (flatMap_part (enc := encX) (fun _ => rfl) hi')
    have e : (idsL ls l)[i]! = (ls l)[i].x.id := by
      simp only [idsL]
      rw [map_at _ (by simpa using hi'), map_at _ hi', getB hi']
    rw [e]
    exact hr.part' 0 1 (by omega) rfl

theorem ref_join_i {line : Nat → List Int} (r : RdR M mp line) {x y : Vw} {ba ca bb cb : Nat} [hx : VR M ba x] [hy : VR M bb y] : Con Try.prog 50 #[pv mp 0, rowV ba 3 ca, rowV bb 3 cb] M [] (ViewR (joinR line x y)) := ref_join_c r hx hy
theorem ref_CopyV_i {z : Vw} {b c : Nat} [h : VR M b z] : Con Try.prog 75 #[rowV b 3 c] M [] (ViewR z) := ref_CopyV_c z b c h

theorem rd_cut {f : RT → Value} {pA : List RT} {T : TypeId} {b : Nat} {v : Value} {C : List Value} (hA : pA.length = w) [h : At G b T (pA.map f ++ v :: C)] : rd (M.add G) b w 1 [v] :=
  rd_at h.mem (by
    have : (pA.map f).length = w := by simpa using hA
    rw [← this, List.drop_append_of_le_length (Nat.le_refl _), List.drop_length]; rfl) (by simp; omega)
theorem cut_len {f : RT → Value} {pA : List RT} (hA : pA.length = w) (v : Value) (C : List Value) : (pA.map f ++ v :: C).length = w + (C.length + 1) := by simp [hA]
theorem cut_set {f : RT → Value} {pA : List RT} (hA : pA.length = w) (v u : Value) (C : List Value) : (pA.map f ++ v :: C).take w ++ u :: (pA.map f ++ v :: C).drop (w + 1) = pA.map f ++ u :: C := by
  have : (pA.map f).length = w := by simpa using hA
  rw [← this, List.take_left, List.drop_length_add_append]; rfl

/-- What a function that turns a machine leaves. -/
def Turned (mp : Nat) (p : RP) (m' : RM) (_ : Value) (M' : PHeap) (G' : Own) : Prop :=
  ∃ p' : RP, G' = p'.G mp ∧ p'.Ok ∧ p'.Vs M' ∧ p'.rm = m' ∧ p'.pg = p.pg ∧ p'.pc = p.pc

theorem EV.drop1 {P : Program} {C : Cx P} {V : List Nat} {k : List RItem} {ρ : Env} {M : PHeap} {G : Own} {x : Nat × Obj} (h : EV C V k ρ M G) : EV C V k ρ M (x :: G) :=
  h.weaken (fun _ _ h => h) (List.sublist_cons_self _ _)

/-- The machine's blocks, parted at a thread. -/
def cutG (mp : Nat) (pg : Value) (N : Nat) (av rv lv nv gv dv : Blk) (mv : Nat → Blk) (ls : Nat → List RX) (pA pC : List RT) (a r n g d all : Value) (next : Int) (rA rd rC : Own) : Own :=
  (mp, Cl 84 [pg, rrow av N, rrow rv N, rrow lv 3, rrow nv N, rrow gv N, rrow dv N, all, vi next]) ::
  (av.1, Cl 3 (pA.map RT.atV ++ a :: (pC.map RT.atV ++ av.2.2))) :: (rv.1, Cl 32 (pA.map RT.rdV ++ r :: (pC.map RT.rdV ++ rv.2.2))) ::
  (lv.1, Cl 87 (lhC (lsV mv ls) lv.2.2)) :: (nv.1, Cl 32 (pA.map RT.nowV ++ n :: (pC.map RT.nowV ++ nv.2.2))) :: (gv.1, Cl 32 (pA.map RT.gainedV ++ g :: (pC.map RT.gainedV ++ gv.2.2))) :: (dv.1, Cl 32 (pA.map RT.givenV ++ d :: (pC.map RT.givenV ++ dv.2.2))) ::
  (lsG mv ls ++ (rA ++ (rd ++ rC)))

theorem RP.G_cut {pg pc prog av rv lv nv gv dv mv ls pA q pC ab ac all next} :
    RP.G ⟨pg, pc, prog, av, rv, lv, nv, gv, dv, mv, ls, pA ++ q :: pC, ab, ac, all, next⟩ mp =
      cutG mp (.slice pg prog.length pc) (pA.length + (pC.length + 1)) av rv lv nv gv dv mv ls pA pC (vi q.th.at_) (osv q.ov q.th.read.length) (rowV q.nb 3 q.nc) (rowV q.gb 3 q.gc) (rowV q.db 3 q.dc) (rowV ab 3 ac) next (rdsR pA) (osg 3 q.ov (q.th.read.map vi)) (rdsR pC) := by
  simp only [RP.G, RP.hd, hdR, cutG, List.map_append, List.map_cons, List.append_assoc, List.cons_append, List.length_append, List.length_cons, rdsR, List.flatMap_append, List.flatMap_cons]
  rfl

def fenceThr (line : Nat → List Int) (all : Vw) (t : RThr) (ord : Int) : RThr × Vw :=
  let now1 := if acqP ord then joinR line t.now t.gained else t.now
  let now2 := if ord = 4 then joinR line now1 all else now1
  (⟨t.at_, t.read, now2, joinR line t.gained now2, if relP ord then now2 else t.given⟩, if ord = 4 then now2 else all)
def RM.fence (m : RM) (w : Nat) (ord : Int) : RM :=
  { m with thr := m.thr.set w (fenceThr m.ids m.all m.thr[w]! ord).1, all := (fenceThr m.ids m.all m.thr[w]! ord).2 }

/-- What stays as it is during a walk. -/
class Kept (M : PHeap) (pg : Value) (prog : List (List OpV)) (pA pC : List RT) (ls : Nat → List RX) : Prop where
  pg : SlSl M 5 encOp pg prog
  th : ∀ q ∈ pA ++ pC, q.Vs M
  ls : ∀ l, l < 3 → ∀ q ∈ ls l, VR M q.b q.x.view
instance Kept.up {M M' : PHeap} {pg : Value} {prog : List (List OpV)} {pA pC : List RT} {ls : Nat → List RX} [h : LEc M M'] [k : Kept M pg prog pA pC ls] : Kept M' pg prog pA pC ls :=
  ⟨k.pg.mono h.h, fun q hq => (k.th q hq).mono h.h, fun l hl q hq => (k.ls l hl q hq).mono h.h⟩

/-- What is left of a machine at the end of a walk. -/
theorem Turned.leaf {p : RP} {m' : RM} {v : Value} {N : Nat} {av rv lv nv gv dv : Blk} {mv : Nat → Blk} {ls : Nat → List RX} {pA pC : List RT} {a nb nc gb gc db dc ab ac : Nat} {ov : Vec} {next : Int} {read : List Int} {now gained given all : Vw}
    (hN : N = pA.length + (pC.length + 1)) (hov : osok 1 ov read.length (read.map vi)) (hA : ∀ q ∈ pA ++ pC, osok 1 q.ov q.th.read.length (q.th.read.map vi)) (hmc : ∀ l, l < 3 → (ls l).length ≤ (mv l).2.1)
    [kp : Kept M (.slice p.pg p.prog.length p.pc) p.prog pA pC ls] [i1 : VR M nb now] [i2 : VR M gb gained] [i3 : VR M db given] [i4 : VR M ab all]
    (hm : RM.mk p.prog (fun l => (ls l).map RX.x) (pA.map RT.th ++ ⟨a, read, now, gained, given⟩ :: pC.map RT.th) all next = m') :
    Turned mp p m' v M (cutG mp (.slice p.pg p.prog.length p.pc) N av rv lv nv gv dv mv ls pA pC (vi a) (osv ov read.length) (rowV nb 3 nc) (rowV gb 3 gc) (rowV db 3 dc) (rowV ab 3 ac) next (rdsR pA) (osg 3 ov (read.map vi)) (rdsR pC)) := by
  subst hN
  refine ⟨⟨p.pg, p.pc, p.prog, av, rv, lv, nv, gv, dv, mv, ls, pA ++ ⟨⟨a, read, now, gained, given⟩, ov, nb, nc, gb, gc, db, dc⟩ :: pC, ab, ac, all, next⟩, (RP.G_cut (q := ⟨⟨a, read, now, gained, given⟩, ov, nb, nc, gb, gc, db, dc⟩)).symm, ⟨?_, hmc⟩, ⟨kp.pg, ?_, kp.ls, i4⟩, ?_, rfl, rfl⟩
  · intro q hq
    rcases List.mem_append.1 hq with hq | hq
    · exact hA q (by simp [hq])
    · rcases List.mem_cons.1 hq with rfl | hq
      · exact hov
      · exact hA q (by simp [hq])
  · intro q hq
    rcases List.mem_append.1 hq with hq | hq
    · exact kp.th q (by simp [hq])
    · rcases List.mem_cons.1 hq with rfl | hq
      · exact ⟨i1, i2, i3⟩
      · exact kp.th q (by simp [hq])
  · rw [← hm]
    simp [RP.rm]

theorem cut_mem {pA pC : List RT} {x q : RT} (h : q ∈ pA ++ pC) : q ∈ pA ++ x :: pC := by
  rcases List.mem_append.1 h with h | h <;> simp [h]

theorem RT_at (pA pC : List RT) (q : RT) : ((pA ++ q :: pC).map RT.th)[pA.length]! = q.th := by
  rw [getB (by simp)]; simp
theorem RT_set (pA pC : List RT) (q : RT) (t : RThr) : ((pA ++ q :: pC).map RT.th).set pA.length t = pA.map RT.th ++ t :: pC.map RT.th := by
  simp

set_option maxRecDepth 8000 in
set_option maxHeartbeats 8000000 in
theorem ref_fence_c (p : RP) (ok : p.Ok) (vs : p.Vs M) (wf : p.rm.Wf B) (hw : w < p.pt.length) (ord : Int) : Con Try.prog 49 #[pv mp 0, vi w, vi ord] M (p.G mp) (Turned mp p (p.rm.fence w ord)) := by
  have hb := wf.bl
  obtain ⟨pg, pc, prog, av, rv, lv, nv, gv, dv, mv, ls, pt, ab, ac, all, next⟩ := p
  obtain ⟨pA, ⟨⟨a, read, now, gained, given⟩, ov, nb, nc, gb, gc, db, dc⟩, pC, rfl, hpA⟩ := PM.split pt w hw
  have i0 := vs.th _ (List.mem_append_right _ (List.mem_cons_self ..))
  have i1 := i0.now
  have i2 := i0.gained
  have i3 := i0.given
  have i4 := vs.all
  dsimp only at hb i1 i2 i3 i4
  have kp : Kept M (.slice pg prog.length pc) prog pA pC ls := ⟨vs.pg, fun q hq => vs.th q (cut_mem hq), vs.ls⟩
  have hov := ok.rk _ (List.mem_append_right _ (List.mem_cons_self ..))
  have hoA : ∀ q ∈ pA ++ pC, osok 1 q.ov q.th.read.length (q.th.read.map vi) := fun q hq => ok.rk q (cut_mem hq)
  refine Con.enter Q36_ok (args := [pv mp 0, vi w, vi ord]) (by simp [Q36]) fun w0 => ?_
  rw [RP.G_cut]
  simp only [Q36, argE, cutG]
  repeat' first
      | refine EV.seq ?_
      | refine EV.skip ?_
      | ((first | refine EV.reg ?_ | refine EV.any _ (List.Sublist.refl _) ?_ | fail); (conv => (arg 2; whnf)); simp only [push_cast, Int.cast_ofNat_Int, reduceIte, Nat.reduceEqDiff, reduceCtorEq, Nat.reduceAdd, Nat.reduceSub, Nat.reduceMul, Int.reduceToNat, Nat.reduceLeDiff, cut_len hpA, cut_set hpA])
      | ((first | refine Con.callV (ref_CopyV_i) (PHeap.le_refl _) (fun b c M' hM hV => ?_) | refine Con.callV (ref_join_i (RdR.of' (ls := ls) (mv := mv) (fun q hq => by simp [hq]) hb)) (PHeap.le_refl _) (fun b c M' hM hV => ?_) | refine ConQ.call (ref_releases_q _) ?_ | refine ConQ.call (ref_acquires_q _) ?_ | refine Exists.intro _ (Exists.intro _ (Exists.intro _ (And.intro (rd_cut hpA) ?_))) | fail); try simp only [push_cast, Int.cast_ofNat_Int, reduceIte, Nat.reduceEqDiff, reduceCtorEq, Nat.reduceAdd, Nat.reduceSub, Nat.reduceMul, Int.reduceToNat, Nat.reduceLeDiff, cut_len hpA, cut_set hpA])
      | ((refine EV.cond rfl (fun h => ?_) (fun h => ?_) <;> try simp only [reduceCtorEq, reduceIte, if_true, if_false, Bool.not_eq_true', Bool.not_eq_false', decide_eq_true_eq, decide_eq_false_iff_not, Bool.and_eq_true, Bool.or_eq_true, Bool.and_eq_false_iff, Bool.or_eq_false_iff] at h) <;> try (exfalso; first | exact h True.intro | (exact h; done) | omega | (simp only [not_true_eq_false, false_or, or_false] at h; omega)))
      | (refine And.intro (by omega) ?_)
      | (refine xs rfl (by simp only [List.length_cons, List.length_nil]; omega) ?_; try simp only [push_cast, Int.cast_ofNat_Int, reduceIte, Nat.reduceEqDiff, reduceCtorEq, Nat.reduceAdd, Nat.reduceSub, Nat.reduceMul, Int.reduceToNat, Nat.reduceLeDiff, cut_len hpA, cut_set hpA])
      | (refine xw ?_; simp only [push_cast, Int.cast_ofNat_Int, reduceIte, Nat.reduceEqDiff, reduceCtorEq, Nat.reduceAdd, Nat.reduceSub, Nat.reduceMul, Int.reduceToNat, Nat.reduceLeDiff, cut_len hpA, cut_set hpA])
      | (refine And.intro LEc.h (And.intro (fun p hp => hp) ?_))
      | fail
  all_goals
    refine EV.done Q36_ok ?_
    simp only [push_cast, Int.cast_ofNat_Int, reduceIte, Nat.reduceEqDiff, reduceCtorEq, Nat.reduceAdd, Nat.reduceSub, Nat.reduceMul, Int.reduceToNat, Nat.reduceLeDiff, Q36]
    refine Turned.leaf (p := ⟨pg, pc, prog, av, rv, lv, nv, gv, dv, mv, ls, pA ++ ⟨⟨a, read, now, gained, given⟩, ov, nb, nc, gb, gc, db, dc⟩ :: pC, ab, ac, all, next⟩) rfl hov hoA ok.mc ?_
    subst hpA
    simp only [RP.rm, RM.fence, RT_at, RT_set, fenceThr]
    (repeat' split) <;> first | rfl | (exfalso; simp_all; done)

end
end Go.EV

namespace Go.EV
open Go.Proofs

def insX (xs : List RX) (k : Nat) (x : RX) : List RX := xs.take k ++ x :: xs.drop k
theorem insX_len (xs : List RX) (k : Nat) (x : RX) : (insX xs k x).length = xs.length + 1 := by simp [insX]; omega
def RP.putAt (p : RP) (l k : Nat) (x : RX) (o : Blk) : RP := { p with ls := upd p.ls l (insX (p.ls l) k x), mv := upd p.mv l o }

def lsRow (mv : Nat → Blk) (ls : Nat → List RX) (l : Nat) : Nat × Obj := ((mv l).1, Cl 86 ((ls l).flatMap encX ++ (mv l).2.2))
def lsRest (mv : Nat → Blk) (ls : Nat → List RX) (l : Nat) : Own :=
  match l with
  | 0 => [lsRow mv ls 1, lsRow mv ls 2]
  | 1 => [lsRow mv ls 0, lsRow mv ls 2]
  | _ => [lsRow mv ls 0, lsRow mv ls 1]
theorem lsG_split (mv : Nat → Blk) (ls : Nat → List RX) {l : Nat} (hl : l < 3) : (lsG mv ls).Perm (lsRow mv ls l :: lsRest mv ls l) := by
  match l, hl with
  | 0, _ => exact List.Perm.refl _
  | 1, _ => exact List.Perm.swap _ _ _
  | 2, _ => exact (List.Perm.swap _ _ _).cons _ |>.trans (List.Perm.swap _ _ _)
theorem lsRest_upd (mv : Nat → Blk) (ls : Nat → List RX) {l : Nat} (hl : l < 3) (L : List RX) (o : Blk) : lsRest (upd mv l o) (upd ls l L) l = lsRest mv ls l := by
  match l, hl with
  | 0, _ => rfl
  | 1, _ => rfl
  | 2, _ => rfl
theorem lsRest_sub (mv : Nat → Blk) (ls : Nat → List RX) {l : Nat} (hl : l < 3) : (lsRest mv ls l).Sublist (lsG mv ls) := by
  match l, hl with
  | 0, _ => exact List.Sublist.cons _ (List.Sublist.refl _)
  | 1, _ => exact List.Sublist.cons_cons _ (List.Sublist.cons _ (List.Sublist.refl _))
  | 2, _ => exact List.Sublist.cons_cons _ (List.Sublist.cons_cons _ (List.Sublist.cons _ (List.Sublist.refl _)))
theorem lsG_upd (mv : Nat → Blk) (ls : Nat → List RX) {l : Nat} (hl : l < 3) (L : List RX) (o : Blk) : ((o.1, Cl 86 (L.flatMap encX ++ o.2.2)) :: lsRest mv ls l).Perm (lsG (upd mv l o) (upd ls l L)) := by
  have h := lsG_split (upd mv l o) (upd ls l L) hl
  rw [lsRest_upd _ _ hl] at h
  have e : lsRow (upd mv l o) (upd ls l L) l = (o.1, Cl 86 (L.flatMap encX ++ o.2.2)) := by simp [lsRow, upd]
  rw [e] at h
  exact h.symm
theorem lsV_upd (mv : Nat → Blk) (ls : Nat → List RX) (l : Nat) (L : List RX) (o : Blk) : upd (lsV mv ls) l (rowV o.1 L.length o.2.1) = lsV (upd mv l o) (upd ls l L) := by
  funext j
  simp only [upd, lsV]
  by_cases h : j = l
  · subst h; simp
  · simp [h]
theorem lhC_set (h : Nat → Value) (sp : List Value) {l : Nat} (hl : l < 3) (v : Value) : (lhC h sp).take l ++ v :: (lhC h sp).drop (l + 1) = lhC (upd h l v) sp := by
  match l, hl with
  | 0, _ => rfl
  | 1, _ => rfl
  | 2, _ => rfl
theorem lhC_len (h : Nat → Value) (sp : List Value) : (lhC h sp).length = 3 + sp.length := by simp only [lhC, List.length_cons]; omega

theorem encX_len (xs : List RX) : (xs.flatMap encX).length = xs.length * 4 := flatMap_length (sz := 4) (enc := encX) (fun _ => rfl) xs
theorem encX_take (xs : List RX) (sp : List Value) {k : Nat} (hk : k ≤ xs.length) : (xs.flatMap encX ++ sp).take (k * 4) = (xs.take k).flatMap encX := by
  have h : xs.flatMap encX = (xs.take k).flatMap encX ++ (xs.drop k).flatMap encX := by rw [← List.flatMap_append, List.take_append_drop]
  have hl : ((xs.take k).flatMap encX).length = k * 4 := by rw [encX_len, List.length_take, Nat.min_eq_left hk]
  rw [h, List.append_assoc, ← hl, List.take_left]
theorem encX_drop (xs : List RX) (sp : List Value) {k : Nat} (hk : k ≤ xs.length) : ((xs.flatMap encX ++ sp).drop (k * 4)).take ((xs.length - k) * 4) = (xs.drop k).flatMap encX := by
  have h : xs.flatMap encX = (xs.take k).flatMap encX ++ (xs.drop k).flatMap encX := by rw [← List.flatMap_append, List.take_append_drop]
  have hl : ((xs.take k).flatMap encX).length = k * 4 := by rw [encX_len, List.length_take, Nat.min_eq_left hk]
  have hl2 : ((xs.drop k).flatMap encX).length = (xs.length - k) * 4 := by rw [encX_len, List.length_drop]
  rw [h, List.append_assoc, ← hl, List.drop_left, ← hl2, List.take_left]
theorem ok1_encX (xs : List RX) : ok1 (xs.flatMap encX) := by
  intro v hv
  simp only [List.mem_flatMap] at hv
  obtain ⟨o, _, hv⟩ := hv
  simp [encX] at hv
  rcases hv with rfl | rfl | rfl | rfl <;> rfl

def PutR (mp : Nat) (p : RP) (l k : Nat) (x : RX) (_ : Value) (_ : PHeap) (G' : Own) : Prop := ∃ o : Blk, G' = (p.putAt l k x o).G mp ∧ (p.ls l).length + 1 ≤ o.2.1
theorem sub7 {α : Type} {a b c d e f g : α} {l l' : List α} (h : l.Sublist l') : (a :: b :: c :: d :: e :: f :: g :: l).Sublist (a :: b :: c :: d :: e :: f :: g :: l') := by simpa using h
theorem put_perm {α : Type} {r a b c d e f g : α} {ls rest rd : List α} (hl : (r :: rest).Perm ls) : (a :: b :: c :: d :: e :: f :: g :: (rest ++ (rd ++ [r]))).Perm (a :: b :: c :: d :: e :: f :: g :: (ls ++ rd)) := by
  refine List.Perm.cons _ (List.Perm.cons _ (List.Perm.cons _ (List.Perm.cons _ (List.Perm.cons _ (List.Perm.cons _ (List.Perm.cons _ ?_))))))
  rw [← List.append_assoc]
  exact (List.perm_append_comm (l₁ := rest ++ rd) (l₂ := [r])).trans (hl.append_right rd)

section
variable {M : PHeap} {G : Own} {mp : Nat} {B w : Nat}

theorem rd_lh {b : Nat} {T : TypeId} {mv : Nat → Blk} {ls : Nat → List RX} {sp : List Value} {l : Nat} (hl : l < 3) [h : At G b T (lhC (lsV mv ls) sp)] : rd (M.add G) b l 1 [rowV (mv l).1 (ls l).length (mv l).2.1] := by
  match l, hl with
  | 0, _ => exact rd_at h.mem rfl (by rw [lhC_len]; omega)
  | 1, _ => exact rd_at h.mem rfl (by rw [lhC_len]; omega)
  | 2, _ => exact rd_at h.mem rfl (by rw [lhC_len]; omega)

theorem ls_mem {mv : Nat → Blk} {ls : Nat → List RX} {l : Nat} (hl : l < 3) (h : ∀ q ∈ lsG mv ls, q ∈ G) : ((mv l).1, Cl 86 ((ls l).flatMap encX ++ (mv l).2.2)) ∈ G :=
  h _ ((lsG_split mv ls hl).symm.subset (List.mem_cons_self ..))

theorem rdS_take {mv : Nat → Blk} {ls : Nat → List RX} {l k : Nat} (hl : l < 3) (hk : k ≤ (ls l).length) (h : ∀ q ∈ lsG mv ls, q ∈ G) : rdS (M.add G) 4 (some ⟨(mv l).1, 0, none⟩) k (((ls l).take k).flatMap encX) :=
  .inr ⟨_, _, rfl, rd_at (ls_mem hl h) (by rw [List.drop_zero, encX_take _ _ hk]) (by rw [List.length_append, encX_len]; omega)⟩
theorem rdS_drop {mv : Nat → Blk} {ls : Nat → List RX} {l k : Nat} {c : Prop} [Decidable c] (hc : c → (ls l).length - k = 0) (hl : l < 3) (hk : k ≤ (ls l).length) (h : ∀ q ∈ lsG mv ls, q ∈ G) : rdS (M.add G) 4 (if c then some ⟨(mv l).1, 0, none⟩ else some ⟨(mv l).1, k * 4, none⟩) ((ls l).length - k) (((ls l).drop k).flatMap encX) := by
  by_cases hq : c
  · have h0 := hc hq
    refine .inl ⟨by rw [h0, Nat.zero_mul], ?_⟩
    have : (ls l).drop k = [] := List.drop_eq_nil_of_le (by omega)
    rw [this]; rfl
  · rw [if_neg hq]
    exact .inr ⟨_, _, rfl, rd_at (ls_mem hl h) (encX_drop _ _ hk) (by rw [List.length_append, encX_len]; omega)⟩

set_option maxRecDepth 8000 in
set_option maxHeartbeats 8000000 in
theorem ref_put_c (p : RP) (ok : p.Ok) (hb : ∀ l, l < 3 → (p.ls l).length < 1000000) {l k : Nat} (hl : l < 3) (hlp : 0 < (p.ls l).length) (hk : k ≤ (p.ls l).length) (x : RX) :
    Con Try.prog 77 #[pv mp 0, vi l, vi k, .agg (encX x).toArray] M (p.G mp) (PutR mp p l k x) := by
  have hmc := ok.mc l hl
  have hbl := hb l hl
  obtain ⟨pg, pc, prog, av, rv, lv, nv, gv, dv, mv, ls, pt, ab, ac, all, next⟩ := p
  dsimp only at hmc hbl hk hlp
  have hc0 : ¬ (mv l).2.1 = 0 := by omega
  refine Con.enter Q40_ok (args := [pv mp 0, vi l, vi k, .agg (encX x).toArray]) (by simp [Q40]) fun w0 => ?_
  simp only [Q40, argE, RP.G, RP.hd, hdR]
  repeat' first
      | refine EV.seq ?_
      | (refine EV.reg ?_; (conv => (arg 2; whnf)); simp only [push_cast, Int.cast_ofNat_Int, reduceIte, Nat.reduceEqDiff, reduceCtorEq, Nat.reduceAdd, Nat.reduceSub, Nat.reduceMul, Int.reduceToNat, Nat.reduceLeDiff, Option.map_some, Option.map_none, Option.isSome_none, Option.isNone_none, Option.some.injEq, Int.natCast_inj, exists_eq_left', or_true, true_or, Bool.false_eq_true, hc0, addr_add])
      | ((first | refine Exists.intro _ (Exists.intro _ (Exists.intro _ (And.intro (rd_lh hl) ?_))) | with_reducible intro b | fail); try simp only [push_cast, Int.cast_ofNat_Int, reduceIte, Nat.reduceEqDiff, reduceCtorEq, Nat.reduceAdd, Nat.reduceSub, Nat.reduceMul, Int.reduceToNat, Nat.reduceLeDiff, Option.map_some, Option.map_none, Option.isSome_none, Option.isNone_none, Option.some.injEq, Int.natCast_inj, exists_eq_left', or_true, true_or, Bool.false_eq_true, hc0, addr_add])
      | (refine And.intro (by omega) ?_)
      | (refine xs rfl (by simp only [List.length_cons, List.length_nil]; omega) ?_; try simp only [push_cast, Int.cast_ofNat_Int, reduceIte, Nat.reduceEqDiff, reduceCtorEq, Nat.reduceAdd, Nat.reduceSub, Nat.reduceMul, Int.reduceToNat, Nat.reduceLeDiff, Option.map_some, Option.map_none, Option.isSome_none, Option.isNone_none, Option.some.injEq, Int.natCast_inj, exists_eq_left', or_true, true_or, Bool.false_eq_true, hc0, addr_add])
      | fail
  refine ⟨_, rdS_take hl hk (fun q hq => by simp [hq]), ok1_encX _, Or.inl ⟨none, 0, rfl, [], ⟨rfl, rfl⟩, _, List.Perm.refl _, ?_, ?_, ?_⟩⟩
  · simp only [maxLen]; omega
  · omega
  intro o1 ho1 _
  simp only [List.eraseIdx_cons_succ, List.eraseIdx_cons_zero, List.getElem_cons_succ, List.getElem_cons_zero, List.insertIdx_zero, List.insertIdx_succ_cons, cat_two, cat_one, cat_nil, List.nil_append, List.cons_append, List.append_assoc, List.append_nil]
  simp only [Nat.zero_add, List.nil_append] at ho1 ⊢
  simp only [push_cast, Int.cast_ofNat_Int, reduceIte, Nat.reduceEqDiff, reduceCtorEq, Nat.reduceAdd, Nat.reduceSub, Nat.reduceMul, Int.reduceToNat, Nat.reduceLeDiff, encX]
  repeat' first
      | refine EV.seq ?_
      | (refine EV.reg ?_; (conv => (arg 2; whnf)); simp only [push_cast, Int.cast_ofNat_Int, reduceIte, Nat.reduceEqDiff, reduceCtorEq, Nat.reduceAdd, Nat.reduceSub, Nat.reduceMul, Int.reduceToNat, Nat.reduceLeDiff])
      | ((first | with_reducible intro b | refine xr rfl (by simp only [List.length_cons, List.length_nil]; omega) ?_ | fail); try simp only [push_cast, Int.cast_ofNat_Int, reduceIte, Nat.reduceEqDiff, reduceCtorEq, Nat.reduceAdd, Nat.reduceSub, Nat.reduceMul, Int.reduceToNat, Nat.reduceLeDiff])
      | fail
  refine ⟨_, Or.inr ⟨_, 0, rfl, rd_own' 0 rfl rfl (by simp)⟩, by simp [ok1_cons, ok1_nil, Value.oneCell'], Or.inl ⟨_, _, rfl, _, ho1, _, cat_pull [[_, _, _, _, _, _, _, _, _], lsG mv ls, rdsR pt, osg 86 o1 _] 3 (by simp), ?_, ?_, ?_⟩⟩
  · simp only [maxLen]; omega
  · omega
  intro o2 ho2 _
  simp only [List.eraseIdx_cons_succ, List.eraseIdx_cons_zero, List.getElem_cons_succ, List.getElem_cons_zero, cat_two, cat_one, cat_nil, List.nil_append, List.cons_append, List.append_assoc, List.append_nil]
  repeat' first
      | fail
  refine EV.drop1 (EV.drop1 ?_)
  refine EV.any (t := Q40_4) _ (sub7 (List.Sublist.append_left (List.sublist_append_left _ _) _)) ?_
  simp only [push_cast, Int.cast_ofNat_Int, reduceIte, Nat.reduceEqDiff, reduceCtorEq, Nat.reduceAdd, Nat.reduceSub, Nat.reduceMul, Int.reduceToNat, Nat.reduceLeDiff, Q40_4]
  repeat' first
      | (refine Exists.intro _ (Exists.intro _ (Exists.intro _ (And.intro (rd_lh hl) ?_))); try simp only [push_cast, Int.cast_ofNat_Int, reduceIte, Nat.reduceEqDiff, reduceCtorEq, Nat.reduceAdd, Nat.reduceSub, Nat.reduceMul, Int.reduceToNat, Nat.reduceLeDiff, Option.map_some, Option.map_none, Option.isSome_none, Option.isNone_none, Option.some.injEq, Int.natCast_inj, exists_eq_left', or_true, true_or, Bool.false_eq_true, hc0, addr_add])
      | (refine And.intro (by omega) ?_)
      | (refine xs rfl (by simp only [List.length_cons, List.length_nil]; omega) ?_; try simp only [push_cast, Int.cast_ofNat_Int, reduceIte, Nat.reduceEqDiff, reduceCtorEq, Nat.reduceAdd, Nat.reduceSub, Nat.reduceMul, Int.reduceToNat, Nat.reduceLeDiff, Option.map_some, Option.map_none, Option.isSome_none, Option.isNone_none, Option.some.injEq, Int.natCast_inj, exists_eq_left', or_true, true_or, Bool.false_eq_true, hc0, addr_add])
      | fail
  refine ⟨_, (rdS_drop (c := (mv l).2.1 = k) (fun h => by omega) hl hk (fun q hq => by simp [hq])),  ok1_encX _, Or.inl ⟨_, _, rfl, _, ho2, _, cat_pull [[_, _, _, _, _, _, _], lsG mv ls, rdsR pt, osg 86 o2 _] 3 (by simp), ?_, ?_, ?_⟩⟩
  · simp only [maxLen]; omega
  · omega
  intro o3 ho3 _
  simp only [List.eraseIdx_cons_succ, List.eraseIdx_cons_zero, List.getElem_cons_succ, List.getElem_cons_zero, cat_two, cat_one, cat_nil, List.nil_append, List.cons_append, List.append_assoc, List.append_nil]
  cases o3 with
  | none => exact absurd ho3.1 (by omega)
  | some o =>
  have hn : k + 1 + ((ls l).length - k) = (insX (ls l) k x).length := by rw [insX_len]; omega
  have hcs : (ls l |>.take k).flatMap encX ++ (vi x.x.id :: vi x.x.word :: rowV x.b 3 x.c :: vb x.x.tied :: (((ls l).drop k).flatMap encX ++ o.2.2)) = (insX (ls l) k x).flatMap encX ++ o.2.2 := by
    simp [insX, encX]
  have hho := ho3
  simp only [hn] at ho3 ⊢
  repeat' first
      | (refine And.intro (by omega) ?_)
      | (refine xw ?_; simp only [push_cast, Int.cast_ofNat_Int, reduceIte, Nat.reduceEqDiff, reduceCtorEq, Nat.reduceAdd, Nat.reduceSub, Nat.reduceMul, Int.reduceToNat, Nat.reduceLeDiff, lhC_len, lhC_set _ _ hl, osg])
      | (refine And.intro (PHeap.le_refl _) (And.intro (mem_of_sub ?_) ?_); focus ((repeat' first | exact List.Sublist.refl _ | exact List.nil_sublist _ | exact List.sublist_append_left _ _ | refine List.Sublist.cons_cons _ ?_ | refine List.Sublist.append_left ?_ _ | refine List.sublist_append_of_sublist_right ?_ | refine List.Sublist.cons _ ?_); done); try simp only [push_cast, Int.cast_ofNat_Int, reduceIte, Nat.reduceEqDiff, reduceCtorEq, Nat.reduceAdd, Nat.reduceSub, Nat.reduceMul, Int.reduceToNat, Nat.reduceLeDiff, lhC_len, lhC_set _ _ hl, osg])
      | fail
  rw [hcs, show osv (some o) (insX (ls l) k x).length = rowV o.1 (insX (ls l) k x).length o.2.1 from rfl, lsV_upd]
  refine EV.to (ρ' := []) ?_ (by simp) (sub7 (List.Sublist.append_right (lsRest_sub mv ls hl) _))
  refine EV.permG ?_ (put_perm (lsG_upd mv ls hl (insX (ls l) k x) o))
  refine EV.done Q40_ok ?_
  simp only [push_cast, Int.cast_ofNat_Int, reduceIte, Nat.reduceEqDiff, reduceCtorEq, Nat.reduceAdd, Nat.reduceSub, Nat.reduceMul, Int.reduceToNat, Nat.reduceLeDiff, Q40]
  refine ⟨o, rfl, ?_⟩
  have := ho3.2.2.1
  rw [insX_len] at this
  exact this

end
end Go.EV

namespace Go.EV
open Go.Proofs

def insP {α : Type} (xs : List α) (k : Nat) (x : α) : List α := xs.take k ++ x :: xs.drop k
def RM.write (m : RM) (w : Nat) (o : OpV) (k : Nat) (fr : Bool) (word : Int) (sv : Vw) : RM :=
  let l := o.loc.toNat
  let ids := upd m.ids l (insP (m.ids l) k m.next)
  let t := m.thr[w]!
  let own := upd noV l m.next
  let now := joinR ids t.now own
  let gained := joinR ids t.gained now
  let v1 := if relP o.ord then now else joinR ids t.given own
  let v2 := if fr then joinR ids v1 sv else v1
  { m with lists := upd m.lists l (insP (m.lists l) k ⟨m.next, word, v2, fr⟩), thr := m.thr.set w ⟨t.at_, t.read, now, gained, t.given⟩, next := m.next + 1 }

theorem map_insX {α : Type} (f : RX → α) (xs : List RX) (k : Nat) (x : RX) : (insX xs k x).map f = insP (xs.map f) k (f x) := by
  simp [insX, insP, List.map_take, List.map_drop]
theorem idsL_upd (ls : Nat → List RX) (l k : Nat) (x : RX) : idsL (upd ls l (insX (ls l) k x)) = upd (idsL ls) l (insP (idsL ls l) k x.x.id) := by
  funext j
  simp only [idsL, upd]
  by_cases h : j = l
  · subst h; rw [if_pos rfl, if_pos rfl, map_insX, insP, insP]; simp [List.map_take, List.map_drop]
  · simp only [if_neg h]
theorem lists_upd (ls : Nat → List RX) (l k : Nat) (x : RX) : (fun j => (upd ls l (insX (ls l) k x) j).map RX.x) = upd (fun j => (ls j).map RX.x) l (insP ((ls l).map RX.x) k x.x) := by
  funext j
  simp only [upd]
  by_cases h : j = l
  · subst h; rw [if_pos rfl, if_pos rfl, map_insX]
  · simp only [if_neg h]

theorem msg_set {A : List Value} {k : Nat} (hA : A.length = k * 4) (i w v u t : Value) (C : List Value) : (A ++ (i :: w :: v :: t :: C)).take (k * 4 + 2) ++ u :: (A ++ (i :: w :: v :: t :: C)).drop (k * 4 + 2 + 1) = A ++ (i :: w :: u :: t :: C) := by
  rw [← hA, List.take_length_add_append, Nat.add_assoc, List.drop_length_add_append]
  simp

theorem row_perm {α : Type} {r a b c d e f g h i j k : α} {ls rest rd : List α} (hl : ls.Perm (r :: rest)) : (h :: i :: j :: k :: a :: b :: c :: d :: e :: f :: g :: (ls ++ rd)).Perm (h :: i :: j :: k :: r :: a :: b :: c :: d :: e :: f :: g :: (rest ++ rd)) := by
  refine List.Perm.cons _ (List.Perm.cons _ (List.Perm.cons _ (List.Perm.cons _ ?_)))
  have h1 : (ls ++ rd).Perm (r :: (rest ++ rd)) := hl.append_right rd
  refine (((((((h1.cons g).cons f).cons e).cons d).cons c).cons b).cons a).trans ?_
  exact List.perm_middle (l₁ := [a, b, c, d, e, f, g])
theorem unrow_perm {α : Type} {r a b c d e f g : α} {ls rest rd : List α} (hl : (r :: rest).Perm ls) : (r :: a :: b :: c :: d :: e :: f :: g :: (rest ++ rd)).Perm (a :: b :: c :: d :: e :: f :: g :: (ls ++ rd)) := by
  have h1 : (r :: (rest ++ rd)).Perm (ls ++ rd) := hl.append_right rd
  refine (List.perm_middle (l₁ := [a, b, c, d, e, f, g])).symm.trans ?_
  exact ((((((h1.cons g).cons f).cons e).cons d).cons c).cons b).cons a

theorem lsV_len (mv : Nat → Blk) (ls : Nat → List RX) (l : Nat) (L L' : List RX) (o : Blk) (h : L.length = L'.length) : lsV (upd mv l o) (upd ls l L) = lsV (upd mv l o) (upd ls l L') := by
  rw [← lsV_upd, ← lsV_upd, h]

section
variable {M : PHeap} {G : Own} {mp : Nat} {B w : Nat}

instance Kept.ins {pg : Value} {prog : List (List OpV)} {pA pC : List RT} {ls : Nat → List RX} {l k : Nat} {id word : Int} {view : Vw} {tied : Bool} {b c : Nat} [kp : Kept M pg prog pA pC ls] [i : VR M b view] : Kept M pg prog pA pC (upd ls l (insX (ls l) k ⟨⟨id, word, view, tied⟩, b, c⟩)) := by
  refine ⟨kp.pg, kp.th, fun j hj q hq => ?_⟩
  simp only [upd] at hq
  split at hq
  · rename_i e
    subst e
    simp only [insX, List.mem_append, List.mem_cons] at hq
    rcases hq with hq | rfl | hq
    · exact kp.ls j hj q (List.mem_of_mem_take hq)
    · exact i
    · exact kp.ls j hj q (List.mem_of_mem_drop hq)
  · exact kp.ls j hj q hq

/-- The row of messages, with a new view in it, back to its place. -/
theorem write_perm {l k : Nat} (hl : l < 3) {mv : Nat → Blk} {ls : Nat → List RX} {o : Blk} {id word : Int} {view : Vw} {tied : Bool} {b c : Nat} (i : VR M b view) {h1 h2 h3 h5 h6 h7 : Nat × Obj} {lb : Nat} {T : TypeId} {x0 : RX} {sp : List Value} {rds : Own} :
    ((o.1, Cl 86 (((ls l).take k).flatMap encX ++ (vi id :: vi word :: rowV b 3 c :: vb tied :: (((ls l).drop k).flatMap encX ++ o.2.2)))) :: h1 :: h2 :: h3 :: (lb, Cl T (lhC (lsV (upd mv l o) (upd ls l (insX (ls l) k x0))) sp)) :: h5 :: h6 :: h7 :: (lsRest mv ls l ++ rds)).Perm
    (h1 :: h2 :: h3 :: (lb, Cl T (lhC (lsV (upd mv l o) (upd ls l (insX (ls l) k ⟨⟨id, word, view, tied⟩, b, c⟩))) sp)) :: h5 :: h6 :: h7 :: (lsG (upd mv l o) (upd ls l (insX (ls l) k ⟨⟨id, word, view, tied⟩, b, c⟩)) ++ rds)) := by
  rw [lsV_len mv ls l (insX (ls l) k x0) (insX (ls l) k ⟨⟨id, word, view, tied⟩, b, c⟩) o (by rw [insX_len, insX_len])]
  refine unrow_perm ?_
  have := lsG_upd mv ls hl (insX (ls l) k ⟨⟨id, word, view, tied⟩, b, c⟩) o
  have e : (insX (ls l) k ⟨⟨id, word, view, tied⟩, b, c⟩).flatMap encX ++ o.2.2 = ((ls l).take k).flatMap encX ++ (vi id :: vi word :: rowV b 3 c :: vb tied :: (((ls l).drop k).flatMap encX ++ o.2.2)) := by
    simp [insX, encX]
  rwa [e] at this

theorem write_row {l k : Nat} (hl : l < 3) {mv : Nat → Blk} {ls : Nat → List RX} {o : Blk} {id word : Int} {view : Vw} {tied : Bool} {b c : Nat} :
    (lsG (upd mv l o) (upd ls l (insX (ls l) k ⟨⟨id, word, view, tied⟩, b, c⟩))).Perm ((o.1, Cl 86 (((ls l).take k).flatMap encX ++ (vi id :: vi word :: rowV b 3 c :: vb tied :: (((ls l).drop k).flatMap encX ++ o.2.2)))) :: lsRest mv ls l) := by
  have := (lsG_upd mv ls hl (insX (ls l) k ⟨⟨id, word, view, tied⟩, b, c⟩) o).symm
  have e : (insX (ls l) k ⟨⟨id, word, view, tied⟩, b, c⟩).flatMap encX ++ o.2.2 = ((ls l).take k).flatMap encX ++ (vi id :: vi word :: rowV b 3 c :: vb tied :: (((ls l).drop k).flatMap encX ++ o.2.2)) := by
    simp [insX, encX]
  rwa [e] at this
theorem in_row {L R G : Own} {row : Nat × Obj} (hm : ∀ y ∈ L, y = row ∨ y ∈ R) (hr : row ∈ G) (hR : ∀ y ∈ R, y ∈ G) : ∀ y ∈ L, y ∈ G := fun y hy => by
  rcases hm y hy with rfl | h
  · exact hr
  · exact hR y h
theorem upd_at {α : Type} (f : Nat → α) (i : Nat) (x : α) : upd f i x i = x := if_pos rfl

def wordW (o : OpV) (s : Int) : Int := if o.kind = 2 then IntKind.i64.wrap (s + o.v) else if 3 ≤ o.kind then o.w else o.v

set_option maxRecDepth 8000 in
set_option maxHeartbeats 8000000 in
theorem ref_writeS_c (p : RP) (ok : p.Ok) (vs : p.Vs M) (wf : p.rm.Wf B) (hB1 : B + 1 < 1000000) (hw : w < p.pt.length) (o : OpV) (ho : okOpE o) (h1 : o.kind = 1) {k : Nat} (hk : k ≤ (p.ls o.loc.toNat).length) (sw : Bool) (z : Value) :
    Con Try.prog 52 #[pv mp 0, vi w, vop o, .agg #[vi (-1), vi k, vb sw], .agg #[vi 0, vi 0, .slice none 0 0, vb false]] M (p.G mp) (Turned mp p (p.rm.write w o k false (wordW o 0) noV)) := by
  have hb := wf.bl
  have hlp := wf.lp
  have hnb := wf.nb
  have hB := wf.b0
  obtain ⟨kd, lo, v, w', od⟩ := o
  obtain ⟨o1, o2, o3, o4, o5⟩ := ho
  dsimp only at o1 o2 o3 o4 o5
  obtain ⟨l, rfl⟩ : ∃ l : Nat, lo = l := ⟨lo.toNat, by omega⟩
  have hl : l < 3 := by omega
  dsimp only at h1
  subst h1
  obtain ⟨pg, pc, prog, av, rv, lv, nv, gv, dv, mv, ls, pt, ab, ac, all, next⟩ := p
  obtain ⟨pA, ⟨⟨a, read, now, gained, given⟩, ov, nb, nc, gb, gc, db, dc⟩, pC, rfl, hpA⟩ := PM.split pt w hw
  have i0 := vs.th _ (List.mem_append_right _ (List.mem_cons_self ..))
  have i1 := i0.now
  have i2 := i0.gained
  have i3 := i0.given
  have i4 := vs.all
  simp only [RP.rm, List.length_map, Int.toNat_natCast] at hb i1 i2 i3 i4 hk hlp hnb
  have kp : Kept M (.slice pg prog.length pc) prog pA pC ls := ⟨vs.pg, fun q hq => vs.th q (cut_mem hq), vs.ls⟩
  have hov := ok.rk _ (List.mem_append_right _ (List.mem_cons_self ..))
  have hoA : ∀ q ∈ pA ++ pC, osok 1 q.ov q.th.read.length (q.th.read.map vi) := fun q hq => ok.rk q (cut_mem hq)
  have hbl := hb l hl
  have hw1 : IntKind.i64.wrap (next + 1) = next + 1 := w64 (by omega) (by omega)
  refine Con.enter Q42_ok (args := [pv mp 0, vi w, vop ⟨1, l, v, w', od⟩, .agg #[vi (-1), vi k, vb sw], .agg #[vi 0, vi 0, .slice none 0 0, vb false]]) (by simp [Q42]) fun w0 => ?_
  rw [RP.G_cut]
  simp only [Q42, argE, cutG]
  repeat' first
      | refine EV.seq ?_
      | refine EV.skip ?_
      | ((first | refine EV.reg ?_ | refine EV.any _ (List.Sublist.refl _) ?_ | fail); (conv => (arg 2; whnf)); simp only [push_cast, Int.cast_ofNat_Int, reduceIte, Nat.reduceEqDiff, reduceCtorEq, Nat.reduceAdd, Nat.reduceSub, Nat.reduceMul, Int.reduceToNat, Nat.reduceLeDiff, cut_len hpA, cut_set hpA, hw1])
      | (refine Con.callV (ref_nothingV_c) (PHeap.le_refl _) (fun b c M' hM hV => ?_); try simp only [push_cast, Int.cast_ofNat_Int, reduceIte, Nat.reduceEqDiff, reduceCtorEq, Nat.reduceAdd, Nat.reduceSub, Nat.reduceMul, Int.reduceToNat, Nat.reduceLeDiff, cut_len hpA, cut_set hpA, hw1])
      | ((refine EV.cond rfl (fun h => ?_) (fun h => ?_) <;> try simp only [reduceCtorEq, reduceIte, if_true, if_false, Bool.not_eq_true', Bool.not_eq_false', decide_eq_true_eq, decide_eq_false_iff_not, Bool.and_eq_true, Bool.or_eq_true, Bool.and_eq_false_iff, Bool.or_eq_false_iff] at h) <;> try (exfalso; first | exact h True.intro | (exact h; done) | omega | (simp only [not_true_eq_false, false_or, or_false] at h; omega)))
      | ((first | with_reducible intro b | refine xr rfl (by simp only [List.length_cons, List.length_nil]; omega) ?_ | refine xi rfl (by simp only [List.length_cons, List.length_nil]; omega) ?_ | fail); try simp only [push_cast, Int.cast_ofNat_Int, reduceIte, Nat.reduceEqDiff, reduceCtorEq, Nat.reduceAdd, Nat.reduceSub, Nat.reduceMul, Int.reduceToNat, Nat.reduceLeDiff, cut_len hpA, cut_set hpA, hw1])
      | (refine xw ?_; simp only [push_cast, Int.cast_ofNat_Int, reduceIte, Nat.reduceEqDiff, reduceCtorEq, Nat.reduceAdd, Nat.reduceSub, Nat.reduceMul, Int.reduceToNat, Nat.reduceLeDiff, cut_len hpA, cut_set hpA, hw1])
      | (refine And.intro (PHeap.le_refl _) (And.intro (fun p hp => List.mem_cons_of_mem _ hp) ?_))
      | fail
  obtain ⟨xb, hxb⟩ : ∃ x, x = b := ⟨_, rfl⟩
  obtain ⟨xc, hxc⟩ : ∃ x, x = c := ⟨_, rfl⟩
  obtain ⟨N1, hN1⟩ : ∃ x, x = M' := ⟨_, rfl⟩
  subst hxb hxc hN1
  refine Con.callB (Mr := N1) (ref_put_c ⟨pg, pc, prog, av, rv, lv, nv, gv, dv, mv, ls, pA ++ ⟨⟨a, read, now, gained, given⟩, ov, nb, nc, gb, gc, db, dc⟩ :: pC, ab, ac, all, next + 1⟩ ⟨ok.rk, ok.mc⟩ hb hl (hlp l hl) hk ⟨⟨next, v, noV, decide ((0 : Int) ≤ -1)⟩, xb, xc⟩) (PHeap.le_add _ _) (by rw [RP.G_cut]; exact List.perm_append_comm (l₁ := [_, _, _, _])) ?_
  rintro v1 M1 G1 ⟨q, rfl, hmq⟩
  simp only [RP.putAt, RP.G_cut, cutG, List.cons_append, List.nil_append]
  refine EV.permG ?_ (row_perm (write_row hl))
  have hb1 : ∀ j, j < 3 → (upd ls l (insX (ls l) k ⟨⟨next, v, noV, decide ((0 : Int) ≤ -1)⟩, xb, xc⟩) j).length < 1000000 := fun j hj => by
    simp only [upd]
    split
    · have := wf.ll l hl; simp only [RP.rm, List.length_map] at this; rw [insX_len]; omega
    · exact hb j hj
  have hmem : ∀ y ∈ lsG (upd mv l q) (upd ls l (insX (ls l) k ⟨⟨next, v, noV, decide ((0 : Int) ≤ -1)⟩, xb, xc⟩)), y = _ ∨ y ∈ lsRest mv ls l := fun y hy => List.mem_cons.1 ((write_row hl).subset hy)
  repeat' first
      | refine EV.seq ?_
      | (refine EV.reg ?_; (conv => (arg 2; whnf)); simp only [push_cast, Int.cast_ofNat_Int, reduceIte, Nat.reduceEqDiff, reduceCtorEq, Nat.reduceAdd, Nat.reduceSub, Nat.reduceMul, Int.reduceToNat, Nat.reduceLeDiff])
      | fail
  refine Con.callB (G1 := []) (ref_nothing_c (M := N1)) (PHeap.le_add _ _) (List.Perm.refl _) ?_
  rintro v2 M2 G2 ⟨ob, rfl, rfl⟩
  simp only [push_cast, Int.cast_ofNat_Int, reduceIte, Nat.reduceEqDiff, reduceCtorEq, Nat.reduceAdd, Nat.reduceSub, Nat.reduceMul, Int.reduceToNat, Nat.reduceLeDiff]
  refine EV.permG ?_ (cat_pull [[_, _, _, _, _, _, _, _, _, _, _, _], lsRest mv ls l, rdsR pA, osg 3 ov _, rdsR pC, [_]] 5 (by simp))
  simp only [List.eraseIdx_cons_succ, List.eraseIdx_cons_zero, List.getElem_cons_succ, List.getElem_cons_zero, List.insertIdx_zero, List.insertIdx_succ_cons, cat_two, cat_one, cat_nil, List.nil_append, List.cons_append, List.append_assoc, List.append_nil]
  repeat' first
      | refine EV.seq ?_
      | (refine EV.reg ?_; (conv => (arg 2; whnf)); simp only [push_cast, Int.cast_ofNat_Int, reduceIte, Nat.reduceEqDiff, reduceCtorEq, Nat.reduceAdd, Nat.reduceSub, Nat.reduceMul, Int.reduceToNat, Nat.reduceLeDiff, encV_len, enc_st_at hl])
      | (refine And.intro (by omega) ?_)
      | (refine xi rfl (by simp only [List.length_cons, List.length_nil]; omega) ?_; try simp only [push_cast, Int.cast_ofNat_Int, reduceIte, Nat.reduceEqDiff, reduceCtorEq, Nat.reduceAdd, Nat.reduceSub, Nat.reduceMul, Int.reduceToNat, Nat.reduceLeDiff, encV_len, enc_st_at hl])
      | (refine xw ?_; simp only [push_cast, Int.cast_ofNat_Int, reduceIte, Nat.reduceEqDiff, reduceCtorEq, Nat.reduceAdd, Nat.reduceSub, Nat.reduceMul, Int.reduceToNat, Nat.reduceLeDiff, encV_len, enc_st_at hl])
      | fail
  refine EV.freeze (G₁ := [_]) ?_
  generalize hN : N1.add [(ob, Cl 3 (encV (upd noV l next)))] = N
  have hMN : LEc N1 N := hN ▸ LEc.add
  have hvo : VR N ob (upd noV l next) := hN ▸ ⟨rd_own' 0 rfl rfl (by simp [encV])⟩
  clear hN
  repeat' first
      | refine EV.seq ?_
      | refine EV.skip ?_
      | ((first | refine EV.reg ?_ | refine EV.any _ (List.Sublist.refl _) ?_ | fail); (conv => (arg 2; whnf)); simp only [push_cast, Int.cast_ofNat_Int, reduceIte, Nat.reduceEqDiff, reduceCtorEq, Nat.reduceAdd, Nat.reduceSub, Nat.reduceMul, Int.reduceToNat, Nat.reduceLeDiff, cut_len hpA, cut_set hpA, upd_at])
      | ((first | refine Con.callV (ref_join_i (RdR.of' (ls := upd ls l (insX (ls l) k ⟨⟨next, v, noV, decide ((0 : Int) ≤ -1)⟩, xb, xc⟩)) (mv := upd mv l q) (in_row hmem (by simp) (fun y hy => by simp [hy])) hb1)) (PHeap.le_refl _) (fun b c M' hM hV => ?_) | refine ConQ.call (ref_releases_q _) ?_ | refine Exists.intro _ (Exists.intro _ (Exists.intro _ (And.intro (rd_lh hl) ?_))) | refine Exists.intro _ (Exists.intro _ (Exists.intro _ (And.intro (rd_cut hpA) ?_))) | fail); try simp only [push_cast, Int.cast_ofNat_Int, reduceIte, Nat.reduceEqDiff, reduceCtorEq, Nat.reduceAdd, Nat.reduceSub, Nat.reduceMul, Int.reduceToNat, Nat.reduceLeDiff, cut_len hpA, cut_set hpA, upd_at])
      | ((refine EV.cond rfl (fun h => ?_) (fun h => ?_) <;> try simp only [reduceCtorEq, reduceIte, if_true, if_false, Bool.not_eq_true', Bool.not_eq_false', decide_eq_true_eq, decide_eq_false_iff_not, Bool.and_eq_true, Bool.or_eq_true, Bool.and_eq_false_iff, Bool.or_eq_false_iff] at h) <;> try (exfalso; first | exact h True.intro | (exact h; done) | omega | (simp only [not_true_eq_false, false_or, or_false] at h; omega)))
      | (refine And.intro (by omega) ?_)
      | ((first | refine xi rfl (by simp only [List.length_cons, List.length_nil]; omega) ?_ | refine xs rfl (by simp only [List.length_cons, List.length_nil]; omega) ?_ | fail); try simp only [push_cast, Int.cast_ofNat_Int, reduceIte, Nat.reduceEqDiff, reduceCtorEq, Nat.reduceAdd, Nat.reduceSub, Nat.reduceMul, Int.reduceToNat, Nat.reduceLeDiff, cut_len hpA, cut_set hpA, upd_at])
      | (refine xw ?_; simp only [push_cast, Int.cast_ofNat_Int, reduceIte, Nat.reduceEqDiff, reduceCtorEq, Nat.reduceAdd, Nat.reduceSub, Nat.reduceMul, Int.reduceToNat, Nat.reduceLeDiff, cut_len hpA, cut_set hpA, upd_at])
      | (refine And.intro LEc.h (And.intro (fun p hp => hp) ?_))
      | fail
  all_goals
    have hkA : (((ls l).take k).flatMap encX).length = k * 4 := by rw [encX_len, List.length_take, Nat.min_eq_left hk]
    refine And.intro (by rw [insX_len]; omega) ?_
    refine xw ?_
    refine And.intro (by rw [List.length_append, hkA]; simp only [List.length_cons]; omega) ?_
    simp only [push_cast, Int.cast_ofNat_Int, reduceIte, Nat.reduceEqDiff, reduceCtorEq, Nat.reduceAdd, Nat.reduceSub, Nat.reduceMul, Int.reduceToNat, Nat.reduceLeDiff, msg_set hkA]
    refine EV.drop1 (EV.drop1 (EV.drop1 (EV.drop1 ?_)))
    refine EV.permG ?_ (write_perm (M := M') hl inferInstance)
    refine EV.done Q42_ok ?_
    simp only [push_cast, Int.cast_ofNat_Int, reduceIte, Nat.reduceEqDiff, reduceCtorEq, Nat.reduceAdd, Nat.reduceSub, Nat.reduceMul, Int.reduceToNat, Nat.reduceLeDiff, Q42]
    refine Turned.leaf (p := ⟨pg, pc, prog, av, rv, lv, nv, gv, dv, mv, ls, pA ++ ⟨⟨a, read, now, gained, given⟩, ov, nb, nc, gb, gc, db, dc⟩ :: pC, ab, ac, all, next⟩) rfl hov hoA ?_ ?_
    · intro j hj
      simp only [upd]
      split
      · rw [insX_len]; exact hmq
      · exact ok.mc j hj
    · subst hpA
      simp only [RP.rm, RM.write, RT_at, RT_set, idsL_upd, lists_upd, Int.toNat_natCast]
      (repeat' split) <;> first | rfl | (exfalso; simp_all; done)

end
end Go.EV

namespace Go.EV
open Go.Proofs
section
variable {M : PHeap} {G : Own} {mp : Nat} {B w : Nat}

set_option maxRecDepth 8000 in
set_option maxHeartbeats 8000000 in
theorem ref_writeR_c (p : RP) (ok : p.Ok) (vs : p.Vs M) (wf : p.rm.Wf B) (hB1 : B + 1 < 1000000) (hw : w < p.pt.length) (o : OpV) (ho : okOpE o) (h1 : 2 ≤ o.kind ∧ o.kind ≤ 4) {k : Nat} (hk : k ≤ (p.ls o.loc.toNat).length) (sw : Bool) (fr : Nat) (seen : RX) (hse : VR M seen.b seen.x.view) :
    Con Try.prog 52 #[pv mp 0, vi w, vop o, .agg #[vi fr, vi k, vb sw], .agg (encX seen).toArray] M (p.G mp) (Turned mp p (p.rm.write w o k true (wordW o seen.x.word) seen.x.view)) := by
  have hb := wf.bl
  have hlp := wf.lp
  have hnb := wf.nb
  have hB := wf.b0
  obtain ⟨kd, lo, v, w', od⟩ := o
  obtain ⟨o1, o2, o3, o4, o5⟩ := ho
  dsimp only at o1 o2 o3 o4 o5
  obtain ⟨l, rfl⟩ : ∃ l : Nat, lo = l := ⟨lo.toNat, by omega⟩
  have hl : l < 3 := by omega
  dsimp only at h1
  obtain ⟨⟨sid, sword, sview, stied⟩, sb, sc⟩ := seen
  dsimp only at hse
  simp only [encX]
  obtain ⟨WD, hWD⟩ : ∃ x, wordW ⟨kd, l, v, w', od⟩ sword = x := ⟨_, rfl⟩
  rw [hWD]
  have h0fr : ((0 : Int) ≤ (fr : Int)) = True := eq_true (by omega)
  have hdt : decide True = true := rfl
  obtain ⟨pg, pc, prog, av, rv, lv, nv, gv, dv, mv, ls, pt, ab, ac, all, next⟩ := p
  obtain ⟨pA, ⟨⟨a, read, now, gained, given⟩, ov, nb, nc, gb, gc, db, dc⟩, pC, rfl, hpA⟩ := PM.split pt w hw
  have i0 := vs.th _ (List.mem_append_right _ (List.mem_cons_self ..))
  have i1 := i0.now
  have i2 := i0.gained
  have i3 := i0.given
  have i4 := vs.all
  simp only [RP.rm, List.length_map, Int.toNat_natCast] at hb i1 i2 i3 i4 hk hlp hnb
  have kp : Kept M (.slice pg prog.length pc) prog pA pC ls := ⟨vs.pg, fun q hq => vs.th q (cut_mem hq), vs.ls⟩
  have hov := ok.rk _ (List.mem_append_right _ (List.mem_cons_self ..))
  have hoA : ∀ q ∈ pA ++ pC, osok 1 q.ov q.th.read.length (q.th.read.map vi) := fun q hq => ok.rk q (cut_mem hq)
  have hbl := hb l hl
  have hw1 : IntKind.i64.wrap (next + 1) = next + 1 := w64 (by omega) (by omega)
  refine Con.enter Q42_ok (args := [pv mp 0, vi w, vop ⟨kd, l, v, w', od⟩, .agg #[vi fr, vi k, vb sw], .agg #[vi sid, vi sword, rowV sb 3 sc, vb stied]]) (by simp [Q42]) fun w0 => ?_
  rw [RP.G_cut]
  simp only [Q42, argE, cutG]
  have hk2 : kd = 2 ∨ 3 ≤ kd := by omega
  rcases hk2 with hk2 | hk2
  case' inl =>
    have hWD2 : IntKind.i64.wrap (sword + v) = WD := by rw [← hWD, wordW, if_pos hk2]
    have e2 : (kd = 2) = True := eq_true hk2
    have e3 : (3 ≤ kd) = False := eq_false (by omega)
    repeat' first
        | refine EV.seq ?_
        | refine EV.skip ?_
        | ((first | refine EV.reg ?_ | refine EV.any _ (List.Sublist.refl _) ?_ | fail); (conv => (arg 2; whnf)); simp only [push_cast, Int.cast_ofNat_Int, reduceIte, Nat.reduceEqDiff, reduceCtorEq, Nat.reduceAdd, Nat.reduceSub, Nat.reduceMul, Int.reduceToNat, Nat.reduceLeDiff, cut_len hpA, cut_set hpA, hw1, hWD2, h0fr, hdt, e2, e3])
        | (refine Con.callV (ref_nothingV_c) (PHeap.le_refl _) (fun b c M' hM hV => ?_); try simp only [push_cast, Int.cast_ofNat_Int, reduceIte, Nat.reduceEqDiff, reduceCtorEq, Nat.reduceAdd, Nat.reduceSub, Nat.reduceMul, Int.reduceToNat, Nat.reduceLeDiff, cut_len hpA, cut_set hpA, hw1, hWD2, h0fr, hdt, e2, e3])
        | ((refine EV.cond rfl (fun h => ?_) (fun h => ?_) <;> try simp only [reduceCtorEq, reduceIte, if_true, if_false, Bool.not_eq_true', Bool.not_eq_false', decide_eq_true_eq, decide_eq_false_iff_not, Bool.and_eq_true, Bool.or_eq_true, Bool.and_eq_false_iff, Bool.or_eq_false_iff] at h) <;> try (exfalso; first | exact h True.intro | (exact h; done) | omega | (simp only [not_true_eq_false, false_or, or_false] at h; omega)))
        | ((first | with_reducible intro b | refine xr rfl (by simp only [List.length_cons, List.length_nil]; omega) ?_ | refine xi rfl (by simp only [List.length_cons, List.length_nil]; omega) ?_ | fail); try simp only [push_cast, Int.cast_ofNat_Int, reduceIte, Nat.reduceEqDiff, reduceCtorEq, Nat.reduceAdd, Nat.reduceSub, Nat.reduceMul, Int.reduceToNat, Nat.reduceLeDiff, cut_len hpA, cut_set hpA, hw1, hWD2, h0fr, hdt, e2, e3])
        | (refine xw ?_; simp only [push_cast, Int.cast_ofNat_Int, reduceIte, Nat.reduceEqDiff, reduceCtorEq, Nat.reduceAdd, Nat.reduceSub, Nat.reduceMul, Int.reduceToNat, Nat.reduceLeDiff, cut_len hpA, cut_set hpA, hw1, hWD2, h0fr, hdt, e2, e3])
        | (refine And.intro (PHeap.le_refl _) (And.intro (fun p hp => List.mem_cons_of_mem _ hp) ?_))
        | fail
  case' inr =>
    have hWD2 : w' = WD := by rw [← hWD, wordW, if_neg (by dsimp only; omega), if_pos hk2]
    have e2 : (kd = 2) = False := eq_false (by omega)
    have e3 : (3 ≤ kd) = True := eq_true hk2
    repeat' first
        | refine EV.seq ?_
        | refine EV.skip ?_
        | ((first | refine EV.reg ?_ | refine EV.any _ (List.Sublist.refl _) ?_ | fail); (conv => (arg 2; whnf)); simp only [push_cast, Int.cast_ofNat_Int, reduceIte, Nat.reduceEqDiff, reduceCtorEq, Nat.reduceAdd, Nat.reduceSub, Nat.reduceMul, Int.reduceToNat, Nat.reduceLeDiff, cut_len hpA, cut_set hpA, hw1, hWD2, h0fr, hdt, e2, e3])
        | (refine Con.callV (ref_nothingV_c) (PHeap.le_refl _) (fun b c M' hM hV => ?_); try simp only [push_cast, Int.cast_ofNat_Int, reduceIte, Nat.reduceEqDiff, reduceCtorEq, Nat.reduceAdd, Nat.reduceSub, Nat.reduceMul, Int.reduceToNat, Nat.reduceLeDiff, cut_len hpA, cut_set hpA, hw1, hWD2, h0fr, hdt, e2, e3])
        | ((refine EV.cond rfl (fun h => ?_) (fun h => ?_) <;> try simp only [reduceCtorEq, reduceIte, if_true, if_false, Bool.not_eq_true', Bool.not_eq_false', decide_eq_true_eq, decide_eq_false_iff_not, Bool.and_eq_true, Bool.or_eq_true, Bool.and_eq_false_iff, Bool.or_eq_false_iff] at h) <;> try (exfalso; first | exact h True.intro | (exact h; done) | omega | (simp only [not_true_eq_false, false_or, or_false] at h; omega)))
        | ((first | with_reducible intro b | refine xr rfl (by simp only [List.length_cons, List.length_nil]; omega) ?_ | refine xi rfl (by simp only [List.length_cons, List.length_nil]; omega) ?_ | fail); try simp only [push_cast, Int.cast_ofNat_Int, reduceIte, Nat.reduceEqDiff, reduceCtorEq, Nat.reduceAdd, Nat.reduceSub, Nat.reduceMul, Int.reduceToNat, Nat.reduceLeDiff, cut_len hpA, cut_set hpA, hw1, hWD2, h0fr, hdt, e2, e3])
        | (refine xw ?_; simp only [push_cast, Int.cast_ofNat_Int, reduceIte, Nat.reduceEqDiff, reduceCtorEq, Nat.reduceAdd, Nat.reduceSub, Nat.reduceMul, Int.reduceToNat, Nat.reduceLeDiff, cut_len hpA, cut_set hpA, hw1, hWD2, h0fr, hdt, e2, e3])
        | (refine And.intro (PHeap.le_refl _) (And.intro (fun p hp => List.mem_cons_of_mem _ hp) ?_))
        | fail
  all_goals
    obtain ⟨xb, hxb⟩ : ∃ x, x = b := ⟨_, rfl⟩
    obtain ⟨xc, hxc⟩ : ∃ x, x = c := ⟨_, rfl⟩
    obtain ⟨N1, hN1⟩ : ∃ x, x = M' := ⟨_, rfl⟩
    subst hxb hxc hN1
    refine Con.callB (Mr := N1) (ref_put_c ⟨pg, pc, prog, av, rv, lv, nv, gv, dv, mv, ls, pA ++ ⟨⟨a, read, now, gained, given⟩, ov, nb, nc, gb, gc, db, dc⟩ :: pC, ab, ac, all, next + 1⟩ ⟨ok.rk, ok.mc⟩ hb hl (hlp l hl) hk ⟨⟨next, WD, noV, true⟩, xb, xc⟩) (PHeap.le_add _ _) (by rw [RP.G_cut]; exact List.perm_append_comm (l₁ := [_, _, _, _])) ?_
    rintro v1 M1 G1 ⟨q, rfl, hmq⟩
    simp only [RP.putAt, RP.G_cut, cutG, List.cons_append, List.nil_append]
    refine EV.permG ?_ (row_perm (write_row hl))
    have hb1 : ∀ j, j < 3 → (upd ls l (insX (ls l) k ⟨⟨next, WD, noV, true⟩, xb, xc⟩) j).length < 1000000 := fun j hj => by
      simp only [upd]
      split
      · have := wf.ll l hl; simp only [RP.rm, List.length_map] at this; rw [insX_len]; omega
      · exact hb j hj
    have hmem : ∀ y ∈ lsG (upd mv l q) (upd ls l (insX (ls l) k ⟨⟨next, WD, noV, true⟩, xb, xc⟩)), y = _ ∨ y ∈ lsRest mv ls l := fun y hy => List.mem_cons.1 ((write_row hl).subset hy)
    repeat' first
        | refine EV.seq ?_
        | (refine EV.reg ?_; (conv => (arg 2; whnf)); simp only [push_cast, Int.cast_ofNat_Int, reduceIte, Nat.reduceEqDiff, reduceCtorEq, Nat.reduceAdd, Nat.reduceSub, Nat.reduceMul, Int.reduceToNat, Nat.reduceLeDiff])
        | fail
    refine Con.callB (G1 := []) (ref_nothing_c (M := N1)) (PHeap.le_add _ _) (List.Perm.refl _) ?_
    rintro v2 M2 G2 ⟨ob, rfl, rfl⟩
    simp only [push_cast, Int.cast_ofNat_Int, reduceIte, Nat.reduceEqDiff, reduceCtorEq, Nat.reduceAdd, Nat.reduceSub, Nat.reduceMul, Int.reduceToNat, Nat.reduceLeDiff]
    refine EV.permG ?_ (cat_pull [[_, _, _, _, _, _, _, _, _, _, _, _], lsRest mv ls l, rdsR pA, osg 3 ov _, rdsR pC, [_]] 5 (by simp))
    simp only [List.eraseIdx_cons_succ, List.eraseIdx_cons_zero, List.getElem_cons_succ, List.getElem_cons_zero, List.insertIdx_zero, List.insertIdx_succ_cons, cat_two, cat_one, cat_nil, List.nil_append, List.cons_append, List.append_assoc, List.append_nil]
    repeat' first
        | refine EV.seq ?_
        | (refine EV.reg ?_; (conv => (arg 2; whnf)); simp only [push_cast, Int.cast_ofNat_Int, reduceIte, Nat.reduceEqDiff, reduceCtorEq, Nat.reduceAdd, Nat.reduceSub, Nat.reduceMul, Int.reduceToNat, Nat.reduceLeDiff, encV_len, enc_st_at hl])
        | (refine And.intro (by omega) ?_)
        | (refine xi rfl (by simp only [List.length_cons, List.length_nil]; omega) ?_; try simp only [push_cast, Int.cast_ofNat_Int, reduceIte, Nat.reduceEqDiff, reduceCtorEq, Nat.reduceAdd, Nat.reduceSub, Nat.reduceMul, Int.reduceToNat, Nat.reduceLeDiff, encV_len, enc_st_at hl])
        | (refine xw ?_; simp only [push_cast, Int.cast_ofNat_Int, reduceIte, Nat.reduceEqDiff, reduceCtorEq, Nat.reduceAdd, Nat.reduceSub, Nat.reduceMul, Int.reduceToNat, Nat.reduceLeDiff, encV_len, enc_st_at hl])
        | fail
    refine EV.freeze (G₁ := [_]) ?_
    generalize hN : N1.add [(ob, Cl 3 (encV (upd noV l next)))] = N
    have hMN : LEc N1 N := hN ▸ LEc.add
    have hvo : VR N ob (upd noV l next) := hN ▸ ⟨rd_own' 0 rfl rfl (by simp [encV])⟩
    clear hN
    repeat' first
        | refine EV.seq ?_
        | refine EV.skip ?_
        | ((first | refine EV.reg ?_ | refine EV.any _ (List.Sublist.refl _) ?_ | fail); (conv => (arg 2; whnf)); simp only [push_cast, Int.cast_ofNat_Int, reduceIte, Nat.reduceEqDiff, reduceCtorEq, Nat.reduceAdd, Nat.reduceSub, Nat.reduceMul, Int.reduceToNat, Nat.reduceLeDiff, cut_len hpA, cut_set hpA, upd_at])
        | ((first | refine Con.callV (ref_join_i (RdR.of' (ls := upd ls l (insX (ls l) k ⟨⟨next, WD, noV, true⟩, xb, xc⟩)) (mv := upd mv l q) (in_row hmem (by simp) (fun y hy => by simp [hy])) hb1)) (PHeap.le_refl _) (fun b c M' hM hV => ?_) | refine ConQ.call (ref_releases_q _) ?_ | refine Exists.intro _ (Exists.intro _ (Exists.intro _ (And.intro (rd_lh hl) ?_))) | refine Exists.intro _ (Exists.intro _ (Exists.intro _ (And.intro (rd_cut hpA) ?_))) | fail); try simp only [push_cast, Int.cast_ofNat_Int, reduceIte, Nat.reduceEqDiff, reduceCtorEq, Nat.reduceAdd, Nat.reduceSub, Nat.reduceMul, Int.reduceToNat, Nat.reduceLeDiff, cut_len hpA, cut_set hpA, upd_at])
        | ((refine EV.cond rfl (fun h => ?_) (fun h => ?_) <;> try simp only [reduceCtorEq, reduceIte, if_true, if_false, Bool.not_eq_true', Bool.not_eq_false', decide_eq_true_eq, decide_eq_false_iff_not, Bool.and_eq_true, Bool.or_eq_true, Bool.and_eq_false_iff, Bool.or_eq_false_iff] at h) <;> try (exfalso; first | exact h True.intro | (exact h; done) | omega | (simp only [not_true_eq_false, false_or, or_false] at h; omega)))
        | (refine And.intro (by omega) ?_)
        | ((first | refine xi rfl (by simp only [List.length_cons, List.length_nil]; omega) ?_ | refine xs rfl (by simp only [List.length_cons, List.length_nil]; omega) ?_ | fail); try simp only [push_cast, Int.cast_ofNat_Int, reduceIte, Nat.reduceEqDiff, reduceCtorEq, Nat.reduceAdd, Nat.reduceSub, Nat.reduceMul, Int.reduceToNat, Nat.reduceLeDiff, cut_len hpA, cut_set hpA, upd_at])
        | (refine xw ?_; simp only [push_cast, Int.cast_ofNat_Int, reduceIte, Nat.reduceEqDiff, reduceCtorEq, Nat.reduceAdd, Nat.reduceSub, Nat.reduceMul, Int.reduceToNat, Nat.reduceLeDiff, cut_len hpA, cut_set hpA, upd_at])
        | (refine And.intro LEc.h (And.intro (fun p hp => hp) ?_))
        | fail
    all_goals
      have hkA : (((ls l).take k).flatMap encX).length = k * 4 := by rw [encX_len, List.length_take, Nat.min_eq_left hk]
      refine And.intro (by rw [insX_len]; omega) ?_
      refine xw ?_
      refine And.intro (by rw [List.length_append, hkA]; simp only [List.length_cons]; omega) ?_
      simp only [push_cast, Int.cast_ofNat_Int, reduceIte, Nat.reduceEqDiff, reduceCtorEq, Nat.reduceAdd, Nat.reduceSub, Nat.reduceMul, Int.reduceToNat, Nat.reduceLeDiff, msg_set hkA]
      refine EV.drop1 (EV.drop1 (EV.drop1 (EV.drop1 ?_)))
      refine EV.permG ?_ (write_perm (M := M') hl inferInstance)
      refine EV.done Q42_ok ?_
      simp only [push_cast, Int.cast_ofNat_Int, reduceIte, Nat.reduceEqDiff, reduceCtorEq, Nat.reduceAdd, Nat.reduceSub, Nat.reduceMul, Int.reduceToNat, Nat.reduceLeDiff, Q42]
      refine Turned.leaf (p := ⟨pg, pc, prog, av, rv, lv, nv, gv, dv, mv, ls, pA ++ ⟨⟨a, read, now, gained, given⟩, ov, nb, nc, gb, gc, db, dc⟩ :: pC, ab, ac, all, next⟩) rfl hov hoA ?_ ?_
      · intro j hj
        simp only [upd]
        split
        · rw [insX_len]; exact hmq
        · exact ok.mc j hj
      · subst hpA
        simp only [RP.rm, RM.write, RT_at, RT_set, idsL_upd, lists_upd, Int.toNat_natCast]
        (repeat' split) <;> first | rfl | (exfalso; simp_all; done)


end
end Go.EV

namespace Go.EV
open Go.Proofs

def RM.setT (m : RM) (w : Nat) (t : RThr) : RM := { m with thr := m.thr.set w t }
def RM.nexts (m : RM) (w : Nat) : RM := m.setT w { m.thr[w]! with at_ := m.thr[w]!.at_ + 1 }
def readT (line : Nat → List Int) (t : RThr) (o : OpV) (s : RMsg) : RThr :=
  let own := upd noV o.loc.toNat s.id
  let now1 := joinR line t.now own
  let g1 := joinR line (joinR line t.gained own) s.view
  let now2 := if acqP o.ord then joinR line now1 s.view else now1
  ⟨t.at_, t.read ++ [s.word], now2, joinR line g1 now2, t.given⟩
def RM.reads (m : RM) (w : Nat) (o : OpV) (s : RMsg) : RM := m.setT w (readT m.ids m.thr[w]! o s)
def RM.does (m : RM) (w : Nat) (o : OpV) (c : RCh) : RM :=
  let m := m.nexts w
  if o.kind = 5 then m.fence w o.ord
  else if c.1 < 0 then (if c.2.2 then m.write w o c.2.1.toNat false (wordW o 0) noV else m)
  else
    let s := (m.lists o.loc.toNat)[c.1.toNat]!
    let m1 := m.reads w o s
    if c.2.2 then m1.write w o c.2.1.toNat true (wordW o s.word) s.view else m1
instance : Inhabited RCh := ⟨(0, 0, false)⟩
def RM.step (m : RM) (who number : Int) : RM × Int :=
  if (m.turn who).2 ≠ 0 then (m, (m.turn who).2)
  else if number < 0 ∨ ((m.choices who.toNat (m.turn who).1).length : Int) ≤ number then (m, 3)
  else (m.does who.toNat (m.turn who).1 ((m.choices who.toNat (m.turn who).1)[number.toNat]!), 0)

section
variable {m : RM} {B w : Nat}

theorem RM.Wf.up (wf : m.Wf B) {B' : Nat} (h : B ≤ B') (hB : B' < 1000000) : m.Wf B' :=
  ⟨hB, wf.pl, wf.tp, wf.t3, wf.nx, wf.po, wf.pb, wf.lp, fun l hl => Nat.le_trans (wf.ll l hl) h, fun t ht => Nat.le_trans (wf.rb t ht) h, wf.nb.1, by have := wf.nb.2; omega⟩

theorem RM.Wf.set (wf : m.Wf B) (hw : w < m.thr.length) (t' : RThr) (h1 : t'.at_ ≤ m.prog[w]!.length) (h2 : t'.read.length ≤ B) (all' : Vw) : ({ m with thr := m.thr.set w t', all := all' } : RM).Wf B := by
  refine ⟨wf.b0, by simpa using wf.pl, by simpa using wf.tp, by simpa using wf.t3, ?_, wf.po, wf.pb, wf.lp, wf.ll, ?_, wf.nb⟩
  · intro i hi
    dsimp only
    rw [set_get _ _ _ _ hw]
    by_cases h : i = w
    · subst h; rw [if_pos rfl]; exact h1
    · rw [if_neg h]; exact wf.nx i (by simpa using hi)
  · intro t ht
    rcases List.mem_or_eq_of_mem_set ht with h | h
    · exact wf.rb t h
    · rw [h]; exact h2

theorem RM.rb_at (wf : m.Wf B) (hw : w < m.thr.length) : m.thr[w]!.read.length ≤ B := wf.rb _ (by rw [getB hw]; exact List.getElem_mem _)

theorem RM.nexts_wf (wf : m.Wf B) (hw : w < m.thr.length) (hn : m.thr[w]!.at_ ≠ m.prog[w]!.length) : (m.nexts w).Wf B := by
  unfold RM.nexts RM.setT
  refine wf.set hw _ ?_ ?_ m.all
  · have := wf.nx w hw
    dsimp only; omega
  · exact RM.rb_at wf hw
theorem RM.reads_wf (wf : m.Wf B) (hB : B + 1 < 1000000) (hw : w < m.thr.length) (o : OpV) (s : RMsg) : (m.reads w o s).Wf (B + 1) := by
  have h1 := (wf.up (Nat.le_succ B) hB)
  unfold RM.reads RM.setT
  refine h1.set hw _ ?_ ?_ m.all
  · exact wf.nx w hw
  · have := RM.rb_at wf hw
    simp only [readT, List.length_append, List.length_singleton]; omega
theorem RM.fence_wf (wf : m.Wf B) (hw : w < m.thr.length) (ord : Int) : (m.fence w ord).Wf B := by
  unfold RM.fence
  refine wf.set hw _ ?_ ?_ _
  · exact wf.nx w hw
  · exact RM.rb_at wf hw
theorem insP_len {α : Type} (xs : List α) (k : Nat) (x : α) : (insP xs k x).length = xs.length + 1 := by simp [insP]; omega
theorem RM.write_wf (wf : m.Wf B) (hB : B + 1 < 1000000) (hw : w < m.thr.length) (o : OpV) (k : Nat) (fr : Bool) (word : Int) (sv : Vw) : (m.write w o k fr word sv).Wf (B + 1) := by
  have h0 := wf.up (Nat.le_succ B) hB
  have h1 := h0.set hw (m.write w o k fr word sv).thr[w]! (by
    simp only [RM.write]; rw [set_get _ _ _ _ hw, if_pos rfl]; exact wf.nx w hw) (by
    simp only [RM.write]; rw [set_get _ _ _ _ hw, if_pos rfl]; have := RM.rb_at wf hw; dsimp only; omega) m.all
  have e : (m.write w o k fr word sv).thr = m.thr.set w (m.write w o k fr word sv).thr[w]! := by
    simp only [RM.write]; rw [set_get _ _ _ _ hw, if_pos rfl]
  refine ⟨h1.b0, ?_, ?_, ?_, ?_, h1.po, h1.pb, ?_, ?_, ?_, ?_⟩
  · rw [e]; exact h1.pl
  · rw [e]; exact h1.tp
  · rw [e]; exact h1.t3
  · intro i hi; rw [e] at hi ⊢; exact h1.nx i hi
  · intro l hl
    simp only [RM.write, upd]
    split
    · rw [insP_len]; omega
    · exact wf.lp l hl
  · intro l hl
    simp only [RM.write, upd]
    split
    · rename_i e; subst e; rw [insP_len]; have := wf.ll _ hl; omega
    · have := wf.ll l hl; omega
  · intro t ht; rw [e] at ht; exact h1.rb t ht
  · have := wf.nb; simp only [RM.write]; omega

theorem RM.turn_zero {who : Int} (h : (m.turn who).2 = 0) : ∃ w : Nat, who = w ∧ w < m.thr.length ∧ m.thr[w]!.at_ ≠ m.prog[w]!.length ∧ (m.turn who).1 = m.prog[w]![m.thr[w]!.at_]! := by
  by_cases hb : m.bad who = true
  · rw [RM.turn_bad hb] at h; cases h
  · obtain ⟨w, rfl, hw⟩ := RM.bad_no hb
    by_cases h2 : m.thr[w]!.at_ = m.prog[w]!.length
    · rw [RM.turn_over hw h2] at h; cases h
    · exact ⟨w, rfl, hw, h2, by rw [RM.turn_ok hw h2]⟩

theorem fromN_mem {α : Type} {f : Nat → List α} {lo n : Nat} {x : α} (h : x ∈ fromN f lo n) : ∃ k, lo ≤ k ∧ k < lo + n ∧ x ∈ f k := by
  simp only [fromN, List.mem_flatMap, List.mem_range] at h
  obtain ⟨k, hk, h⟩ := h
  exact ⟨lo + k, by omega, by omega, h⟩

theorem RM.low_lt (wf : m.Wf B) (o : OpV) (hl : o.loc.toNat < 3) : m.low w o < (m.lists o.loc.toNat).length := by
  have h := wf.lp _ hl
  have := place_lt m.ids o.loc.toNat (m.thr[w]!.now o.loc.toNat) (by simpa [RM.ids] using h)
  simpa [RM.low, RM.ids] using this

/-- The shapes of choices. -/
theorem RM.choice_shape (wf : m.Wf B) {o : OpV} (ho : okOpE o) (h5 : o.kind ≠ 5) {c : RCh} (hc : c ∈ m.choices w o) :
    (o.kind = 1 ∧ ∃ k : Nat, c = (-1, (k : Int), true) ∧ 1 ≤ k ∧ k ≤ (m.lists o.loc.toNat).length) ∨
    (o.kind ≠ 1 ∧ ∃ k : Nat, k < (m.lists o.loc.toNat).length ∧ (c = ((k : Int), -1, false) ∨ (c = ((k : Int), (k : Int) + 1, true) ∧ 2 ≤ o.kind ∧ o.kind ≤ 4))) := by
  obtain ⟨o1, o2, o3, o4, o5⟩ := ho
  have hlow := RM.low_lt (w := w) wf o (by omega)
  simp only [RM.choices, if_neg h5] at hc
  by_cases h1 : o.kind = 1
  · rw [if_pos h1] at hc
    obtain ⟨k, hk1, hk2, hc⟩ := fromN_mem hc
    simp only [RM.storeAt] at hc
    split at hc
    · rw [List.mem_singleton] at hc
      exact .inl ⟨h1, k, hc, by omega, by omega⟩
    · cases hc
  · rw [if_neg h1] at hc
    obtain ⟨k, hk1, hk2, hc⟩ := fromN_mem hc
    refine .inr ⟨h1, k, by omega, ?_⟩
    simp only [RM.chAt, List.mem_append] at hc
    rcases hc with hc | hc
    · split at hc
      · rename_i hh
        rw [List.mem_singleton] at hc
        refine .inr ⟨hc, ?_⟩
        simp only [RM.hit, Bool.and_eq_true, Bool.or_eq_true, decide_eq_true_eq] at hh
        omega
      · cases hc
    · split at hc
      · rw [List.mem_singleton] at hc; exact .inl hc
      · cases hc

end
end Go.EV

namespace Go.EV

theorem okOpE_exp {o : OpV} (h : okOp o = true) : ∀ x ∈ expOp o, okOpE x := by
  obtain ⟨h1, h2, h3⟩ := (okOp_iff o).1 h
  have hk : 0 ≤ o.kind ∧ o.kind < 6 ∧ isOrderP o.ord = true := by simp [mayR] at h1; exact ⟨h1.1.1, h1.1.2, h1.2⟩
  have hl : 0 ≤ o.loc ∧ o.loc < 3 := by
    simp only [fitsP, Bool.and_eq_true, decide_eq_true_eq] at h3
    exact h3.1
  intro x hx
  simp only [expOp] at hx
  split at hx
  · simp at hx; subst hx
    exact ⟨hk.1, hk.2.1, hl.1, hl.2, hk.2.2⟩
  · simp at hx
    rcases hx with rfl | rfl | rfl
    · exact ⟨by decide, by decide, by decide, by decide, by decide⟩
    · refine ⟨hk.1, hk.2.1, hl.1, hl.2, ?_⟩
      have : plainP o.kind o.ord = 1 ∨ plainP o.kind o.ord = 2 ∨ plainP o.kind o.ord = 3 ∨ plainP o.kind o.ord = o.ord := by
        simp only [plainP]; repeat' split
        all_goals simp
      dsimp only
      rcases this with h | h | h | h <;> rw [h]
      · decide
      · decide
      · decide
      · exact hk.2.2
    · exact ⟨by decide, by decide, by decide, by decide, by decide⟩

theorem expT_len3 (l : List OpV) : (expT l).length ≤ 3 * l.length := by
  induction l with
  | nil => simp [expT]
  | cons o l ih =>
    have := expOp_len o
    simp only [expT, List.flatMap_cons, List.length_append, List.length_cons] at ih ⊢
    omega

theorem flat_mem_len {ts : List (List OpV)} {l : List OpV} (h : l ∈ ts) : l.length ≤ ts.flatten.length := by
  induction ts with
  | nil => cases h
  | cons x ts ih =>
    rw [List.flatten_cons, List.length_append]
    rcases List.mem_cons.1 h with rfl | h
    · omega
    · have := ih h; omega

theorem new_inv {ts : List (List OpV)} (hck : checkP ts = 0) (hb : ts.flatten.length < 300000) {B : Nat} (hB : B < 1000000) (h3 : 3 ≤ B) : (VM.new (ts.map expT)).Inv B := by
  obtain ⟨hl, hne, hall⟩ := checkP_zero hck
  have hts : ts.length ≤ 3 := by
    simp only [limitsP] at hl
    simp at hl; omega
  refine ⟨⟨hB, by simp [VM.new], by simp [VM.new]; omega, by simpa [VM.new] using hts, ?_, ?_, ?_, ?_, ?_, by simpa [VM.new] using h3, ?_, ?_⟩, ?_, ?_⟩
  · intro i hi
    have : (VM.new (ts.map expT)).thr[i]! = ⟨noV, noV, noV, [], 0⟩ := by
      rw [getB hi]
      simp [VM.new]
    rw [this]; exact Nat.zero_le _
  · intro l hl o ho
    obtain ⟨l0, hl0, rfl⟩ := List.mem_map.1 hl
    simp only [expT, List.mem_flatMap] at ho
    obtain ⟨o0, ho0, hx⟩ := ho
    exact okOpE_exp (List.all_eq_true.1 hall o0 (List.mem_flatten.2 ⟨l0, hl0, ho0⟩)) o hx
  · intro l hl
    obtain ⟨l0, hl0, rfl⟩ := List.mem_map.1 hl
    have h1 := expT_len3 l0
    have h2 := flat_mem_len hl0
    omega
  · intro l hl; simp [VM.new, hl]
  · intro l hl; simp [VM.new, hl]; omega
  · intro l hl n hn
    simp [VM.new, hl] at hn ⊢; omega
  · intro t ht
    obtain ⟨_, _, rfl⟩ := List.mem_map.1 (show t ∈ (ts.map expT).map fun _ => (⟨noV, noV, noV, [], 0⟩ : Thr) from ht)
    exact Nat.zero_le _
  · intro l hl; simp [VM.new, hl]
  · intro l hl n hn
    simp [VM.new, hl] at hn
    subst hn
    match l, hl with
    | 0, _ => rfl
    | 1, _ => rfl
    | 2, _ => rfl

end Go.EV
