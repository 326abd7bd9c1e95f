/- An execution that goes with one order of all events is that of a run in this order. A run of all events is an interleaving; the interleavings are those that are walked. A thread alone: its executions go in its order. A thread alone has just the outcomes of its order: the walk. The outcomes of a program of one thread are those of its operations in their order: the statement. -/
import Derived.Test.YtmgnpoleilcjoaaVPae
import Derived.Test.YtmgnpoleilcjoaaVPaf
set_option maxRecDepth 8000
set_option linter.unusedSimpArgs false
set_option linter.unusedVariables false
set_option linter.unusedSectionVars false
namespace Go.EV
open Go.Proofs

variable {p : List Ev} {e : Exec} {T : List Nat}

/-- Events in an order, what is written as an execution says. -/
def trE (e : Exec) (T : List Nat) : List (Nat × Bool) := T.map fun i => (i, dnAt e.dn i)
theorem trE_fst : (trE e T).map Prod.fst = T := by
 rw [trE, List.map_map]
 exact List.map_id _
theorem trE_mem {i : Nat} {c : Bool} (h : (i, c) ∈ trE e T) : c = dnAt e.dn i := by
 obtain ⟨j, _, hj⟩ := List.mem_map.1 h
 cases hj; rfl

/-- All that an execution says goes up in an order. -/
structure Goes (p : List Ev) (e : Exec) (T : List Nat) : Prop where
 perm : T.Perm (List.range p.length)
 keep : T.Pairwise fun a b => (evAt p a).th = (evAt p b).th → a < b
 rf : ∀ a b, Rf e p.length a b → T.idxOf a < T.idxOf b
 co : ∀ l ∈ e.ord, ∀ a b, Co1 l a b → T.idxOf a < T.idxOf b
 fr : ∀ a b, Fr1 p e a b → T.idxOf a < T.idxOf b

theorem Goes.run (h : Goes p e T) : IsRun p (trE e T) := ⟨by rw [trE_fst]; exact h.perm, by rw [trE_fst]; exact h.keep⟩
theorem rk_trE {i : Nat} : rkX (trE e T) i = T.idxOf i := by rw [rkX, trE_fst]

theorem perm_asc_eq {α : Type} {f : α → Nat} : ∀ {l m : List α}, l.Perm m → l.Pairwise (fun a b => f a < f b) → m.Pairwise (fun a b => f a < f b) → l = m
 | [], m, h, _, _ => (List.nil_perm.1 h).symm
 | a :: l, [], h, _, _ => absurd h.length_eq (by simp)
 | a :: l, b :: m, h, h1, h2 => by
  have h1' := List.pairwise_cons.1 h1
  have h2' := List.pairwise_cons.1 h2
  have hab : a = b := by
   have ha : a ∈ b :: m := h.mem_iff.1 (List.mem_cons_self ..)
   have hb : b ∈ a :: l := h.mem_iff.2 (List.mem_cons_self ..)
   rcases List.mem_cons.1 ha with ha | ha
   ·exact ha
   ·rcases List.mem_cons.1 hb with hb | hb
    ·exact hb.symm
    ·have := h1'.1 b hb
     have := h2'.1 a ha
     omega
  subst hab
  rw [perm_asc_eq h.cons_inv h1'.2 h2'.2]

/-- A writer has its place in the order of its location. -/
theorem Shape.place (hs : Shape p e) (hp : POk p) {i w : Nat} (hi : i < p.length) (hw : w < p.length) (hd : dnAt e.dn w = true) (hl : (evAt p w).op.loc = (evAt p i).op.loc) : ∃ j, j < (ordAt p e i).length ∧ numAt (ordAt p e i) j = w := by
 have hloc := hp.loc i hi
 have hk := hs.dn0 w hw hd
 have hm : (w : Int) ∈ writersI p e.dn ((evAt p i).op.loc.toNat : Nat) := mem_writersI.2 ⟨w, rfl, hw, by omega, hd, by rw [hl, Int.toNat_of_nonneg hloc.1]⟩
 have h2 := ((hs.ord (evAt p i).op.loc.toNat (by omega)).mem_iff).2 hm
 obtain ⟨j, h3, h4⟩ := mem_numAt.1 h2
 exact ⟨j, h3, h4⟩

theorem ordAt_mem (hs : Shape p e) (hp : POk p) {i : Nat} (hi : i < p.length) : ordAt p e i ∈ e.ord := by
 have hloc := hp.loc i hi
 have hk : (evAt p i).op.loc.toNat < e.ord.length := by rw [hs.ol]; omega
 rw [ordAt, List.getElem?_eq_getElem hk]
 exact List.getElem_mem hk

theorem lastW_some {l : List Nat} (h : l ≠ []) : ∃ u : Nat, lastW l = u ∧ u ∈ l := by
 rcases lastW_cases l with k | ⟨u, k⟩
 ·exact absurd (lastW_none.1 k) h
 ·exact ⟨u, k, lastW_mem k⟩

/-- Event by event the run does what the execution says. -/
theorem Goes.same (h : Goes p e T) (hp : POk p) (hs : Shape p e) (hwd : Worded p e) (hac : RfOk p e) : ∀ (n i : Nat), T.idxOf i = n → i < p.length →
  (runX p (trE e T)).frm i = frmAt e i ∧ (runX p (trE e T)).dn i = dnAt e.dn i ∧ (runX p (trE e T)).R i = (wordsP p e.frm).R i ∧ (1 ≤ (evAt p i).op.kind → (evAt p i).op.kind ≤ 4 → (runX p (trE e T)).W i = (wordsP p e.frm).W i) := by
 have hw := hs.words hac
 intro n
 induction n using Nat.strongRecOn with
 | _ n ih =>
 intro i hn hi
 have ihj : ∀ j, j < p.length → T.idxOf j < T.idxOf i → _ := fun j hj hlt => ih (T.idxOf j) (by omega) j rfl hj
 obtain ⟨l1, c, hic, e0, h4, h5, hpre, v, lw, e1, e2, e3, e4, e5, e6⟩ := h.run.doneC hi
 simp only [rk_trE] at e0 h4 h5
 have hc := trE_mem hic
 subst hc
 have hflt : l1.filter (wrX p (runX p (trE e T)) (evAt p i).op.loc) = l1.filter (fun j => dnAt e.dn j && decide ((evAt p j).op.loc = (evAt p i).op.loc)) := by
  apply List.filter_congr
  intro j hj
  obtain ⟨q1, q2⟩ := h4 j hj
  rw [wrX, (ihj j q2 q1).2.1]
 have hpl : (l1.filter (wrX p (runX p (trE e T)) (evAt p i).op.loc)).Pairwise fun a b => T.idxOf a < T.idxOf b := by
  have h6 := idx_asc h.run.nodup
  obtain ⟨l2, hl2⟩ := hpre
  rw [← hl2, List.pairwise_append] at h6
  refine (h6.1.filter _).imp fun k => ?_
  rw [hl2, trE_fst] at k; exact k
 rw [hflt] at e5 hpl
 have hin : ∀ j, j ∈ l1.filter (fun j => dnAt e.dn j && decide ((evAt p j).op.loc = (evAt p i).op.loc)) ↔ j < p.length ∧ T.idxOf j < T.idxOf i ∧ dnAt e.dn j = true ∧ (evAt p j).op.loc = (evAt p i).op.loc := by
  intro j
  simp only [List.mem_filter, Bool.and_eq_true, decide_eq_true_eq]
  exact ⟨fun ⟨a, b, c⟩ => ⟨(h4 j a).2, (h4 j a).1, b, c⟩, fun ⟨a, b, c, d⟩ => ⟨h5 j a b, c, d⟩⟩
 generalize l1.filter (fun j => dnAt e.dn j && decide ((evAt p j).op.loc = (evAt p i).op.loc)) = L at e5 hpl hin
 have hfrm : (evAt p i).reads = true → lw = frmAt e i := by
  intro hr
  rcases hs.src i hi hr with k | ⟨w, k, k2, k3, k4⟩
  ·rw [k, e5, lastW_none]
   apply Classical.byContradiction
   intro hne
   obtain ⟨u, _, hu⟩ := lastW_some hne
   obtain ⟨u1, u2, u3, u4⟩ := (hin u).1 hu
   obtain ⟨j, j1, j2⟩ := hs.place hp hi u1 u3 u4
   have := h.fr i u ⟨hi, hr, fun e9 => by subst e9; omega, j, j1, j2, .inl k⟩
   omega
  ·have hrf := h.rf w i ⟨hi, k⟩
   have hwL : w ∈ L := (hin w).2 ⟨k2, hrf, k3, k4⟩
   obtain ⟨u, hu1, hu⟩ := lastW_some (l := L) (fun e9 => by rw [e9] at hwL; cases hwL)
   have hmax := lastW_max hpl hu1 hwL
   obtain ⟨u1, u2, u3, u4⟩ := (hin u).1 hu
   obtain ⟨j, j1, j2⟩ := hs.place hp hi u1 u3 u4
   obtain ⟨m, m1, m2⟩ := hs.place hp hi k2 k3 k4
   rw [e5, hu1, k]
   rcases Nat.lt_trichotomy j m with q | q | q
   ·have := h.co _ (ordAt_mem hs hp hi) u w ⟨j, m, q, m1, j2, m2⟩
    omega
   ·subst q; omega
   ·have := h.fr i u ⟨hi, hr, fun e9 => by subst e9; omega, j, j1, j2, .inr ⟨m, q, by rw [m2, k]⟩⟩
    omega
 have hv : (evAt p i).reads = true → v = (wordsP p e.frm).R i := by
  intro hr
  have hf := hfrm hr
  rcases e6 with ⟨q1, q2⟩ | ⟨w, q1, q2⟩
  ·rw [q2]; exact (hw.init i hi hr (show frmAt e i = -1 by omega)).symm
  ·have hfw : frmAt e i = w := by omega
   rcases hs.src i hi hr with k | ⟨w', k, k2, k3, k4⟩
   ·omega
   ·have : w' = w := by omega
    subst this
    have hk := hs.dn0 w' k2 k3
    rw [q2, (ihj w' k2 (h.rf w' i ⟨hi, k⟩)).2.2.2 hk.1 hk.2]
    exact (hw.from_ i w' hi hr hfw).symm
 have hreads : (evAt p i).op.kind ≠ 1 → (evAt p i).op.kind ≠ 5 → (evAt p i).reads = true := fun a b => by simp [Ev.reads, a, b]
 refine ⟨?_, ?_, ?_, ?_⟩
 ·rw [e2]
  cases hr : (evAt p i).reads with
  | true => rw [if_pos rfl]; exact hfrm hr
  | false => rw [if_neg (by decide)]; exact (hs.out i hi hr).symm
 ·rw [e3]
  unfold wrO
  split
  ·rename_i k; exact (hs.dn1 i hi k).symm
  ·split
   ·rename_i k1 k
    rw [hv (hreads (by omega) (by omega))]
    have := (hwd i hi).1 k
    cases hd : dnAt e.dn i with
    | true => exact decide_eq_true (this.1 hd)
    | false => exact decide_eq_false fun hh => by have := this.2 hh; rw [hd] at this; cases this
   ·split
    ·rename_i k1 k3 k
     rw [hv (hreads (by omega) (by omega))]
     cases hd : dnAt e.dn i with
     | true => rw [decide_eq_true ((hwd i hi).2 k hd)]; rfl
     | false => simp
    ·rename_i k1 k3 k4
     cases hd : dnAt e.dn i with
     | true => have := hs.dn0 i hi hd; omega
     | false => rfl
 ·rw [e1]
  cases hr : (evAt p i).reads with
  | true => rw [if_pos rfl]; exact hv hr
  | false => rw [if_neg (by decide)]; exact (hw.out i hi hr).symm
 ·intro k1 k4
  rw [e4]
  unfold nwO
  split
  ·rename_i k; exact (hw.store i hi k).symm
  ·split
   ·rename_i k9 k; rw [hv (hreads (by omega) (by omega))]; exact (hw.add i hi k).symm
   ·rename_i k8 k9; exact (hw.cas i hi (by omega)).symm

theorem exec_ord (h : Goes p e T) (hp : POk p) (hs : Shape p e) (hwd : Worded p e) (hac : RfOk p e) {k : Nat} (hk : k < 3) : toI (ordX p (trE e T) k) = e.ord[k]?.getD [] := by
 have hr := h.run
 have hmem : ∀ a ∈ e.ord[k]?.getD [], 0 ≤ a ∧ a < p.length := fun a ha => by
  obtain ⟨i, rfl, q, _⟩ := mem_writersI.1 (((hs.ord k hk).mem_iff).1 ha)
  omega
 have hin : e.ord[k]?.getD [] ∈ e.ord := by
  rw [List.getElem?_eq_getElem (by rw [hs.ol]; exact hk)]; exact List.getElem_mem _
 refine perm_asc_eq (f := fun a => T.idxOf a.toNat) ?_ ?_ ?_
 ·refine List.Perm.trans ?_ (hs.ord k hk).symm
  refine (List.perm_ext_iff_of_nodup (toI_nodup (hr.nodup.filter _)) (asc_nodup (writers_asc _ _ _))).2 fun x => ?_
  rw [mem_toI, mem_writersI]
  constructor
  ·rintro ⟨i, h1, rfl⟩
   obtain ⟨q1, q2, q3⟩ := (mem_ordX hr).1 h1
   rw [(h.same hp hs hwd hac _ i rfl q1).2.1] at q2
   have := hs.dn0 i q1 q2
   exact ⟨i, rfl, q1, by omega, q2, q3⟩
  ·rintro ⟨i, rfl, q1, _, q2, q3⟩
   exact ⟨i, (mem_ordX hr).2 ⟨q1, by rw [(h.same hp hs hwd hac _ i rfl q1).2.1]; exact q2, q3⟩, rfl⟩
 ·unfold toI
  rw [List.pairwise_map]
  refine (ordX_asc hr k).imp fun q => ?_
  rw [rk_trE, rk_trE] at q
  simpa using q
 ·rw [List.pairwise_iff_getElem]
  intro i j hi hj hij
  have q1 := hmem _ (List.getElem_mem hi)
  have q2 := hmem _ (List.getElem_mem hj)
  exact h.co _ hin _ _ ⟨i, j, hij, hj, by rw [numAt_eq hi]; omega, by rw [numAt_eq hj]; omega⟩

/-- Its outcome is the run's. -/
theorem Goes.outcome (h : Goes p e T) (hp : POk p) (hm : Mono p) (he : e ∈ execsP p) :
  outcomeP p e = rdsX p (runX p (trE e T)) (List.range p.length) ++ [(runX p (trE e T)).wd 0, (runX p (trE e T)).wd 1, (runX p (trE e T)).wd 2] := by
 obtain ⟨hs, hwd, hc⟩ := (exec_iff hp hm).1 he
 have hac := Round.rfOk hc.round
 rw [← run_outcome h.run hp]
 have hf : e.frm = (execX p (trE e T)).frm := by
  refine List.ext_getElem (by rw [hs.fl]; simp [execX]) fun i h1 h2 => ?_
  rw [hs.fl] at h1
  have := (h.same hp hs hwd hac _ i rfl h1).1
  rw [← frmAt_X h1] at this
  unfold frmAt at this
  rw [List.getElem?_eq_getElem h2, List.getElem?_eq_getElem (by rw [hs.fl]; exact h1)] at this
  exact this.symm
 have ho : e.ord = (execX p (trE e T)).ord := by
  refine List.ext_getElem (by rw [hs.ol]; rfl) fun i h1 h2 => ?_
  rw [hs.ol] at h1
  have q := exec_ord h hp hs hwd hac h1
  rw [← ord_X h1, List.getElem?_eq_getElem h2, List.getElem?_eq_getElem (by rw [hs.ol]; exact h1)] at q
  exact q.symm
 rw [outcomeP, outcomeP, hf, ho]

end Go.EV

namespace Go.EV
open Go.Proofs

/-! ### Which events do an operation -/
def mains : List OpV → Nat → Nat
 | [], _ => 0
 | o :: l, y => if accessP o = false ∨ o.ord ≠ 4 then (if y = 0 then 0 else 1 + mains l (y - 1)) else (if y < 2 then 0 else 1 + mains l (y - 3))

theorem mains_zero : ∀ l : List OpV, mains l 0 = 0
 | [] => rfl
 | o :: l => by simp only [mains]; split <;> simp

theorem mains_all : ∀ l : List OpV, mains l (expT l).length = l.length
 | [] => rfl
 | o :: l => by
  have ih := mains_all l
  have e : (expT (o :: l)).length = (expOp o).length + (expT l).length := by simp [expT]
  simp only [mains, e, List.length_cons]
  by_cases h : accessP o = false ∨ o.ord ≠ 4
  ·have e2 : (expOp o).length = 1 := by unfold expOp; rw [if_pos h]; rfl
   rw [if_pos h, e2, if_neg (by omega), show 1 + (expT l).length - 1 = (expT l).length by omega, ih]; omega
  ·have e2 : (expOp o).length = 3 := by unfold expOp; rw [if_neg h]; rfl
   rw [if_neg h, e2, if_neg (by omega), show 3 + (expT l).length - 3 = (expT l).length by omega, ih]; omega

theorem mains_at : ∀ (l : List OpV) (y : Nat) (e : OpV), (expT l)[y]? = some e →
  (e.kind = 5 ∧ mains l (y + 1) = mains l y) ∨ ∃ o, l[mains l y]? = some o ∧ mains l (y + 1) = mains l y + 1 ∧ e.kind = o.kind ∧ e.loc = o.loc ∧ e.v = o.v ∧ e.w = o.w
 | [], y, e, h => by simp [expT] at h
 | o :: l, y, e, h => by
  have e0 : expT (o :: l) = expOp o ++ expT l := by simp [expT]
  rw [e0] at h
  simp only [mains]
  by_cases hx : accessP o = false ∨ o.ord ≠ 4
  ·have e2 : expOp o = [o] := by unfold expOp; rw [if_pos hx]
   rw [e2] at h
   rw [if_pos hx, if_pos hx, if_neg (by omega), Nat.add_sub_cancel]
   match y with
   | 0 =>
    right
    simp only [List.cons_append, List.nil_append, List.getElem?_cons_zero, Option.some.injEq] at h
    subst h
    refine ⟨o, by simp, ?_, rfl, rfl, rfl, rfl⟩
    rw [mains_zero]; simp
   | y + 1 =>
    rw [if_neg (by omega), Nat.add_sub_cancel]
    simp only [List.cons_append, List.nil_append, List.getElem?_cons_succ] at h
    rcases mains_at l y e h with ⟨h1, h2⟩ | ⟨o', h1, h2, h3⟩
    ·exact .inl ⟨h1, by omega⟩
    ·exact .inr ⟨o', by rw [Nat.add_comm 1, List.getElem?_cons_succ]; exact h1, by omega, h3⟩
  ·have e2 : expOp o = [sfence, { o with ord := plainP o.kind o.ord }, sfence] := by unfold expOp; rw [if_neg hx]
   rw [e2] at h
   rw [if_neg hx, if_neg hx]
   match y with
   | 0 =>
    left
    simp only [List.cons_append, List.getElem?_cons_zero, Option.some.injEq] at h
    subst h
    exact ⟨rfl, by simp⟩
   | 1 =>
    right
    simp only [List.cons_append, List.getElem?_cons_succ, List.getElem?_cons_zero, Option.some.injEq] at h
    subst h
    refine ⟨o, by simp, ?_, rfl, rfl, rfl, rfl⟩
    rw [if_neg (by omega), if_pos (by omega), mains_zero]
   | 2 =>
    left
    simp only [List.cons_append, List.getElem?_cons_succ, List.getElem?_cons_zero, Option.some.injEq] at h
    subst h
    refine ⟨rfl, ?_⟩
    rw [if_neg (by omega), if_neg (by omega)]
   | y + 3 =>
    rw [if_neg (by omega), if_neg (by omega), show y + 3 + 1 - 3 = y + 1 by omega, show y + 3 - 3 = y by omega]
    simp only [List.cons_append, List.nil_append, List.getElem?_cons_succ] at h
    rcases mains_at l y e h with ⟨h1, h2⟩ | ⟨o', h1, h2, h3⟩
    ·exact .inl ⟨h1, by omega⟩
    ·exact .inr ⟨o', by rw [Nat.add_comm 1, List.getElem?_cons_succ]; exact h1, by omega, h3⟩

/-! ### Each choice can be made -/
theorem goes_conv {m : Mem} {t : Nat} {o : OpV} (ht : t < 3) (hk : 0 ≤ o.kind ∧ o.kind ≤ 5) (hl : 0 ≤ o.loc ∧ o.loc < 3) (c : Bool) :
  ∃ m' ∈ goesP m t o, (∀ s, s < 3 → m'.nx s = if s = t then m.nx s + 1 else m.nx s) ∧ (∀ k, 0 ≤ k → k < 3 → m'.wd k = (if wrO o (m.wd o.loc) c then upI m.wd o.loc (nwO o (m.wd o.loc)) else m.wd) k) ∧
   (∀ s, s < 3 → m'.rd s = upN m.rd t (m.rd t ++ if o.kind ≠ 1 ∧ o.kind ≠ 5 then [m.wd o.loc] else []) s) := by
 by_cases hc : c = false ∧ o.kind = 4 ∧ m.wd o.loc = o.v
 ·obtain ⟨rfl, hk4, hv⟩ := hc
  refine ⟨(m.bump t).addR t (m.wd o.loc), ?_, ?_, ?_, ?_⟩
  ·simp [goesP, accessP, hk4, hv]
  ·intro s hs; rw [nx_addR]; exact nx_bump ht hs
  ·intro k _ _
   rw [wd_addR, wd_bump]; simp [wrO, hk4]
  ·intro s hs
   rw [rd_addR ht hs, rd_bump, upN]
   split
   ·rename_i e; rw [e]; simp [hk4]
   ·rfl
 · -- the last of what can come
  obtain ⟨l, m', hg⟩ : ∃ l m', goesP m t o = l ++ [m'] := by
   have h1 := (goes_len m t o).1
   have hne : goesP m t o ≠ [] := fun e => by rw [e] at h1; simp at h1
   exact ⟨_, _, (List.dropLast_concat_getLast hne).symm⟩
  have hm : m' ∈ goesP m t o := by rw [hg]; simp
  obtain ⟨c', k1, k2, k3⟩ := goes_mem ht hk hl hm
  refine ⟨m', hm, k1, ?_, k3⟩
  intro k h0 h3
  by_cases h4 : o.kind = 4 ∧ m.wd o.loc = o.v
  ·have hct : c = true := by
    cases c with
    | true => rfl
    | false => exact absurd ⟨rfl, h4⟩ hc
   subst hct
   have hg2 : m' = ((m.bump t).addR t (m.wd o.loc)).setW o.loc o.w := by
    have : goesP m t o = [(m.bump t).addR t (m.wd o.loc), ((m.bump t).addR t (m.wd o.loc)).setW o.loc o.w] := by simp [goesP, accessP, h4.1, h4.2]
    rw [this] at hg
    have := congrArg List.getLast? hg
    simpa using this.symm
   rw [hg2, wd_setW hl ⟨h0, h3⟩]
   simp only [wrO, nwO, h4.1, h4.2]
   simp [upI, wd_addR, wd_bump]
  ·rw [k2 k h0 h3]
   have : wrO o (m.wd o.loc) c' = wrO o (m.wd o.loc) c := by
    unfold wrO
    split
    ·rfl
    ·split
     ·rfl
     ·split
      ·rename_i q
       have : m.wd o.loc ≠ o.v := fun e => h4 ⟨q, e⟩
       simp [this]
      ·rfl
   rw [this]

theorem RelE.fenceC {p : List Ev} {q : List (List OpV)} {base : Nat → Nat} {tr : List (Nat × Bool)} {y : Nat → Nat} {wd : Int → Int} {rd : Nat → List Int} (h : RelE p q base tr y wd rd) (hl : Lay p q base) (hp : POk p) {t : Nat} {o : OpV} (ho : (q[t]?.getD [])[y t]? = some o) (h5 : o.kind = 5) (c : Bool) :
  RelE p q base (tr ++ [(base t + y t, c)]) (upN y t (y t + 1)) wd rd := by
 have h1 := h.step hl hp ho c
 have e1 : wrO o (wd o.loc) c = false := by simp [wrO, h5]
 have e2 : ¬ (o.kind ≠ 1 ∧ o.kind ≠ 5) := fun k => k.2 h5
 rw [if_neg (by rw [e1]; decide), if_neg e2, List.append_nil, upN_same] at h1
 exact h1

/-- A run goes with a point of an interleaving. -/
def RelN (ts : List (List OpV)) (tr : List (Nat × Bool)) (m : Mem) : Prop :=
 ∃ y wd rd, RelE (evsOf ts) (ts.map expT) (baseOf ts) tr y wd rd ∧ (∀ t, t < 3 → m.nx t = mains (thr ts t) (y t) ∧ rd t = m.rd t) ∧ ∀ k, 0 ≤ k → k < 3 → wd k = m.wd k

theorem nx_mem0 (t : Nat) : mem0.nx t = 0 := by unfold Mem.nx mem0; split <;> (try split) <;> rfl
theorem relN_nil (ts : List (List OpV)) : RelN ts [] mem0 := by
 refine ⟨_, _, _, RelE.nil, fun t ht => ?_, fun k _ _ => ?_⟩
 ·have h2 : mem0.rd t = [] := by unfold Mem.rd mem0; split <;> (try split) <;> rfl
  rw [nx_mem0, h2, mains_zero]; exact ⟨rfl, rfl⟩
 ·unfold Mem.wd mem0; split <;> (try split) <;> rfl

/-- Where all is done all events of each thread are. -/
theorem RelE.full {p : List Ev} {q : List (List OpV)} {base : Nat → Nat} {tr : List (Nat × Bool)} {y : Nat → Nat} {wd : Int → Int} {rd : Nat → List Int} (h : RelE p q base tr y wd rd) (hl : Lay p q base) (hr : IsRun p tr) (t : Nat) : y t = (q[t]?.getD []).length := by
 have h1 : ∀ i, i ∈ (tr.map Prod.fst).filter (fun i => decide ((evAt p i).th = t)) ↔ i < p.length ∧ (evAt p i).th = t := fun i => by
  rw [List.mem_filter, hr.mem, decide_eq_true_eq]
 rw [h.th t] at h1
 have h2 : ∀ j, j < (q[t]?.getD []).length → j < y t := by
  intro j hj
  obtain ⟨k1, k2⟩ := hl.at_ t j _ (List.getElem?_eq_getElem hj)
  obtain ⟨j', hj', e⟩ := List.mem_map.1 ((h1 (base t + j)).2 ⟨k1, by rw [k2]⟩)
  rw [List.mem_range] at hj'
  omega
 have h3 : ∀ j, j < y t → j < (q[t]?.getD []).length := by
  intro j hj
  obtain ⟨k1, k2⟩ := (h1 (base t + j)).1 (List.mem_map.2 ⟨j, List.mem_range.2 hj, rfl⟩)
  obtain ⟨t', j', o, q1, q2⟩ := hl.all _ k1
  obtain ⟨_, q3⟩ := hl.at_ t' j' o q1
  rw [← q2] at q3
  rw [q3] at k2
  have : t' = t := by simp only at k2; omega
  subst this
  have : j' = j := by omega
  subst this
  exact (List.getElem?_eq_some_iff.1 q1).1
 have a1 := h2 (y t)
 have a2 := h3 ((q[t]?.getD []).length)
 omega

/-- What is told at the end. -/
theorem RelE.out {ts : List (List OpV)} (h3 : ts.length ≤ 3) {tr : List (Nat × Bool)} {y : Nat → Nat} {wd : Int → Int} {rd : Nat → List Int} (hr : RelE (evsOf ts) (ts.map expT) (baseOf ts) tr y wd rd) (hyl : ∀ t, y t = ((ts.map expT)[t]?.getD []).length) {m : Mem} (hrd : ∀ t, t < 3 → rd t = m.rd t) (hwd : ∀ k, 0 ≤ k → k < 3 → wd k = m.wd k) :
  rdsX (evsOf ts) (runX (evsOf ts) tr) (List.range (evsOf ts).length) ++ [(runX (evsOf ts) tr).wd 0, (runX (evsOf ts) tr).wd 1, (runX (evsOf ts) tr).wd 2] = m.out := by
 have hb : ∀ t, baseOf ts (t + 1) = baseOf ts t + y t := fun t => by rw [hyl t]; exact base_succ _ t
 have hb0 : baseOf ts 0 = 0 := rfl
 have hn : (evsOf ts).length = baseOf ts 3 := by
  simp only [baseOf, evsOf]; rw [List.take_of_length_le (by simpa using h3)]
 have happ : ∀ (s : Sx) (l m : List Nat), rdsX (evsOf ts) s (l ++ m) = rdsX (evsOf ts) s l ++ rdsX (evsOf ts) s m := fun s l m => by simp [rdsX, List.flatMap_append]
 have hrng : List.range (evsOf ts).length = (List.range (y 0)).map (baseOf ts 0 + ·) ++ (List.range (y 1)).map (baseOf ts 1 + ·) ++ (List.range (y 2)).map (baseOf ts 2 + ·) := by
  rw [hn, hb 2, range_add', hb 1, range_add', hb 0, range_add', hb0]
  simp
 rw [hrng, happ, happ, hr.rd, hr.rd, hr.rd, hrd 0 (by omega), hrd 1 (by omega), hrd 2 (by omega), hr.wd 0 (by omega) (by omega), hr.wd 1 (by omega) (by omega), hr.wd 2 (by omega) (by omega), hwd 0 (by omega) (by omega), hwd 1 (by omega) (by omega), hwd 2 (by omega) (by omega)]
 rfl

/-- The next event of a run is the next one of its thread. -/
theorem RelE.next {p : List Ev} {q : List (List OpV)} {base : Nat → Nat} {tr tr2 : List (Nat × Bool)} {y : Nat → Nat} {wd : Int → Int} {rd : Nat → List Int} {i : Nat} {c : Bool} (h : RelE p q base tr y wd rd) (hl : Lay p q base) (hr : IsRun p (tr ++ (i, c) :: tr2)) :
  ∃ t o, (q[t]?.getD [])[y t]? = some o ∧ i = base t + y t := by
 have hi : i < p.length := hr.mem.1 (by simp)
 obtain ⟨t, j, o, h1, h2⟩ := hl.all i hi
 obtain ⟨_, h3⟩ := hl.at_ t j o h1
 have hth : ∀ x, x ∈ (tr.map Prod.fst).filter (fun i => decide ((evAt p i).th = t)) ↔ ∃ j, j < y t ∧ base t + j = x := fun x => by
  rw [h.th t]; simp
 have hn := hr.nodup
 rw [List.map_append, List.map_cons, List.nodup_append, List.nodup_cons] at hn
 obtain ⟨n1, ⟨n2, n3⟩, n4⟩ := hn
 have hj1 : ¬ j < y t := by
  intro hj
  have := (hth i).2 ⟨j, hj, h2.symm⟩
  exact n4 i (List.mem_filter.1 this).1 i (List.mem_cons_self ..) rfl
 have hj2 : ¬ y t < j := by
  intro hj
  have hlt : y t < (q[t]?.getD []).length := by have := (List.getElem?_eq_some_iff.1 h1).1; omega
  obtain ⟨k1, k2⟩ := hl.at_ t (y t) _ (List.getElem?_eq_getElem hlt)
  have hm := hr.mem.2 k1
  rw [List.map_append, List.map_cons, List.mem_append, List.mem_cons] at hm
  rcases hm with hm | hm | hm
  ·obtain ⟨j', q1, q2⟩ := (hth (base t + y t)).1 (List.mem_filter.2 ⟨hm, by rw [k2]; simp⟩)
   omega
  ·omega
  ·have hk := hr.keep
   rw [List.map_append, List.map_cons, List.pairwise_append, List.pairwise_cons] at hk
   have := hk.2.1.1 _ hm (by rw [k2, h2, h3])
   omega
 have : j = y t := by omega
 subst this
 exact ⟨t, o, h1, h2⟩

theorem run_il {ts : List (List OpV)} (hc : checkP ts = 0) : ∀ (tr2 tr1 : List (Nat × Bool)) (m : Mem), IsRun (evsOf ts) (tr1 ++ tr2) → RelN ts tr1 m →
  Il ts m (rdsX (evsOf ts) (runX (evsOf ts) (tr1 ++ tr2)) (List.range (evsOf ts).length) ++ [(runX (evsOf ts) (tr1 ++ tr2)).wd 0, (runX (evsOf ts) (tr1 ++ tr2)).wd 1, (runX (evsOf ts) (tr1 ++ tr2)).wd 2])
 | [], tr1, m, hrun, ⟨y, wd, rd, hr, hy, hwd⟩ => by
  have h3 := (checkP_small hc).2
  rw [List.append_nil] at hrun ⊢
  have hyl := hr.full (lay_ts ts) hrun
  rw [hr.out h3 hyl (fun t ht => (hy t ht).2) hwd]
  refine .over fun t ht => ?_
  rw [(hy t (by omega)).1, hyl t, q_thr, mains_all]; rfl
 | (i, c) :: tr2, tr1, m, hrun, ⟨y, wd, rd, hr, hy, hwd⟩ => by
  have h3 := (checkP_small hc).2
  have hp := evs_pok hc
  have hl := lay_ts ts
  obtain ⟨t, ev, hev, rfl⟩ := hr.next hl hrun
  have ht : t < 3 := by
   apply Classical.byContradiction
   intro hn
   rw [List.getElem?_eq_none (by rw [List.length_map]; omega : (ts.map expT).length ≤ t)] at hev
   simp at hev
  obtain ⟨b1, b2⟩ := hl.at_ t (y t) ev hev
  have hloc := hp.loc _ b1
  have hkd := evs_kind hc _ b1
  rw [b2] at hloc hkd
  have hev2 := hev
  rw [q_thr] at hev2
  have key : ∀ m', RelN ts (tr1 ++ [(baseOf ts t + y t, c)]) m' → Il ts m' (rdsX (evsOf ts) (runX (evsOf ts) (tr1 ++ (baseOf ts t + y t, c) :: tr2)) (List.range (evsOf ts).length) ++ [(runX (evsOf ts) (tr1 ++ (baseOf ts t + y t, c) :: tr2)).wd 0, (runX (evsOf ts) (tr1 ++ (baseOf ts t + y t, c) :: tr2)).wd 1, (runX (evsOf ts) (tr1 ++ (baseOf ts t + y t, c) :: tr2)).wd 2]) := by
   intro m' hm'
   have e : tr1 ++ (baseOf ts t + y t, c) :: tr2 = (tr1 ++ [(baseOf ts t + y t, c)]) ++ tr2 := by simp
   rw [e] at hrun ⊢
   exact run_il hc tr2 _ m' hrun hm'
  rcases mains_at (thr ts t) (y t) ev hev2 with ⟨h5, hmn⟩ | ⟨o, ho, hmn, e1, e2, e3, e4⟩
  ·refine key m ⟨_, _, _, hr.fenceC hl hp hev h5 c, fun s hs => ⟨?_, (hy s hs).2⟩, hwd⟩
   rw [(hy s hs).1, upN]
   split
   ·rename_i e; subst e; exact hmn.symm
   ·rfl
  ·rw [← (hy t ht).1] at ho
   rw [e1] at hkd
   rw [e2] at hloc
   obtain ⟨m', hm', k1, k2, k3⟩ := goes_conv (m := m) ht hkd hloc c
   refine .step ho hm' (key m' ?_)
   have hs := hr.step hl hp hev c
   have ew : wrO ev (wd ev.loc) c = wrO o (m.wd o.loc) c := by
    rw [e2, hwd _ hloc.1 hloc.2]; simp only [wrO, e1, e3]
   have en : nwO ev (wd ev.loc) = nwO o (m.wd o.loc) := by
    rw [e2, hwd _ hloc.1 hloc.2]; simp only [nwO, e1, e3, e4]
   rw [ew, en, e1, e2, hwd _ hloc.1 hloc.2] at hs
   refine ⟨_, _, _, hs, fun s hs9 => ⟨?_, ?_⟩, fun k h0 h9 => ?_⟩
   ·rw [k1 s hs9, upN, (hy s hs9).1]
    split
    ·rename_i e; subst e; exact hmn.symm
    ·rfl
   ·rw [k3 s hs9, upN, upN, (hy t ht).2]
    split
    ·rfl
    ·exact (hy s hs9).2
   ·rw [k2 k h0 h9]
    split
    ·unfold upI; split
     ·rfl
     ·exact hwd k h0 h9
    ·exact hwd k h0 h9

/-! ### A fence may be done at once -/
theorem bump_comm (m : Mem) (t s : Nat) : (m.bump t).bump s = (m.bump s).bump t := by
 unfold Mem.bump
 by_cases h0 : t = 0 <;> by_cases h1 : t = 1 <;> by_cases k0 : s = 0 <;> by_cases k1 : s = 1 <;> simp [h0, h1, k0, k1]
theorem bump_addR (m : Mem) (t s : Nat) (v : Int) : (m.bump t).addR s v = (m.addR s v).bump t := by
 unfold Mem.bump Mem.addR
 by_cases h0 : t = 0 <;> by_cases h1 : t = 1 <;> by_cases k0 : s = 0 <;> by_cases k1 : s = 1 <;> simp [h0, h1, k0, k1]
theorem bump_setW (m : Mem) (t : Nat) (k v : Int) : (m.bump t).setW k v = (m.setW k v).bump t := by
 unfold Mem.bump Mem.setW
 by_cases h0 : t = 0 <;> by_cases h1 : t = 1 <;> by_cases k0 : k = 0 <;> by_cases k1 : k = 1 <;> simp [h0, h1, k0, k1]

theorem goes_bump (m : Mem) (t s : Nat) (o : OpV) : goesP (m.bump t) s o = (goesP m s o).map (Mem.bump · t) := by
 unfold goesP
 rw [wd_bump, bump_comm m t s]
 split
 ·rfl
 ·dsimp only
  have e : (if o.kind ≠ 1 ∧ o.kind ≠ 5 then ((m.bump s).bump t).addR s (m.wd o.loc) else (m.bump s).bump t) = (if o.kind ≠ 1 ∧ o.kind ≠ 5 then (m.bump s).addR s (m.wd o.loc) else m.bump s).bump t := by
   split
   ·rw [bump_addR]
   ·rfl
  rw [e]
  generalize (if o.kind ≠ 1 ∧ o.kind ≠ 5 then (m.bump s).addR s (m.wd o.loc) else m.bump s) = m1
  split
  ·simp [bump_setW]
  ·split
   ·simp [bump_setW]
   ·split
    ·split <;> simp [bump_setW]
    ·rfl

theorem nx_bump_ne {m : Mem} {t s : Nat} (ht : t < 3) (h3 : s < 3) (h : s ≠ t) : (m.bump t).nx s = m.nx s := by
 unfold Mem.bump Mem.nx
 by_cases h0 : t = 0 <;> by_cases h1 : t = 1 <;> by_cases k0 : s = 0 <;> by_cases k1 : s = 1 <;> simp [h0, h1, k0, k1] <;> omega

theorem th_of {ts : List (List OpV)} {t k : Nat} {o : OpV} (h : (ts[t]?.getD [])[k]? = some o) : t < ts.length := by
 apply Classical.byContradiction
 intro hn
 rw [List.getElem?_eq_none (by omega : ts.length ≤ t)] at h
 simp at h

theorem il_fence {ts : List (List OpV)} (h3 : ts.length ≤ 3) {m : Mem} {x : List Int} (h : Il ts m x) : ∀ {t : Nat} {o : OpV}, (ts[t]?.getD [])[m.nx t]? = some o → accessP o = false → Il ts (m.bump t) x := by
 induction h with
 | @over m h =>
  intro t o ho _
  have := h t (th_of ho)
  have := (List.getElem?_eq_some_iff.1 ho).1
  omega
 | @step m m' s o' x ho' hm hx ih =>
  intro t o ho ha
  by_cases hst : s = t
  ·subst hst
   rw [ho] at ho'
   cases ho'
   unfold goesP at hm
   rw [if_pos ha, List.mem_singleton] at hm
   subst hm; exact hx
  ·have hs3 : s < 3 := by have := th_of ho'; omega
   have ht3 : t < 3 := by have := th_of ho; omega
   have hnx := nx_goes hs3 hm t ht3
   rw [if_neg (fun e => hst e.symm)] at hnx
   refine .step (t := s) (o := o') (m' := m'.bump t) ?_ ?_ (ih (by rw [hnx]; exact ho) ha)
   ·rw [nx_bump_ne ht3 hs3 hst]; exact ho'
   ·rw [goes_bump]; exact List.mem_map.2 ⟨m', hm, rfl⟩

theorem threads_over {ts : List (List OpV)} {rec : Mem → List (List Int)} {m : Mem} (h : ∀ t, t < ts.length → m.nx t = (ts[t]?.getD []).length) : ∀ (ls : List (List OpV)) (t : Nat), ls = ts.drop t → m.out ∈ threadsP rec m ls t true
 | [], t, _ => by simp [threadsP]
 | l :: ls, t, hls => by
  have ht : t < ts.length := by
   apply Classical.byContradiction
   intro h; rw [List.drop_eq_nil_of_le (by omega)] at hls; cases hls
  rw [List.drop_eq_getElem_cons ht] at hls
  obtain ⟨rfl, rfl⟩ := List.cons.inj hls
  have := h t ht
  rw [List.getElem?_eq_getElem ht, Option.getD_some] at this
  rw [threadsP, if_pos this]
  exact threads_over h _ (t + 1) rfl

theorem threads_all {ts : List (List OpV)} (h3 : ts.length ≤ 3) {rec : Mem → List (List Int)} {m m' : Mem} {x : List Int} {s : Nat} {o : OpV} (hle : ∀ t, t < ts.length → m.nx t ≤ (ts[t]?.getD []).length)
  (hrec : ∀ t o m', (ts[t]?.getD [])[m.nx t]? = some o → m' ∈ goesP m t o → Il ts m' x → x ∈ rec m') (ho : (ts[s]?.getD [])[m.nx s]? = some o) (hm : m' ∈ goesP m s o) (hx : Il ts m' x) :
  ∀ (ls : List (List OpV)) (t : Nat) (over : Bool), ls = ts.drop t → t ≤ s → x ∈ threadsP rec m ls t over
 | [], t, over, hls, hts => by
  exfalso
  have h1 := th_of ho
  have := congrArg List.length hls
  simp at this; omega
 | l :: ls, t, over, hls, hts => by
  have ht : t < ts.length := by
   apply Classical.byContradiction
   intro h; rw [List.drop_eq_nil_of_le (by omega)] at hls; cases hls
  rw [List.drop_eq_getElem_cons ht] at hls
  obtain ⟨rfl, rfl⟩ := List.cons.inj hls
  have hget : ts[t]?.getD [] = ts[t] := by rw [List.getElem?_eq_getElem ht]; rfl
  have hlt := hle t ht
  rw [hget] at hlt
  have hne : t = s → m.nx t < ts[t].length := by
   rintro rfl
   rw [hget] at ho
   exact (List.getElem?_eq_some_iff.1 ho).1
  rw [threadsP]
  split
  ·rename_i h
   have : t ≠ s := fun e => by have := hne e; omega
   exact threads_all h3 hle hrec ho hm hx _ (t + 1) over rfl (by omega)
  ·rename_i h
   have hop : (ts[t]?.getD [])[m.nx t]? = some (opAt ts[t] (m.nx t)) := by
    rw [hget, opAt, List.getElem?_eq_getElem (by omega)]; rfl
   by_cases hts2 : t = s
   ·subst hts2
    rw [hop] at ho
    cases ho
    exact List.mem_append.2 (.inl (List.mem_flatMap.2 ⟨m', hm, hrec t _ m' hop hm hx⟩))
   ·cases ha : accessP (opAt ts[t] (m.nx t)) with
    | true =>
     rw [if_pos rfl]
     exact List.mem_append.2 (.inr (threads_all h3 hle hrec ho hm hx _ (t + 1) false rfl (by omega)))
    | false =>
     have hb : m.bump t ∈ goesP m t (opAt ts[t] (m.nx t)) := by
      unfold goesP; rw [if_pos ha]; simp
     exact List.mem_append.2 (.inl (List.mem_flatMap.2 ⟨_, hb, hrec t _ _ hop hb (il_fence h3 (.step ho hm hx) hop ha)⟩))

theorem il_walk {ts : List (List OpV)} (h3 : ts.length ≤ 3) : ∀ (f : Nat) (m : Mem) (x : List Int), (∀ t, t < ts.length → m.nx t ≤ (ts[t]?.getD []).length) → leftP ts m ≤ f → Il ts m x → x ∈ walkP ts f m
 | f, m, x, hle, hl, h => by
  rcases h with h | ⟨ho, hm, hx⟩
  ·cases f with
   | zero => exact threads_over h ts 0 rfl
   | succ f => exact threads_over h ts 0 rfl
  ·rename_i m' t o
   have ht := th_of ho
   have hlt := (List.getElem?_eq_some_iff.1 ho).1
   match f with
   | 0 =>
    exfalso
    have h1 := left_zero (m := m) ts 0 (by unfold leftP at hl; omega) t ht
    rw [Nat.zero_add] at h1; omega
   | f + 1 =>
    refine threads_all h3 hle (fun t o m' ho hm hx => ?_) ho hm hx ts 0 true rfl (Nat.zero_le _)
    have ht := th_of ho
    have hnx := nx_goes (by omega) hm
    have hlt := (List.getElem?_eq_some_iff.1 ho).1
    refine il_walk h3 f m' x (fun s hs => ?_) ?_ hx
    ·rw [hnx s (by omega)]
     split
     ·rename_i e; subst e; exact hlt
     ·exact hle s hs
    ·have := left_step (m := m) (m' := m') (k := t) hnx ts 0 (by omega) (by omega) (by omega) (by simpa using hlt)
     unfold leftP at hl ⊢
     omega

theorem walk_iff {ts : List (List OpV)} (h3 : ts.length ≤ 3) {f : Nat} (hf : leftP ts mem0 ≤ f) {x : List Int} : x ∈ walkP ts f mem0 ↔ Il ts mem0 x :=
 ⟨walk_il h3 f mem0 (fun t _ => by rw [nx_mem0]; exact Nat.zero_le _) x, il_walk h3 f mem0 x (fun t _ => by rw [nx_mem0]; exact Nat.zero_le _) hf⟩

/-- What goes in one order is an interleaving. -/
theorem Goes.il {ts : List (List OpV)} (hc : checkP ts = 0) {e : Exec} {T : List Nat} (he : e ∈ execsP (evsOf ts)) (h : Goes (evsOf ts) e T) : Il ts mem0 (outcomeP (evsOf ts) e) := by
 rw [h.outcome (evs_pok hc) (evs_mono ts) he]
 have := run_il hc (trE e T) [] mem0 (by simpa using h.run) (relN_nil ts)
 simpa using this

end Go.EV

namespace Go.EV
open Go.Proofs

theorem th_alone {ops : List OpV} {i : Nat} (hi : i < (evsOf [ops]).length) : (evAt (evsOf [ops]) i).th = 0 := by
 obtain ⟨t, j, o, h1, h2⟩ := (lay_ts [ops]).all i hi
 obtain ⟨_, h3⟩ := (lay_ts [ops]).at_ t j o h1
 have ht : t < 1 := by
  apply Classical.byContradiction
  intro hn
  rw [List.getElem?_eq_none (show ([ops].map expT).length ≤ t by simp only [List.map_cons, List.map_nil, List.length_cons, List.length_nil]; omega)] at h1
  simp at h1
 have : t = 0 := by omega
 subst this
 rw [h2, h3]; rfl

theorem idx_range {n i : Nat} (h : i < n) : (List.range n).idxOf i = i := by
 have := (List.nodup_range (n := n)).idxOf_getElem i (by simpa using h)
 simpa using this

theorem alone_goes {ops : List OpV} (hc : checkP [ops] = 0) {e : Exec} (he : e ∈ execsP (evsOf [ops])) : Goes (evsOf [ops]) e (List.range (evsOf [ops]).length) := by
 have hp := evs_pok hc
 have hm := evs_mono [ops]
 have hth : ∀ i, i < (evsOf [ops]).length → (evAt (evsOf [ops]) i).th = 0 := fun i hi => th_alone hi
 generalize evsOf [ops] = p at *
 obtain ⟨hs, hwd, hcn⟩ := (exec_iff hp hm).1 he
 have hbe : ∀ a b, a < b → b < p.length → Hb p e a b := by
  intro a b h1 h2
  have := way_TG (R := fun a b => Sb1 p a b ∨ Fo1 e.fen a b ∨ Sw p e a b) (f := fun i => a + i) (m := b - a) (fun i hi => .inl ⟨rfl, by omega, by rw [hth _ (by omega), hth _ (by omega)]⟩) (b - a - 1) 0 (by omega)
  simp only [Nat.add_zero] at this
  rw [show a + (0 + (b - a - 1) + 1) = b by omega] at this
  exact this
 have hcom : ∀ a b, a < p.length → b < p.length → a ≠ b → Com1 p e a b → a < b := by
  intro a b ha hb hne h
  apply Classical.byContradiction
  intro hn
  exact hcn.cross (.inr ⟨b, a, hbe b a (by omega) ha, .one h⟩)
 have hordin : ∀ l ∈ e.ord, (∀ a ∈ l, 0 ≤ a ∧ a < p.length) ∧ l.Nodup := by
  intro l hl
  obtain ⟨k, hk, rfl⟩ := List.getElem_of_mem hl
  have hperm := hs.ord k (by rw [← hs.ol]; exact hk)
  rw [List.getElem?_eq_getElem hk, Option.getD_some] at hperm
  refine ⟨fun a ha => ?_, (hperm.nodup_iff).2 (asc_nodup (writers_asc _ _ _))⟩
  obtain ⟨i, rfl, q, _⟩ := mem_writersI.1 ((hperm.mem_iff).1 ha)
  omega
 have hread : ∀ a b, Rf e p.length a b → (evAt p b).reads = true ∧ a < p.length := by
  rintro a b ⟨hb, hf⟩
  cases hr : (evAt p b).reads with
  | false => have := hs.out b hb hr; omega
  | true =>
   rcases hs.src b hb hr with k | ⟨w, k, k2, _⟩
   ·omega
   ·exact ⟨rfl, by omega⟩
 refine ⟨List.Perm.refl _, (List.pairwise_lt_range (n := p.length)).imp (S := fun a b => (evAt p a).th = (evAt p b).th → a < b) fun h _ => h, ?_, ?_, ?_⟩
 ·intro a b h
  obtain ⟨h1, h2⟩ := hread a b h
  have hne : a ≠ b := fun e9 => hcn.round ⟨a, .one (.inr (.inr (by subst e9; exact h)))⟩
  have := hcom a b h2 h.1 hne (.inr (.inl ⟨h1, h⟩))
  rw [idx_range h2, idx_range h.1]; exact this
 ·intro l hl a b h
  obtain ⟨i, j, h1, h2, h3, h4⟩ := h
  obtain ⟨k1, k2⟩ := hordin l hl
  have hi : i < l.length := by omega
  have ha := k1 _ (mem_numAt.2 ⟨i, hi, h3⟩)
  have hb := k1 _ (mem_numAt.2 ⟨j, h2, h4⟩)
  have hne : a ≠ b := by
   rintro rfl
   have := List.pairwise_iff_getElem.1 k2 i j hi h2 h1
   rw [numAt_eq hi] at h3
   rw [numAt_eq h2] at h4
   exact this (h3.trans h4.symm)
  rw [idx_range (by omega), idx_range (by omega)]
  exact hcom a b (by omega) (by omega) hne (.inl ⟨l, hl, i, j, h1, h2, h3, h4⟩)
 ·intro a b h
  have h0 := h
  obtain ⟨h1, h2, h3, j, h4, h5, h6⟩ := h
  have hb := (hordin _ (ordAt_mem hs hp h1)).1 _ (mem_numAt.2 ⟨j, h4, h5⟩)
  rw [idx_range (by omega), idx_range (by omega)]
  exact hcom a b (by omega) (by omega) (fun e9 => h3 e9.symm) (.inr (.inr h0))

/-- A thread alone has just the outcomes of its order. -/
theorem alone_out {ops : List OpV} (hc : checkP [ops] = 0) {f : Nat} (hf : leftP [ops] mem0 ≤ f) (x : List Int) : IsOut (evsOf [ops]) x ↔ x ∈ walkP [ops] f mem0 := by
 constructor
 ·rintro ⟨e, he, rfl⟩
  exact (walk_iff (checkP_small hc).2 hf).2 ((alone_goes hc he).il hc he)
 ·exact walk_out hc f x

end Go.EV

namespace Go.EV
open Go.Proofs

section
variable {M : PHeap}

set_option maxHeartbeats 4000000 in
theorem AxiomAlone_c (ops : List OpV) (s : Value) (hs : Sl M 5 encOp s ops) (hb : ops.length ≤ 140737488355328) : Con Try.prog 7 #[s] M [] fun u _ _ => u = vb true := by
 obtain ⟨oa, oc, rfl, hrd⟩ := hs
 refine Con.enter Q57_ok (args := [.slice oa ops.length oc]) (by simp [Q57]) fun w0 => ?_
 simp only [Q57, argE]
 repeat' first
   | refine EV.seq ?_
   | (refine EV.reg ?_; (conv => (arg 2; whnf)); (refine nx ?_; try with_reducible exact ⟨⟩))
   | fail
 refine Con.callS (G1 := []) awake_c ?_
 rintro v M1 G1 hM1 rfl
 simp only [wpS, wpA, wpQL, push_cast, Int.cast_ofNat_Int, reduceIte, Nat.reduceEqDiff, reduceCtorEq, Nat.reduceAdd, Nat.reduceSub, Nat.reduceMul, Int.reduceToNat, Nat.reduceLeDiff]
 repeat' first
   | refine EV.seq ?_
   | refine EV.skip ?_
   | (refine EV.reg ?_; (conv => (arg 2; whnf)); (refine nx ?_; try with_reducible exact ⟨⟩))
   | (refine EV.condX rfl (fun h => ?_) (fun h => ?_) <;> try exact dead h)
   | ((first | with_reducible intro b | refine xrA rfl ?_ | fail); try (refine nx ?_; try with_reducible exact ⟨⟩))
   | (refine xw ?_; (refine nx ?_; try with_reducible exact ⟨⟩))
   | fail
 rename_i tb
 obtain ⟨pb, rfl⟩ : ∃ x, x = b := ⟨_, rfl⟩
 refine CallW.frzS [(pb, Cl 24 [.slice (some ⟨tb, 0, none⟩) 1 1]), (tb, Cl 31 [.slice oa ops.length oc])] ?_
 generalize hR : M1.add _ = N
 have hMN : M1.le N := hR ▸ PHeap.le_add _ _
 have hpb : rd N pb 0 1 [.slice (some ⟨tb, 0, none⟩) 1 1] := hR ▸ rd_at (T := 24) (cs := [.slice (some ⟨tb, 0, none⟩) 1 1]) (by simp) rfl (by simp)
 have hs : SlSl N 5 encOp (.slice (some ⟨tb, 0, none⟩) 1 1) [ops] := by
  refine ⟨some ⟨tb, 0, none⟩, 1, [.slice oa ops.length oc], rfl, rfl, hR ▸ .inr ⟨tb, 0, rfl, rd_at (T := 31) (cs := [.slice oa ops.length oc]) (by simp) rfl (by simp)⟩, fun i h1 h2 => ?_⟩
  have : i = 0 := by simp at h1; omega
  subst this
  exact ⟨oa, oc, rfl, hrd.mono (PHeap.le_trans hM1 hMN)⟩
 clear hR
 have hsz : Sized [ops] := ⟨by simp, fun l hl => by simp at hl; subst hl; omega⟩
 refine Con.callS (G1 := []) (ax_Outcomes_c [ops] _ hs hsz) ?_
 rintro v M2 G2 hM2 (⟨hne, rfl⟩ | ⟨hck, s1, outs1, rfl, ho1, hs1⟩)
 ·have hpb2 := hpb.mono hM2
  repeat' first
    | refine EV.seq ?_
    | (refine EV.reg ?_; (conv => (arg 2; whnf)); (refine nx ?_; try with_reducible exact ⟨⟩))
    | (refine Exists.intro _ (And.intro (rd_M (by assumption)) ?_); try (refine nx ?_; try with_reducible exact ⟨⟩))
    | fail
  refine Con.callS (G1 := []) (lm_Inter_c [ops] _ (hs.mono hM2) hsz) ?_
  rintro v M3 G3 hM3 (⟨_, rfl⟩ | ⟨hck, _⟩)
  ·have hli := fun G => r1_Lists_q (M := M3.add G) [] [] (.slice none 0 0) (.slice none 0 0) ⟨none, 0, [], rfl, rfl, .inl ⟨rfl, rfl⟩, fun i h => absurd h (Nat.not_lt_zero _)⟩ ⟨none, 0, [], rfl, rfl, .inl ⟨rfl, rfl⟩, fun i h => absurd h (Nat.not_lt_zero _)⟩ (by simp) (by simp) (fun _ h => nomatch h) (fun _ h => nomatch h)
   repeat' first
     | refine EV.seq ?_
     | (refine EV.reg ?_; (conv => (arg 2; whnf)); (refine nx ?_; try with_reducible exact ⟨⟩))
     | (refine ConQ.call (hli _) ?_; try (refine nx ?_; try with_reducible exact ⟨⟩))
     | with_reducible assumption
     | (refine condW.merge ?_ (fun hc K' hK => ?_) ?_; rotate_left)
     | fail
   refine EV.ret Q57_ok ?_
   simp only [wpS, wpA, wpQL, push_cast, Int.cast_ofNat_Int, reduceIte, Nat.reduceEqDiff, reduceCtorEq, Nat.reduceAdd, Nat.reduceSub, Nat.reduceMul, Int.reduceToNat, Nat.reduceLeDiff, Q57]
   simp
  ·exact absurd hck hne
 ·have hpb2 := hpb.mono hM2
  repeat' first
    | refine EV.seq ?_
    | (refine EV.reg ?_; (conv => (arg 2; whnf)); (refine nx ?_; try with_reducible exact ⟨⟩))
    | (refine Exists.intro _ (And.intro (rd_M (by assumption)) ?_); try (refine nx ?_; try with_reducible exact ⟨⟩))
    | fail
  refine Con.callS (G1 := []) (lm_Inter_c [ops] _ (hs.mono hM2) hsz) ?_
  rintro v M3 G3 hM3 (⟨hne, _⟩ | ⟨_, s2, outs2, rfl, _, hpw, hmem, hlen, hs2, hxl⟩)
  ·exact absurd hck hne
  have he : outs1 = outs2 := asc_uniq ho1.1 hpw fun x => by rw [outs_iff ho1, alone_out hck (Nat.le_refl _), hmem]
  subst he
  have hli := fun G => r1_Lists_q (M := M3.add G) outs1 outs1 s1 s2 ((hs1.sl.mono hM3).mono (PHeap.le_add _ _)) (hs2.sl.mono (PHeap.le_add _ _)) (by omega) (by omega) (fun x hx => by have := hxl x hx; omega) (fun x hx => by have := hxl x hx; omega)
  obtain ⟨a1, c1, vs1, rfl, _⟩ := hs1
  obtain ⟨a2, c2, vs2, rfl, _⟩ := hs2
  repeat' first
    | refine EV.seq ?_
    | (refine EV.reg ?_; (conv => (arg 2; whnf)); (refine nx ?_; try with_reducible exact ⟨⟩))
    | (refine ConQ.call (hli _) ?_; try (refine nx ?_; try with_reducible exact ⟨⟩))
    | with_reducible assumption
    | (refine condW.merge ?_ (fun hc K' hK => ?_) ?_; rotate_left)
    | fail
  refine EV.ret Q57_ok ?_
  simp only [wpS, wpA, wpQL, push_cast, Int.cast_ofNat_Int, reduceIte, Nat.reduceEqDiff, reduceCtorEq, Nat.reduceAdd, Nat.reduceSub, Nat.reduceMul, Int.reduceToNat, Nat.reduceLeDiff, Q57]
  simp

end
end Go.EV

namespace Go.Proofs.Ytmgnpoleilcjoaa.axiomAlone
open Go.ChangeShapes Go.WideShapes Go.ChangeAt Go.RowKit Go.EV
set_option linter.unusedVariables false

theorem own : ownKnob Try.prog.godebug = none := by kernel_rfl

set_option maxRecDepth 100000 in
theorem lifted (os : Os) (started : os.Started) (H : Type) (enc : TypeId × Value → H) :
  ReturnsInHanded {} Try.checked os 7 .any (Rows.axiomAloneSpec.pre6 enc Try.prog Try.f7 Rows.axiomAloneRow.domain false) (Rows.axiomAloneSpec.post enc Try.prog Try.f7 false true false false) := by
 refine returnsInHanded_of_change_shaped (C := Try.checked) own started (by kernel_rfl) Try.func7
  (ChangeSpec.witness6 (enc := enc) (C := Try.checked) false ⟨#[], #[.slice none 0 0], []⟩ 8 (by kernel_rfl) (by kernel_rfl) (by kernel_rfl) (by kernel_rfl)) ?_
 intro W base args ds gs before hval0 hW hcnd hwt _ _
 have hval : ∀ (j : Nat) t v, Try.f7.params[j]? = some t → args[j]? = some v → Value.okWide Try.prog W .any base t v := hval0
 have hW' := hW
 obtain ⟨p, q, hA0, hV, rfl, hfz, hnd⟩ := hW
 have hA : DataW.TrodAll enc Try.prog W 0 (fun _ => true) true Try.f7.params.toList args.toList ds p := hA0
 have hA1 := hA
 rw [Try.params7] at hA hval
 obtain ⟨v0, vs0, d0, ds0, p0, q0, hargs, rfl, rfl, h0, r0⟩ := trodAll_cons hA
 obtain ⟨rfl, rfl, rfl⟩ := trodAll_nil r0
 obtain rfl : args = #[v0] := by cases args; simp_all
 obtain ⟨rfl, rfl⟩ := trodVars_none hV
 have k0 := hval 0 31 v0 rfl rfl
 obtain ⟨a0, n0, c0, rfl⟩ := okWide_slice Try.underlying31 k0
 obtain ⟨m0, h0⟩ := h0
 have hwt2 : (DataW.weightsEach Try.prog [31] [d0]).all (· ≤ reachBytes) = true := hwt
 simp only [DataW.weightsEach, List.all_append, Bool.and_eq_true] at hwt2
 obtain ⟨hw0, _⟩ := hwt2
 obtain ⟨z, hz, hs, hb⟩ := ops_in rfl h0 hw0
 obtain ⟨zv, ops⟩ := z
 have hz2 : (Value.slice a0 n0 c0) = zv := by
  have hz3 : [Value.slice a0 n0 c0] = [zv] := hz
  exact (List.cons.inj hz3).1
 subst hz2
 have hrb : reachBytes ≤ 140737488355328 := by decide
 refine (Con.at2 (AxiomAlone_c ops _ hs (by dsimp only at hb; omega))).mono fun e W' hX => ?_
 obtain ⟨v, rfl, ⟨_, _, rfl⟩, hk, hfr⟩ := hX
 have hlt := hW'.lt
 exact ⟨_, rfl, post_of_kept (pv := []) hW' (fun _ _ _ => (trodAll_cons_mk (shut_bool Try.underlying4 _) trodAll_mk0)) (fun sp hsp => trodAll_kept kids rows_pos' hfr (by rw [Try.params7]; exact of_decide_eq_true (by kernel_rfl)) hA1 (fun r hr => hlt r (by simpa using hr)) (fun r hr => hsp r (by simpa using hr))) (fun _ _ => rfl) rfl hk⟩

theorem over : Rows.axiomAloneRow.holds Try.pinned (OpenSpec.ofChange Rows.axiomAloneSpec) :=
 OpenClaim.holds_of_wide 7 Try.f7 rfl rfl rfl rfl rfl rfl rfl ⟨rfl, rfl, rfl, rfl, rfl⟩ rfl rfl rfl rfl rfl (by kernel_rfl) Try.func7 (by kernel_rfl)
  (of_decide_eq_true (by kernel_rfl)) (by unfold Func.isWrapper; first | (rw [if_pos (by decide +kernel)]; kernel_rfl) | (rw [if_neg (by decide +kernel)]; exact ⟨rfl, rfl⟩))
  (fun os started H enc _ => lifted os started H enc)

/-- The statement. -/
theorem proved : Rows.AxiomAloneSaid :=
 over
#print axioms proved
end Go.Proofs.Ytmgnpoleilcjoaa.axiomAlone
