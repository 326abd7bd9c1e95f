/- Part of the proof of a statement about executions of litmus programs: walks and laws. -/
import Derived.AtR
import Derived.KernelRfl
import Derived.Laws.AppendOwn
import Derived.Lone
import Derived.RangeFuncRecord
import Derived.ChangeKeysEq
import Derived.Laws.Tables
import Derived.Laws.MakeOwn
import Derived.Lib.AppendZerosOnto
import Derived.Orders
set_option maxHeartbeats 8000000
set_option maxRecDepth 8000
set_option linter.unusedSimpArgs false
set_option linter.unusedVariables false
set_option linter.unusedSectionVars false
abbrev lA0 := @List.Sublist.refl
abbrev lA1 := @List.length_map
abbrev lA2 := @List.getElem?_eq_getElem
abbrev lA3 := @Option.bind_eq_some_iff
abbrev lA4 := @List.length_append
abbrev lA5 := @Nat.le_refl
abbrev lA6 := @Bool.and_eq_true
abbrev lA7 := @List.take_succ_eq_append_getElem
abbrev lA8 := @Nat.zero_le
abbrev lA9 := @List.sublist_append_of_sublist_right
abbrev lAa := @List.append_nil
abbrev lAb := @Exists.intro
abbrev lAc := @List.append_assoc
abbrev lAd := @And.intro
abbrev lAe := @List.nil_sublist
abbrev lAf := @List.Perm.refl
abbrev lAg := @List.Sublist.cons_cons
abbrev lAh := @List.sublist_append_left
abbrev lAi := @List.mem_singleton
abbrev lAj := @List.nil_append
abbrev lAk := @List.mem_map
abbrev lAl := @List.mem_range
abbrev lAm := @List.getElem_mem
abbrev lAn := @Option.getD_some
abbrev lAo := @List.Sublist.append_left
abbrev lAp := @List.cons_append
abbrev lAq := @List.Sublist.cons
abbrev lAr := @Bool.or_eq_true
abbrev lAs := @List.getElem_cons_succ
abbrev lAt := @List.getElem_cons_zero
abbrev lAu := @Nat.mul_one
abbrev lAv := @List.map_append
abbrev lAw := @List.take_of_length_le
abbrev lAx := @Nat.lt_of_lt_of_le
abbrev lAy := @Int.toNat_natCast
abbrev lAz := @List.all_eq_true
abbrev lB0 := @List.flatMap_append
abbrev lB1 := @List.mem_cons_self
abbrev lB2 := @List.take_length
abbrev lB3 := @List.length_cons
abbrev lB4 := @List.mem_flatMap
abbrev lB5 := @List.not_mem_nil
abbrev lB6 := @Bool.not_eq_true'
abbrev lB7 := @List.mem_append
abbrev lB8 := @Int.cast_ofNat_Int
abbrev lB9 := @Bool.not_false
abbrev lBa := @List.mem_cons_of_mem
abbrev lBb := @List.eraseIdx_cons_succ
abbrev lBc := @List.pairwise_iff_getElem
abbrev lBd := @Bool.not_true
abbrev lBe := @Decidable.byContradiction
abbrev lBf := @List.getElem_of_mem
abbrev lBg := @List.eraseIdx_cons_zero
abbrev lBh := @List.drop_eq_getElem_cons
abbrev lBi := @Nat.zero_add
abbrev lBj := @Bool.and_eq_false_iff
abbrev lBk := @Nat.pow_lt_pow_right
abbrev lBl := @List.length_set
abbrev lBm := @Nat.le_trans
abbrev lBn := @Nat.not_lt_zero
abbrev lBo := @List.nodup_append
abbrev lBp := @List.mem_cons
abbrev lBq := @Bool.or_eq_false_iff
abbrev lBr := @List.drop_zero
abbrev lBs := @List.forall_mem_cons
abbrev lBt := @List.perm_append_comm
abbrev lBu := @Array.getElem?_eq_some_iff
abbrev lBv := @List.nodup_iff_pairwise_ne
abbrev lBw := @Nat.mul_le_mul_right
abbrev lBx := @List.any_eq_true
abbrev lBy := @List.getElem?_replicate
abbrev lBz := @Array.getD_eq_getD_getElem?
abbrev lC0 := @Nat.min_eq_left
abbrev lC1 := @List.length_nil
abbrev lC2 := @List.flatMap_cons
abbrev lC3 := @List.insertIdx_succ_cons
abbrev lC4 := @List.length_take
abbrev lC5 := @Bool.true_and
abbrev lC6 := @List.length_eq_zero_iff
abbrev lC7 := @Classical.byContradiction
abbrev lC8 := @Bool.false_eq_true
abbrev lC9 := @Option.map_some
abbrev lCa := @List.flatMap_singleton
abbrev lCb := @List.mem_of_getElem?
abbrev lCc := @Bool.false_and
abbrev lCd := @List.length_singleton
abbrev lCe := @Bool.not_eq_false'
abbrev lCf := @List.nodup_nil
abbrev lCg := @Nat.pow_le_pow_right
abbrev lCh := @Nat.mod_eq_of_lt
abbrev lCi := @List.Perm.cons
abbrev lCj := @Nat.testBit_two_pow
abbrev lCk := @List.insertIdx_zero
abbrev lCl := @List.mem_singleton_self
abbrev lCm := @List.mem_filter
abbrev lCn := @List.getElem_append_right
abbrev lCo := @Nat.or_lt_two_pow
abbrev lCp := @List.filter_append
abbrev lCq := @List.getElem_append_left
abbrev lCr := @List.take_zero
abbrev lCs := @List.eraseIdx_eq_take_drop_succ
abbrev lCt := @List.drop_eq_nil_of_le
abbrev lCu := @List.nodup_cons
abbrev lCv := @List.getElem?_eq_some_iff
abbrev lCw := @List.drop_append_of_le_length
abbrev lCx := @List.take_append_of_le_length
abbrev lCy := @List.filter_cons
abbrev lCz := @List.take_set_of_le
abbrev lD0 := @List.flatten_cons
abbrev lD1 := @List.getElem?_eq_none
abbrev lD2 := @Nat.testBit_or
abbrev lD3 := @List.foldl_cons
abbrev lD4 := @Nat.two_pow_pos
abbrev lD5 := @BitVec.toNat_ofNat
abbrev lD6 := @List.mem_append_left
abbrev lD7 := @Int.natCast_zero
abbrev lD8 := @List.length_eraseIdx_of_lt
abbrev lD9 := @List.sublist_cons_self
abbrev lDa := @Nat.add_assoc
abbrev lDb := @List.take_take
abbrev lDc := @Nat.add_zero
abbrev lDd := @List.singleton_append
abbrev lDe := @List.length_replicate
abbrev lDf := @Int.natCast_add
abbrev lDg := @Int.natCast_one
abbrev lDh := @List.all_append
abbrev lDi := @List.range_succ
abbrev lDj := @List.getElem_set_self
abbrev lDk := @List.mem_append_right
abbrev lDl := @List.getElem_range
abbrev lDm := @List.pairwise_cons
abbrev lDn := @List.getElem_map
abbrev lDo := @List.all_eq_false
abbrev lDp := @List.pairwise_map
abbrev lDq := @Nat.add_mul
abbrev lDr := @Array.getElem?_append_left
abbrev lDs := @Int.fdiv_eq_ediv_of_nonneg
abbrev lDt := @List.length_drop
abbrev lDu := @List.flatMap_nil
abbrev lDv := @List.map_cons
abbrev lDw := @Bool.false_or
abbrev lDx := @List.take_append_drop
abbrev lDy := @List.length_filter_le
abbrev lDz := @List.map_replicate
abbrev lE0 := @List.map_singleton
abbrev lE1 := @List.getElem?_append_left
abbrev lE2 := @Nat.testBit_eq_decide_div_mod_eq
abbrev lE3 := @List.size_toArray
abbrev lE4 := @List.length_range
abbrev lE5 := @List.map_map
abbrev lE6 := @Nat.add_comm
abbrev lE7 := @List.flatten_append
abbrev lE8 := @List.replicate_succ
abbrev lE9 := @List.getElem?_cons_zero
abbrev lEa := @List.drop_succ_cons
abbrev lEb := @Int.eq_ofNat_of_zero_le
abbrev lEc := @List.ext_getElem
abbrev lEd := @List.mem_flatten
abbrev lEe := @List.mapM_cons
abbrev lEf := @Array.getElem?_setIfInBounds
abbrev lEg := @Nat.lt_of_le_of_lt
abbrev lEh := @Nat.succ_mul
abbrev lEi := @List.Perm.append_left
abbrev lEj := @List.foldl_append
abbrev lEk := @List.getElem_take
abbrev lEl := @Bool.eq_false_iff
abbrev lEm := @Bool.and_true
abbrev lEn := @List.getElem?_append_right
abbrev lEo := @List.drop_drop
abbrev lEp := @List.flatten_nil
abbrev lEq := @List.perm_middle
abbrev lEr := @Bool.not_eq_true
abbrev lEs := @List.take_succ_cons
abbrev lEt := @List.map_congr_left
abbrev lEu := @List.getElem?_cons_succ
abbrev lEv := @Nat.add_sub_cancel
abbrev lEw := @List.set_eq_take_append_cons_drop
abbrev lEx := @Nat.and_one_is_mod
abbrev lEy := @Option.isNone_some
abbrev lEz := @Bool.eq_iff_iff
abbrev lF0 := @Array.all_eq_true_iff_forall_mem
abbrev lF1 := @List.findIdx_lt_length
abbrev lF2 := @Nat.testBit_lt_two_pow
abbrev lF3 := @List.drop_of_length_le
abbrev lF4 := @Array.ext'
abbrev lF5 := @List.any_eq_false
abbrev lF6 := @List.foldl_nil
abbrev lF7 := @Bool.and_false
abbrev lF8 := @List.getElem?_toArray
abbrev lF9 := @Nat.sub_self
abbrev lFa := @List.eraseIdx_sublist
abbrev lFb := @List.drop_append
abbrev lFc := @BitVec.toNat_and
abbrev lFd := @List.range_eq_range'
abbrev lFe := @BitVec.ofInt_natCast
abbrev lFf := @List.flatten_flatten
abbrev lFg := @List.getElem_set_ne
abbrev lFh := @Nat.mul_eq_zero
abbrev lFi := @Nat.div_le_self
abbrev lFj := @Array.empty_append
abbrev lFk := @List.map_nil
abbrev lFl := @List.filter_filter
abbrev lFm := @Bool.false_ne_true
abbrev lFn := @Bool.or_false
abbrev lFo := @List.all_cons
namespace Go.EV
abbrev Aa := Nat → Obj → Prop
abbrev Own := List (Nat × Obj)
def Aa.le (M M' : Aa) : Prop := ∀ b o, M b o → M' b o
theorem Aa.le_refl (M : Aa) : M.le M := fun _ _ h => h
theorem Aa.le_trans {A B C : Aa} (h : A.le B) (k : B.le C) : A.le C := fun b o x => k b o (h b o x)
def Aa.add (M : Aa) (G : Own) : Aa := fun b o => M b o ∨ (b, o) ∈ G
theorem JB (M : Aa) (G : Own) : M.le (M.add G) := fun _ _ h => .inl h
abbrev Cl (T : TypeId) (cs : List Value) : Obj := .cells cs.toArray T (0, 0)
def rd (H : Aa) (b off n : Nat) (cs : List Value) : Prop :=
 ∃ c T fz, H b (.cells c T fz) ∧ off + n ≤ c.size ∧ cs = (c.toList.drop off).take n
theorem rd.mono {H H' : Aa} (h : H.le H') {b off n : Nat} {cs : List Value} (k : rd H b off n cs) : rd H' b off n cs := by
 obtain ⟨c, T, fz, h1, h2, h3⟩ := k
 exact ⟨c, T, fz, h _ _ h1, h2, h3⟩
theorem rd.length {H : Aa} {b off n : Nat} {cs : List Value} (k : rd H b off n cs) : cs.length = n := by
 obtain ⟨c, T, fz, h1, h2, h3⟩ := k
 subst h3
 simp
 omega
structure Tp (w w0 : World) : Prop where
 same : w.tape = w0.tape
 on : w0.drawn ≤ w.drawn
theorem Tp.refl (w : World) : Tp w w := ⟨rfl, lA5 _⟩
theorem Tp.trans {a b c : World} (h : Tp a b) (k : Tp b c) : Tp a c := ⟨h.same.trans k.same, lBm k.on h.on⟩
structure St (w0 : World) (F : List Nat) (M0 M : Aa) (G : Own) (w : World) : Prop where
 os : w.os = w0.os
 tape : Tp w w0
 output : w.output = w0.output
 size : w0.heap.size ≤ w.heap.size
 frame : ∀ b, b < w0.heap.size → b ∉ F → w.heap[b]? = w0.heap[b]?
 agree : ∀ b o, M b o → w.heap[b]? = some o
 own : ∀ p, p ∈ G → w.heap[p.1]? = some p.2
 sep : ∀ p, p ∈ G → ∀ o, ¬ M p.1 o
 new : ∀ p, p ∈ G → p.1 ∈ F ∨ w0.heap.size ≤ p.1
 nodup : (G.map (·.1)).Nodup
 base : M0.le M
 fresh : ∀ b o, M b o → M0 b o ∨ b ∈ F ∨ w0.heap.size ≤ b
theorem St.lt {w0 w : World} {F : List Nat} {M0 M : Aa} {G : Own} (h : St w0 F M0 M G w) {p : Nat × Obj} (hp : p ∈ G) : p.1 < w.heap.size :=
 (lBu.1 (h.own p hp)).1
theorem St.ltM {w0 w : World} {F : List Nat} {M0 M : Aa} {G : Own} (h : St w0 F M0 M G w) {b : Nat} {o : Obj} (hp : M b o) : b < w.heap.size :=
 (lBu.1 (h.agree b o hp)).1
theorem St.agreeAdd {w0 w : World} {F : List Nat} {M0 M : Aa} {G : Own} (h : St w0 F M0 M G w) {b : Nat} {o : Obj} (hp : M.add G b o) : w.heap[b]? = some o := by
 rcases hp with hp | hp
 ·exact h.agree b o hp
 ·exact h.own _ hp
theorem St.enter {w : World} {M : Aa} {G : Own} (ag : ∀ b o, M b o → w.heap[b]? = some o) (own : ∀ p, p ∈ G → w.heap[p.1]? = some p.2)
  (sep : ∀ p, p ∈ G → ∀ o, ¬ M p.1 o) (nd : (G.map (·.1)).Nodup) : St w (G.map (·.1)) M M G w :=
 ⟨rfl, Tp.refl _, rfl, lA5 _, fun _ _ _ => rfl, ag, own, sep, fun p hp => .inl (lAk.2 ⟨p, hp, rfl⟩), nd, Aa.le_refl _, fun _ _ h => .inl h⟩
theorem St.weaken {w0 w : World} {F : List Nat} {M0 M : Aa} {G G' : Own} (h : St w0 F M0 M G w) (hs : G'.Sublist G) : St w0 F M0 M G' w :=
 ⟨h.os, h.tape, h.output, h.size, h.frame, h.agree, fun p hp => h.own p (hs.subset hp), fun p hp => h.sep p (hs.subset hp), fun p hp => h.new p (hs.subset hp), h.nodup.sublist (hs.map _), h.base, h.fresh⟩
theorem St.perm {w0 w : World} {F : List Nat} {M0 M : Aa} {G G' : Own} (h : St w0 F M0 M G w) (hs : G.Perm G') : St w0 F M0 M G' w :=
 ⟨h.os, h.tape, h.output, h.size, h.frame, h.agree, fun p hp => h.own p (hs.symm.subset hp), fun p hp => h.sep p (hs.symm.subset hp), fun p hp => h.new p (hs.symm.subset hp), ((hs.map _).nodup_iff).1 h.nodup, h.base, h.fresh⟩
theorem St.alloc {w0 w : World} {F : List Nat} {M0 M : Aa} {G : Own} (h : St w0 F M0 M G w) (o : Obj) : St w0 F M0 M ((w.heap.size, o) :: G) (w.alloc o) := by
 have eV : ∀ k, k < w.heap.size → (w.alloc o).heap[k]? = w.heap[k]? := fun k hk => heap_alloc_old w o k hk
 refine ⟨h.os, ⟨h.tape.same, h.tape.on⟩, h.output, ?_, ?_, ?_, ?_, ?_, ?_, ?_, h.base, h.fresh⟩
 ·have := h.size; simp; omega
 ·intro b hb hf
  rw [eV b (lAx hb h.size)]
  exact h.frame b hb hf
 ·intro b o' hb
  rw [eV b (h.ltM hb)]
  exact h.agree b o' hb
 ·intro p hp
  rcases lBp.1 hp with rfl | hp
  ·exact heap_alloc_new w o
  ·rw [eV p.1 (h.lt hp)]
   exact h.own p hp
 ·intro p hp o' hm
  rcases lBp.1 hp with rfl | hp
  ·exact Nat.lt_irrefl _ (h.ltM hm)
  ·exact h.sep p hp o' hm
 ·intro p hp
  rcases lBp.1 hp with rfl | hp
  ·exact .inr h.size
  ·exact h.new p hp
 ·refine lCu.2 ⟨?_, h.nodup⟩
  intro hm
  obtain ⟨p, hp, e⟩ := lAk.1 hm
  have := h.lt hp
  simp at e
  omega
theorem St.drew {w0 w : World} {F : List Nat} {M0 M : Aa} {G : Own} (h : St w0 F M0 M G w) (n : Nat) (hn : w.drawn ≤ n) : St w0 F M0 M G { w with drawn := n } :=
 ⟨h.os, ⟨h.tape.same, lBm h.tape.on hn⟩, h.output, h.size, h.frame, h.agree, h.own, h.sep, h.new, h.nodup, h.base, h.fresh⟩
theorem Wf {G : Own} {i : Nat} {b : Nat} {o o' : Obj} (hi : G[i]? = some (b, o)) (hn : (G.map (·.1)).Nodup) {p : Nat × Obj} (hp : p ∈ G.set i (b, o')) :
  p = (b, o') ∨ (p ∈ G ∧ p.1 ≠ b) := by
 obtain ⟨aU, he⟩ := lCv.1 hi
 obtain ⟨j, hj, mG⟩ := lBf hp
 by_cases h : j = i
 ·subst h
  simp at mG
  exact .inl mG.symm
 ·rw [lFg (by omega)] at mG
  have aR : j < G.length := by simpa using hj
  refine .inr ⟨mG ▸ lAm _, ?_⟩
  intro e
  have h1 : (G.map (·.1))[j]'(by simpa using aR) = b := by simp [mG, e]
  have h2 : (G.map (·.1))[i]'(by simpa using aU) = b := by simp [he]
  have hp := lBc.1 hn
  rcases Nat.lt_or_gt_of_ne h with h' | h'
  ·exact hp j i (by simpa using aR) (by simpa using aU) h' (h1.trans h2.symm)
  ·exact hp i j (by simpa using aU) (by simpa using aR) h' (h2.trans h1.symm)
theorem Wg (G : Own) (i b : Nat) (o o' : Obj) (hi : G[i]? = some (b, o)) : (G.set i (b, o')).map (·.1) = G.map (·.1) := by
 obtain ⟨aU, he⟩ := lCv.1 hi
 apply lEc (by simp)
 intro j h1 h2
 simp only [lDn, List.getElem_set]
 split
 ·rename_i h
  subst h
  simp [he]
 ·rfl
theorem St.put {w0 w w' : World} {F : List Nat} {M0 M : Aa} {G : Own} (h : St w0 F M0 M G w) {i b : Nat} {o o' : Obj} (hi : G[i]? = some (b, o))
  (h1 : w'.os = w.os) (h2 : Tp w' w) (h3 : w'.output = w.output) (h4 : w'.heap.size = w.heap.size) (h5 : ∀ k, k ≠ b → w'.heap[k]? = w.heap[k]?) (h6 : w'.heap[b]? = some o') :
  St w0 F M0 M (G.set i (b, o')) w' := by
 have aJ : (b, o) ∈ G := lCb hi
 refine ⟨h1.trans h.os, h2.trans h.tape, h3.trans h.output, by rw [h4]; exact h.size, ?_, ?_, ?_, ?_, ?_, ?_, h.base, h.fresh⟩
 ·intro k hk hf
  rw [h5 k ?_]
  ·exact h.frame k hk hf
  ·rintro rfl
   rcases h.new _ aJ with h' | h'
   ·exact hf h'
   ·simp at h'; omega
 ·intro k o'' hk
  rw [h5 k ?_]
  ·exact h.agree k o'' hk
  ·rintro rfl
   exact h.sep _ aJ o'' hk
 ·intro p hp
  rcases Wf hi h.nodup hp with rfl | ⟨hp, hne⟩
  ·exact h6
  ·rw [h5 _ hne]
   exact h.own p hp
 ·intro p hp
  rcases Wf hi h.nodup hp with rfl | ⟨hp, _⟩
  ·exact h.sep (b, o) aJ
  ·exact h.sep p hp
 ·intro p hp
  rcases Wf hi h.nodup hp with rfl | ⟨hp, _⟩
  ·exact h.new (b, o) aJ
  ·exact h.new p hp
 ·rw [Wg G i b o o' hi]
  exact h.nodup
theorem St.freeze {w0 w : World} {F : List Nat} {M0 M : Aa} {G G' : Own} (h : St w0 F M0 M (G ++ G') w) : St w0 F M0 (M.add G) G' w := by
 have hnd := h.nodup
 rw [lAv] at hnd
 obtain ⟨n1, n2, n3⟩ := lBo.1 hnd
 refine ⟨h.os, h.tape, h.output, h.size, h.frame, ?_, fun p hp => h.own p (by simp [hp]), ?_, fun p hp => h.new p (by simp [hp]), n2, Aa.le_trans h.base (JB _ _), ?_⟩
 ·rintro b o (hb | hb)
  ·exact h.agree b o hb
  ·exact h.own (b, o) (by simp [hb])
 ·rintro p hp o (hb | hb)
  ·exact h.sep p (by simp [hp]) o hb
  ·exact n3 p.1 (lAk.2 ⟨_, hb, rfl⟩) p.1 (lAk.2 ⟨_, hp, rfl⟩) rfl
 ·rintro b o (hb | hb)
  ·exact h.fresh b o hb
  ·exact .inr (h.new (b, o) (by simp [hb]))
inductive A where
 | t (i : Nat)
 | c (v : Value)
abbrev Env := List (Nat × Value)
def get : Env → Nat → Option Value
 | [], _ => none
 | (j, v) :: ρ, i => if i = j then some v else get ρ i
def ev (ρ : Env) : A → Option Value
 | .t i => get ρ i
 | .c v => some v
def evs (ρ : Env) : List A → Option (List Value)
 | [] => some []
 | x :: l => match ev ρ x, evs ρ l with | some v, some vs => some (v :: vs) | _, _ => none
def evo (ρ : Env) : Option A → Option (Option Value)
 | none => some none
 | some x => (ev ρ x).map some
def Fc (nt : Nat) (ρ : Env) (a : Act) : Prop := a.tmps.size = nt ∧ ∀ t v, get ρ t = some v → a.tmps[t]? = some v
structure Cx (P : Program) where
 b : Frame
 T : List Frame → Machine → Prop
 back : ∀ {cs : List Frame} {m m' : Machine}, step P m = .next m' → T cs m' → T cs m
 nt : Nat
 ds : List Deferred
 w0 : World
 F : List Nat
 M0 : Aa
variable {P : Program}
abbrev Cx.St (C : Cx P) (M : Aa) (G : Own) (w : World) : Prop := EV.St C.w0 C.F C.M0 M G w
def An1 (P : Program) (f : FuncId) : Bool :=
 match P.funcs[f]? with
 | some fn => fn.body.isSome && fn.name != "runtime.NumGoroutine"
 | none => false
theorem H0 {f : FuncId} (h : An1 P f = true) (args : Array Value) (w : World) : (callFunc f args).run P w = .ok (.enter f args) w := by
 unfold An1 at h
 cases hf : P.funcs[f]? with
 | none => simp [hf] at h
 | some fn =>
  simp only [hf, lA6, bne_iff_ne, ne_eq] at h
  obtain ⟨h1, h2⟩ := h
  simp [callFunc, program, Sem.run, Bind.bind, Sem.bind, hf, h2, Pure.pure]
  intro h3
  simp [h3] at h1
def Rb (P : Program) (l : Nat) (f : FuncId) (tmps : Array Value) (asn bd : Code) (w : World) (X : Value → World → Prop) : Prop :=
 ∀ (c : Frame) (cs : List Frame), ∃ v w', X v w' ∧ Steps P (lone (Frame.round l f tmps asn bd .normal) (c :: cs) w) (lone (c.finish v) cs w')
theorem Rb.mono {l : Nat} {f : FuncId} {tmps : Array Value} {asn bd : Code} {w : World} {X Y : Value → World → Prop} (h : Rb P l f tmps asn bd w X) (hk : ∀ v w', X v w' → Y v w') : Rb P l f tmps asn bd w Y :=
 fun c cs => let ⟨v, w', h1, h2⟩ := h c cs; ⟨v, w', hk v w' h1, h2⟩
def Ip (P : Program) (o : Oper) (ρ : Operand → Value) (w : World) (X : Value → World → Prop) : Prop :=
 (∃ v w', (execOp ρ o).run P w = .ok (.value v) w' ∧ X v w') ∨
 (∃ w', (execOp ρ o).run P w = .ok .skip w' ∧ X undef w') ∨
 (∃ f args w', (execOp ρ o).run P w = .ok (.enter f args) w' ∧ Calls P f args w' fun e w'' => ∃ v, e = .returned v ∧ X v w'') ∨
 (∃ l f tmps asn bd w', (execOp ρ o).run P w = .ok (.round l f tmps asn bd) w' ∧ Rb P l f tmps asn bd w' X)
theorem Ip.mono {o : Oper} {ρ : Operand → Value} {w : World} {X Y : Value → World → Prop} (h : Ip P o ρ w X) (hk : ∀ v w', X v w' → Y v w') : Ip P o ρ w Y := by
 rcases h with ⟨v, w', h1, h2⟩ | ⟨w', h1, h2⟩ | ⟨f, args, w', h1, h2⟩ | ⟨l, f, tmps, asn, bd, w', h1, h2⟩
 ·exact .inl ⟨v, w', h1, hk _ _ h2⟩
 ·exact .inr (.inl ⟨w', h1, hk _ _ h2⟩)
 ·refine .inr (.inr (.inl ⟨f, args, w', h1, ?_⟩))
  intro cs
  obtain ⟨e, w'', fr, ⟨v, he, hx⟩, hs, hr⟩ := h2 cs
  exact ⟨e, w'', fr, ⟨v, he, hk _ _ hx⟩, hs, hr⟩
 ·exact .inr (.inr (.inr ⟨l, f, tmps, asn, bd, w', h1, h2.mono hk⟩))
theorem Km (C : Cx P) {ops : Array Oper} {i : Nat} {rest : List Nat} {k : List Item} {o : Oper} {a : Act} {w : World} {cs : List Frame}
  (ho : ops[i]? = some o) (hw : Region.wanted o (yielded ops a.tmps) = true) (hd : ∀ c, o.op ≠ .defer c)
  (h : Ip P o a.eval w fun v w' => C.T cs (lone (C.b.atR (a.put o.dst v) (.inRegion ops rest :: k)) cs w')) :
  C.T cs (lone (C.b.atR a (.inRegion ops (i :: rest) :: k)) cs w) := by
 have hg := stepGR_op (P := P) (b := C.b) (a := a) (k := k) (cs := cs) (w := w) (rest := rest) ho hw
 rw [Oper.semAt_eq _ _ _ hd] at hg
 have bR : ∀ v, (C.b.atR a (.inRegion ops (i :: rest) :: k)).finish v = C.b.atR (a.put o.dst v) (.inRegion ops rest :: k) := by
  intro v; rw [Frame.finish_atR, ho]; rfl
 have jf : ∀ (n : Nat) (m m' : Machine), runN P n m = .next m' → C.T cs m' → C.T cs m := by
  intro n
  induction n with
  | zero => intro m m' h1 h2; simp [runN] at h1; subst h1; exact h2
  | succ n ih =>
   intro m m' h1 h2
   simp only [runN] at h1
   cases aa : step P m with
   | next m1 => rw [aa] at h1; exact C.back aa (ih m1 m' h1 h2)
   | ended o w => rw [aa] at h1; simp at h1
 rcases h with ⟨v, w', h1, h2⟩ | ⟨w', h1, h2⟩ | ⟨f, args, w', h1, h2⟩ | ⟨l, f, tmps, asn, bd, w', h1, h2⟩
 ·refine C.back (step_lone_go ?_) h2
  rw [hg, ← bR]; simp [stepG.apply, h1]
 ·refine C.back (step_lone_go ?_) h2
  rw [hg, ← bR]; simp [stepG.apply, h1]
 ·obtain ⟨e, w'', fr, ⟨v, he, hx⟩, hs, bu, hl⟩ := h2 (C.b.atR a (.inRegion ops (i :: rest) :: k) :: cs)
  subst he
  have fP : step P (lone (C.b.atR a (.inRegion ops (i :: rest) :: k)) cs w) =
    .next (lone (Frame.enter P f args .normal) (C.b.atR a (.inRegion ops (i :: rest) :: k) :: cs) w') :=
   step_lone_go (by rw [hg]; simp [stepG.apply, h1, Frame.atR])
  refine C.back fP ?_
  obtain ⟨n, hn⟩ := hs
  refine jf n _ _ hn (C.back (step_leave_returned hl) ?_)
  rw [bR]; exact hx
 ·obtain ⟨v, w'', hx, hs⟩ := h2 (C.b.atR a (.inRegion ops (i :: rest) :: k)) cs
  have fP : step P (lone (C.b.atR a (.inRegion ops (i :: rest) :: k)) cs w) =
    .next (lone (Frame.round l f tmps asn bd .normal) (C.b.atR a (.inRegion ops (i :: rest) :: k) :: cs) w') :=
   step_lone_go (by rw [hg]; simp [stepG.apply, h1, Frame.atR])
  refine C.back fP ?_
  obtain ⟨n, hn⟩ := hs
  refine jf n _ _ hn ?_
  rw [bR]; exact hx
theorem Fc.put {nt : Nat} {ρ : Env} {a : Act} (h : Fc nt ρ a) (d : Nat) (hd : d < nt) (v : Value) : Fc nt ((d, v) :: ρ) (a.put (some d) v) := by
 refine ⟨by simp [Act.put, h.1], ?_⟩
 intro t u hu
 simp only [get] at hu
 simp only [Act.put]
 split at hu
 ·rename_i e
  subst e
  injection hu with hu
  subst hu
  simp [h.1, hd]
 ·rename_i e
  rw [lEf]
  rw [if_neg (by omega)]
  exact h.2 t u hu
theorem B6 (a : Act) (d : Option Nat) (v : Value) : (a.put d v).defers = a.defers := by cases d <;> rfl
theorem Fc.sub {nt : Nat} {ρ ρ' : Env} {a : Act} (h : Fc nt ρ a) (hs : ∀ t v, get ρ' t = some v → get ρ t = some v) : Fc nt ρ' a := ⟨h.1, fun t v ht => h.2 t v (hs t v ht)⟩
def cA : Operand → Option A
 | .tmp t => some (.t t)
 | .const v => some (.c v)
 | .func f => some (.c (.func (.func f) #[] #[]))
 | .global _ => none
theorem Am {nt : Nat} {ρ : Env} {a : Act} (h : Fc nt ρ a) {x : Operand} {y : A} (hx : cA x = some y) {v : Value} (hv : ev ρ y = some v) : a.eval x = v := by
 cases x with
 | tmp t =>
  simp [cA] at hx; subst hx
  have := h.2 t v hv
  simp [Act.eval, lBz, this]
 | const u => simp [cA] at hx; subst hx; simpa [ev, Act.eval] using hv
 | func f => simp [cA] at hx; subst hx; simpa [ev, Act.eval] using hv
 | global g => simp [cA] at hx
def cAs (l : List Operand) : Option (List A) := l.mapM cA
theorem X6 {nt : Nat} {ρ : Env} {a : Act} (h : Fc nt ρ a) : ∀ {l : List Operand} {m : List A}, cAs l = some m → ∀ {vs : List Value}, evs ρ m = some vs → l.map a.eval = vs
 | [], m, hl, vs, hv => by simp [cAs] at hl; subst hl; simp [evs] at hv; subst hv; rfl
 | x :: l, m, hl, vs, hv => by
  simp only [cAs, lEe] at hl
  cases h1 : cA x with
  | none => simp [h1] at hl
  | some y =>
   cases h2 : l.mapM cA with
   | none => simp [h1, h2] at hl
   | some ys =>
    simp [h1, h2] at hl
    subst hl
    simp only [evs] at hv
    cases h3 : ev ρ y with
    | none => simp [h3] at hv
    | some v =>
     cases h4 : evs ρ ys with
     | none => simp [h3, h4] at hv
     | some us =>
      simp [h3, h4] at hv
      subst hv
      simp only [lDv]
      rw [Am h h1 h3, X6 h h2 h4]
inductive LK where
 | i | b | s
 deriving DecidableEq
inductive ROp where
 | mv (x : A)
 | pick (c a b : A)
 | bin (op : BinOp) (x y : A)
 | eqb (neg : Bool) (x y : A)
 | eqp (neg : Bool) (x : A)
 | notb (x : A)
 | conv (k : IntKind) (x : A)
 | faddr (off : Nat) (x : A)
 | iaddrA (n sz : Nat) (x i : A)
 | iaddrS (sz : Nat) (x i : A)
 | nilck (x : A)
 | extract (k : Nat) (x : A)
 | fieldA (off sz : Nat) (x : A)
 | field1 (off : Nat) (x : A)
 | len (x : A)
 | lenT (x : A)
 | loadA (sz : Nat) (x : A)
 | loadI (k : IntKind) (x : A)
 | loadB (x : A)
 | loadS (x : A)
 | loadX (x : A)
 | store (sz : Nat) (x v : A)
 | box (T : Nat) (x : A)
 | alloc (T : Nat) (cs : List Value)
 | build (zero : List Value) (parts : List (Nat × Nat × A))
 | buildSl (T n : Nat) (zero : List Value) (parts : List (Nat × Nat × A))
 | mkfn (f : FuncId) (first caps : List A)
 | append (T sz by_ : Nat) (zero : List Value) (x y : A)
 | makeSl (T sz by_ : Nat) (zero : List Value) (x y : A)
 | slS (sz : Nat) (x : A) (lo hi mx : Option A)
 | slA (n sz : Nat) (x : A) (lo hi : Option A)
 | maxi (x y : A)
 | mini (x y : A)
 | eqS (neg : Bool) (x : A)
 | eqA (neg : Bool) (ks : List LK) (x y : A)
 | idx1 (n : Nat) (x i : A)
 | idxA (n sz : Nat) (x i : A)
 | cap (x : A)
 | copyO (sz : Nat) (x y : A)
 | appendZ (T sz by_ : Nat) (zero : List Value) (x y : A)
 | clearS (z : Value) (x : A)
 | ext (f : FuncId) (args : List A)
 | bad
 | call (f : FuncId) (args : List A)
 | callv (x : A) (args : List A)
 | raw (o : Oper)
def Rc : LK → Value → Value → Option Bool
 | .i, .int k a, .int k' b => if k = k' then some (decide (a = b)) else none
 | .b, .bool a, .bool b => some (a == b)
 | .s, .string a, .string b => some (a.toList == b.toList)
 | _, _, _ => none
def eqL : List LK → List Value → List Value → Option Bool
 | [], [], [] => some true
 | k :: ks, x :: xs, y :: ys => match Rc k x y, eqL ks xs ys with | some a, some b => some (a && b) | _, _ => none
 | _, _, _ => none
def onv {α : Type} (o : Option α) (k : α → Prop) : Prop :=
 match o with
 | some a => k a
 | none => False
theorem C2 {α : Type} (a : α) (k : α → Prop) : onv (some a) k = k a := rfl
theorem An2 {α : Type} (k : α → Prop) : onv none k = False := rfl
theorem Ab {α : Type} {o : Option α} {k : α → Prop} : onv o k ↔ ∃ a, o = some a ∧ k a := by cases o <;> simp [onv]
def Dl7 (op : BinOp) (k : IntKind) (x y : Int) : Option Value :=
 match op with
 | .add => some (.int k (k.wrap (x + y)))
 | .sub => some (.int k (k.wrap (x - y)))
 | .mul => some (.int k (k.wrap (x * y)))
 | .quo => if y = 0 then none else some (.int k (k.wrap (x.tdiv y)))
 | .rem => if y = 0 then none else some (.int k (x.tmod y))
 | .and => some (.int k (k.wrap (BitVec.ofInt k.bits x &&& BitVec.ofInt k.bits y).toNat))
 | .or => some (.int k (k.wrap (BitVec.ofInt k.bits x ||| BitVec.ofInt k.bits y).toNat))
 | .xor => some (.int k (k.wrap (BitVec.ofInt k.bits x ^^^ BitVec.ofInt k.bits y).toNat))
 | .andNot => some (.int k (k.wrap (BitVec.ofInt k.bits x &&& ~~~BitVec.ofInt k.bits y).toNat))
 | .eql => some (.bool (decide (x = y)))
 | .neq => some (.bool (!decide (x = y)))
 | .lss => some (.bool (decide (x < y)))
 | .leq => some (.bool (decide (x ≤ y)))
 | .gtr => some (.bool (decide (y < x)))
 | .geq => some (.bool (decide (y ≤ x)))
 | _ => none
def shV (op : BinOp) (k : IntKind) (x y : Int) : Option Value :=
 if y < 0 then none else
 match op with
 | .shl => some (.int k (k.wrap (x * 2 ^ (min y.toNat k.bits))))
 | .shr => some (.int k (x.fdiv (2 ^ (min y.toNat k.bits))))
 | _ => none
def Dl8 (op : BinOp) (x y : ByteArray) : Option Value :=
 match op with
 | .eql => some (.bool (x.toList == y.toList))
 | .neq => some (.bool !(x.toList == y.toList))
 | _ => none
def Bj2 (op : BinOp) : Value → Value → Option Value
 | .int k x, .int k' y => if op = .shl ∨ op = .shr then shV op k x y else if k = k' then Dl7 op k x y else none
 | .string x, .string y => Dl8 op x y
 | _, _ => none
abbrev pv (b off : Nat) : Value := .pointer (some ⟨b, off, none⟩)
def Wh : Value → Option (Nat × Nat)
 | .pointer (some ⟨b, off, none⟩) => some (b, off)
 | _ => none
def Di9 : Addr → Option (Nat × Nat)
 | ⟨b, off, none⟩ => some (b, off)
 | _ => none
def sl? : Value → Option (Option Addr × Nat × Nat)
 | .slice a n c => some (a, n, c)
 | _ => none
def Qf : Value → Option Int
 | .int _ n => some n
 | _ => none
def Jr : Value → Option Bool
 | .bool b => some b
 | _ => none
def An3 : Value → Option (List Value)
 | .agg cs => some cs.toList
 | _ => none
def Dj0 : Value → Option (List Value)
 | .tuple cs => some cs.toList
 | _ => none
def fn? : Value → Option (FuncId × Array Value × Array Value)
 | .func (.func f) first caps => some (f, first, caps)
 | _ => none
def Is (cs : List Value) (off : Nat) (vs : List Value) : List Value := cs.take off ++ vs ++ cs.drop (off + vs.length)
def ok1 (l : List Value) : Prop := ∀ v ∈ l, v.oneCell' = true
def evp (ρ : Env) : List (Nat × Nat × A) → Option (List (Nat × Nat × Value))
 | [] => some []
 | (o, s, x) :: l => match ev ρ x, evp ρ l with | some v, some vs => some ((o, s, v) :: vs) | _, _ => none
def Qg : List Value → List (Nat × Nat × Value) → Option (List Value)
 | cs, [] => some cs
 | cs, (off, sz, v) :: r => if v.cells.size = sz ∧ off + sz ≤ cs.length then Qg (Is cs off v.cells.toList) r else none
abbrev Vec := Option (Nat × Nat × List Value)
def oad : Vec → Option Addr
 | none => none
 | some (b, _, _) => some ⟨b, 0, none⟩
def Rd : Vec → Nat
 | none => 0
 | some (_, cap, _) => cap
abbrev osv (o : Vec) (n : Nat) : Value := .slice (oad o) n (Rd o)
theorem An4 : oad none = none := rfl
theorem Gh (b c : Nat) (l : List Value) : oad (some (b, c, l)) = some ⟨b, 0, none⟩ := rfl
theorem Ad3 : Rd none = 0 := rfl
theorem E3 (b c : Nat) (l : List Value) : Rd (some (b, c, l)) = c := rfl
def osg (T : TypeId) : Vec → List Value → Own
 | none, _ => []
 | some (b, _, sp), xs => [(b, Cl T (xs ++ sp))]
def Ey (sz : Nat) : Vec → Nat → List Value → Prop
 | none, n, xs => n = 0 ∧ xs = []
 | some (_, cap, sp), n, xs => xs.length = n * sz ∧ (xs ++ sp).length = cap * sz ∧ n ≤ cap ∧ cap ≤ maxLen
def rdS (H : Aa) (sz : Nat) (a : Option Addr) (n : Nat) (cs : List Value) : Prop :=
 (n * sz = 0 ∧ cs = []) ∨ ∃ b off, a = some ⟨b, off, none⟩ ∧ rd H b off (n * sz) cs
def Av4 (ρ : Env) (M : Aa) (G : Own) (K : Value → Aa → Own → Prop) (T sz by_ : Nat) (x y : A) : Prop :=  onv (ev ρ x) fun x => onv (ev ρ y) fun y => onv (sl? y) fun s => ∃ news, rdS (M.add G) sz s.1 s.2.1 news ∧ ok1 news ∧
   ((∃ o n xs G', x = osv o n ∧ Ey sz o n xs ∧ G.Perm (osg T o xs ++ G') ∧ n + s.2.1 ≤ maxLen ∧ (n + s.2.1) * by_ ≤ 140737488355328 ∧
     ∀ o', Ey sz o' (n + s.2.1) (xs ++ news) → (o'.isNone = true ↔ o.isNone = true ∧ s.2.1 = 0) → K (osv o' (n + s.2.1)) M (osg T o' (xs ++ news) ++ G')) ∨
    (∃ a n c xs, x = .slice a n c ∧ rdS (M.add G) sz a n xs ∧ 0 < s.2.1 ∧ c < n + s.2.1 ∧ n + s.2.1 ≤ maxLen ∧ (n + s.2.1) * by_ ≤ 140737488355328 ∧
     ∀ b cap sp, Ey sz (some (b, cap, sp)) (n + s.2.1) (xs ++ news) → K (osv (some (b, cap, sp)) (n + s.2.1)) M (osg T (some (b, cap, sp)) (xs ++ news) ++ G)))
def De {P : Program} (C : Cx P) (f : FuncId) (args : Array Value) (M : Aa) (G : Own) (K : Value → Aa → Own → Prop) : Prop :=
 An1 P f = true ∧ ∀ w, C.St M G w → Calls P f args w fun e w' => ∃ v, e = .returned v ∧ ∃ M' G', C.St M' G' w' ∧ K v M' G'
def X7 : Value → Option Nat
 | .func (.yield l) first _ => if first.size = 0 then some l else none
 | _ => none
def Fx {P : Program} (C : Cx P) (l : Nat) (args : Array Value) (M : Aa) (G : Own) (K : Value → Aa → Own → Prop) : Prop :=
 ∀ w, C.St M G w → ∃ r : Loop, w.heap[l]? = some (.loop r) ∧ args.size = r.params.size ∧
  Rb P l r.fn ((r.params.zip args).foldl (fun tmps (t, a) => tmps.setIfInBounds t a) r.tmps) r.assign r.body w fun v w' => ∃ M' G', C.St M' G' w' ∧ K v M' G'
def opW {P : Program} (C : Cx P) (ρ : Env) (M : Aa) (G : Own) (K : Value → Aa → Own → Prop) : ROp → Prop
 | .mv x => onv (ev ρ x) fun v => K v M G
 | .pick c a b => onv (ev ρ c) fun c => onv (Jr c) fun c => onv (if c then ev ρ a else ev ρ b) fun v => K v M G
 | .bin op x y => onv (ev ρ x) fun x => onv (ev ρ y) fun y => onv (Bj2 op x y) fun v => K v M G
 | .eqb neg x y => onv (ev ρ x) fun x => onv (ev ρ y) fun y => onv (Jr x) fun x => onv (Jr y) fun y => K (.bool (xor neg (x == y))) M G
 | .eqp neg x => onv (ev ρ x) fun x => match x with | .pointer a => K (.bool (xor neg a.isNone)) M G | _ => False
 | .notb x => onv (ev ρ x) fun x => onv (Jr x) fun b => K (.bool !b) M G
 | .conv k x => onv (ev ρ x) fun x => onv (Qf x) fun n => K (.int k (k.wrap n)) M G
 | .faddr off x => onv (ev ρ x) fun x => onv (Wh x) fun p => K (pv p.1 (p.2 + off)) M G
 | .iaddrA n sz x i => onv (ev ρ x) fun x => onv (ev ρ i) fun i => onv (Wh x) fun p => onv (Qf i) fun j => 0 ≤ j ∧ j < (n : Int) ∧ K (pv p.1 (p.2 + j.toNat * sz)) M G
 | .iaddrS sz x i => onv (ev ρ x) fun x => onv (ev ρ i) fun i => onv (sl? x) fun s => onv (Qf i) fun j =>
   onv s.1 fun ad => onv (Di9 ad) fun p => 0 ≤ j ∧ j < (s.2.1 : Int) ∧ K (pv p.1 (p.2 + j.toNat * sz)) M G
 | .nilck x => onv (ev ρ x) fun x => onv (Wh x) fun _ => K x M G
 | .extract k x => onv (ev ρ x) fun x => onv (Dj0 x) fun l => onv l[k]? fun v => K v M G
 | .fieldA off sz x => onv (ev ρ x) fun x => onv (An3 x) fun l => K (.agg ((l.drop off).take sz).toArray) M G
 | .field1 off x => onv (ev ρ x) fun x => onv (An3 x) fun l => onv l[off]? fun v => K v M G
 | .len x => onv (ev ρ x) fun x => onv (sl? x) fun s => K (.int .i64 s.2.1) M G
 | .lenT x => onv (ev ρ x) fun x => match x with | .string s => K (.int .i64 s.size) M G | _ => False
 | .loadA sz x => onv (ev ρ x) fun x => onv (Wh x) fun p => ∃ cs, rd (M.add G) p.1 p.2 sz cs ∧ K (.agg cs.toArray) M G
 | .loadI k x => onv (ev ρ x) fun x => onv (Wh x) fun p => ∃ n, rd (M.add G) p.1 p.2 1 [.int k n] ∧ K (.int k n) M G
 | .loadB x => onv (ev ρ x) fun x => onv (Wh x) fun p => ∃ b, rd (M.add G) p.1 p.2 1 [.bool b] ∧ K (.bool b) M G
 | .loadS x => onv (ev ρ x) fun x => onv (Wh x) fun p => ∃ a n c, rd (M.add G) p.1 p.2 1 [.slice a n c] ∧ K (.slice a n c) M G
 | .loadX x => onv (ev ρ x) fun x => onv (Wh x) fun p => ∃ v, rd (M.add G) p.1 p.2 1 [v] ∧ K v M G
 | .store sz x v => onv (ev ρ x) fun x => onv (ev ρ v) fun u => onv (Wh x) fun p =>
   ∃ T cs Ga Gb, G = Ga ++ (p.1, Cl T cs) :: Gb ∧ p.2 + sz ≤ cs.length ∧ u.cells.size = sz ∧ ok1 u.cells.toList ∧ K undef M (Ga ++ (p.1, Cl T (Is cs p.2 u.cells.toList)) :: Gb)
 | .box T x => onv (ev ρ x) fun u => ∀ b, K (pv b 0) M ((b, Cl T u.cells.toList) :: G)
 | .alloc T cs => ∀ b, K (pv b 0) M ((b, Cl T cs) :: G)
 | .build zero parts => onv (evp ρ parts) fun ps => onv (Qg zero ps) fun cs => K (.agg cs.toArray) M G
 | .buildSl T n zero parts => onv (evp ρ parts) fun ps => onv (Qg zero ps) fun cs => ∀ b, K (.slice (some ⟨b, 0, none⟩) n n) M ((b, Cl T cs) :: G)
 | .mkfn f first caps => onv (evs ρ first) fun fs => onv (evs ρ caps) fun cs => K (.func (.func f) fs.toArray cs.toArray) M G
 | .append T sz by_ _ x y => onv (ev ρ x) fun x => onv (ev ρ y) fun y => onv (sl? y) fun s => ∃ news, rdS (M.add G) sz s.1 s.2.1 news ∧ ok1 news ∧
   ((∃ o n xs G', x = osv o n ∧ Ey sz o n xs ∧ G.Perm (osg T o xs ++ G') ∧ n + s.2.1 ≤ maxLen ∧ (n + s.2.1) * by_ ≤ 140737488355328 ∧
     ∀ o', Ey sz o' (n + s.2.1) (xs ++ news) → (o'.isNone = true ↔ o.isNone = true ∧ s.2.1 = 0) → K (osv o' (n + s.2.1)) M (G' ++ osg T o' (xs ++ news))) ∨
    (∃ a n c xs, x = .slice a n c ∧ rdS (M.add G) sz a n xs ∧ 0 < s.2.1 ∧ c < n + s.2.1 ∧ n + s.2.1 ≤ maxLen ∧ (n + s.2.1) * by_ ≤ 140737488355328 ∧
     ∀ b cap sp, Ey sz (some (b, cap, sp)) (n + s.2.1) (xs ++ news) → K (osv (some (b, cap, sp)) (n + s.2.1)) M (G ++ osg T (some (b, cap, sp)) (xs ++ news))))
 | .makeSl T sz by_ zero x y => onv (ev ρ x) fun x => onv (ev ρ y) fun y => onv (Qf x) fun n => onv (Qf y) fun c =>
   0 ≤ n ∧ n ≤ c ∧ c ≤ 140737488355328 ∧ c * by_ ≤ 140737488355328 ∧ ∀ b, K (.slice (some ⟨b, 0, none⟩) n.toNat c.toNat) M ((b, Cl T (List.replicate c.toNat zero).flatten) :: G)
 | .slS sz x lo hi mx => onv (ev ρ x) fun x => onv (evo ρ lo) fun lo => onv (evo ρ hi) fun hi => onv (evo ρ mx) fun mx => onv (sl? x) fun s =>
   ∃ l h m : Nat, (match lo with | none => l = 0 | some v => Qf v = some (l : Int)) ∧ (match hi with | none => h = s.2.1 | some v => Qf v = some (h : Int)) ∧ (match mx with | none => m = s.2.2 | some v => Qf v = some (m : Int)) ∧
    l ≤ h ∧ h ≤ m ∧ m ≤ s.2.2 ∧ (hi.isSome = true ∨ mx.isNone = true) ∧ K (.slice (if m = l then s.1 else s.1.map (·.add (l * sz))) (h - l) (m - l)) M G
 | .slA n sz x lo hi => onv (ev ρ x) fun x => onv (evo ρ lo) fun lo => onv (evo ρ hi) fun hi => onv (Wh x) fun p =>
   ∃ l h : Nat, (match lo with | none => l = 0 | some v => Qf v = some (l : Int)) ∧ (match hi with | none => h = n | some v => Qf v = some (h : Int)) ∧
    l ≤ h ∧ h ≤ n ∧ K (.slice (some ⟨p.1, if n = l then p.2 else p.2 + l * sz, none⟩) (h - l) (n - l)) M G
 | .maxi x y => onv (ev ρ x) fun x => onv (ev ρ y) fun y => match x, y with | .int k a, .int _ b => K (.int k (if b > a then b else a)) M G | _, _ => False
 | .mini x y => onv (ev ρ x) fun x => onv (ev ρ y) fun y => match x, y with | .int k a, .int _ b => K (.int k (if b < a then b else a)) M G | _, _ => False
 | .eqS neg x => onv (ev ρ x) fun x => onv (sl? x) fun s => K (.bool (xor neg s.1.isNone)) M G
 | .eqA neg ks x y => onv (ev ρ x) fun x => onv (ev ρ y) fun y => onv (An3 x) fun xs => onv (An3 y) fun ys => onv (eqL ks xs ys) fun r => K (.bool (xor neg r)) M G
 | .idx1 n x i => onv (ev ρ x) fun x => onv (ev ρ i) fun i => onv (An3 x) fun l => onv (Qf i) fun j => 0 ≤ j ∧ j < (n : Int) ∧ onv l[j.toNat]? fun v => K v M G
 | .idxA n sz x i => onv (ev ρ x) fun x => onv (ev ρ i) fun i => onv (An3 x) fun l => onv (Qf i) fun j => 0 ≤ j ∧ j < (n : Int) ∧ K (.agg ((l.drop (j.toNat * sz)).take sz).toArray) M G
 | .cap x => onv (ev ρ x) fun x => onv (sl? x) fun s => K (.int .i64 s.2.2) M G
 | .copyO sz x y => onv (ev ρ x) fun x => onv (ev ρ y) fun y => onv (sl? x) fun d => onv (sl? y) fun s => ∃ news, rdS (M.add G) sz s.1 s.2.1 news ∧ ok1 (news.take (min s.2.1 d.2.1 * sz)) ∧
   ((min s.2.1 d.2.1 * sz = 0 ∧ K (.int .i64 (min s.2.1 d.2.1 : Nat)) M G) ∨
    ∃ b off T cs Ga Gb, d.1 = some ⟨b, off, none⟩ ∧ G = Ga ++ (b, Cl T cs) :: Gb ∧ off + min s.2.1 d.2.1 * sz ≤ cs.length ∧ K (.int .i64 (min s.2.1 d.2.1 : Nat)) M (Ga ++ (b, Cl T (Is cs off (news.take (min s.2.1 d.2.1 * sz)))) :: Gb))
 | .appendZ T sz by_ zero x y => onv (ev ρ x) fun x => onv (ev ρ y) fun y => onv (sl? x) fun s => onv (Qf y) fun j => ∃ xs, rdS (M.add G) sz s.1 s.2.1 xs ∧ 0 < j ∧ s.2.2 < s.2.1 + j.toNat ∧ s.2.1 + j.toNat ≤ maxLen ∧ (s.2.1 + j.toNat) * by_ ≤ 140737488355328 ∧
   ∀ b cap sp, Ey sz (some (b, cap, sp)) (s.2.1 + j.toNat) (xs ++ (List.replicate j.toNat zero).flatten) → K (osv (some (b, cap, sp)) (s.2.1 + j.toNat)) M (G ++ osg T (some (b, cap, sp)) (xs ++ (List.replicate j.toNat zero).flatten))
 | .clearS z x => onv (ev ρ x) fun x => onv (sl? x) fun s => (s.2.1 = 0 ∧ K (.tuple #[]) M G) ∨
   ∃ b off T cs Ga Gb, s.1 = some ⟨b, off, none⟩ ∧ 0 < s.2.1 ∧ G = Ga ++ (b, Cl T cs) :: Gb ∧ off + s.2.1 ≤ cs.length ∧ K (.tuple #[]) M (Ga ++ (b, Cl T (Is cs off (List.replicate s.2.1 z))) :: Gb)
 | .ext f args => onv (evs ρ args) fun vs => ∃ v, (∀ w, C.St M G w → ∃ w', (callFunc f vs.toArray).run P w = .ok (.value v) w' ∧ w'.os = w.os ∧ Tp w' w ∧ w'.output = w.output ∧ w'.heap = w.heap) ∧ K v M G
 | .bad => False
 | .call f args => onv (evs ρ args) fun vs => De C f vs.toArray M G K
 | .callv x args => onv (ev ρ x) fun fv => match X7 fv with
  | some l => onv (evs ρ args) fun vs => Fx C l vs.toArray M G K
  | none => onv (fn? fv) fun g => onv (evs ρ args) fun vs => De C g.1 (g.2.1 ++ vs.toArray ++ g.2.2) M G K
 | .raw o => ∃ v, (∀ a, Fc C.nt ρ a → ∀ w, C.St M G w → (execOp a.eval o).run P w = .ok (.value v) w) ∧ K v M G
variable {P : Program}
def Of (P : Program) (t : TypeId) : Option Bool :=
 match P.underlying t with
 | some (.struct _) | some (.array ..) => some true
 | some _ => some false
 | none => none
theorem Dw {t : TypeId} {b : Bool} (h : Of P t = some b) (w : World) : (isAgg t).run P w = .ok b w := by
 unfold Of at h
 cases hu : P.underlying t with
 | none => simp [hu] at h
 | some d =>
  simp only [hu] at h
  simp only [isAgg, underlying, program, Bind.bind, Sem.bind, Sem.run, hu, Pure.pure]
  cases d <;> simp_all [Sem.run]
theorem Bl {t : TypeId} {n : Nat} (h : (P.info? t).map (·.size) = some n) (w : World) : (sizeOf t).run P w = .ok n w := by
 cases hi : P.info? t with
 | none => simp [hi] at h
 | some i =>
  simp [hi] at h
  simp [sizeOf, typeInfo, program, Bind.bind, Sem.bind, Sem.run, hi, Pure.pure, h]
theorem Ko {t : TypeId} {v : Value} (h : (P.info? t).bind (·.zero) = some v) (w : World) : (zeroValue t).run P w = .ok v w := by
 cases hi : P.info? t with
 | none => simp [hi] at h
 | some i =>
  simp [hi] at h
  simp [zeroValue, typeInfo, program, Bind.bind, Sem.bind, Sem.run, hi, Pure.pure, h]
theorem Ad {α β : Type} {s : Sem α} {f : α → Sem β} {w w' : World} {a : α} (h : s.run P w = .ok a w') : (s >>= f).run P w = (f a).run P w' := by
 show (Sem.bind s f).run P w = _
 rw [Sem.run_bind' P s f w, h]
 rfl
theorem Sm {a : Addr} {v : Value} {w : World} (h : w.cell? a = some v) : (load a).run P w = .ok v w := by
 simp [load, Sem.run, h]
theorem Fe (b off n : Nat) : (⟨b, off, none⟩ : Addr).add n = ⟨b, off + n, none⟩ := by
 unfold Addr.add; split
 ·simp_all
 ·rfl
theorem Ff {w : World} {b : Nat} {c : Array Value} {T : TypeId} {fz : Nat × Nat} (h : w.heap[b]? = some (.cells c T fz)) (off : Nat) : w.cell? ⟨b, off, none⟩ = c[off]? := by
 simp [World.cell?, h]
theorem Hi {w : World} {b : Nat} {c : Array Value} {T : TypeId} {fz : Nat × Nat} (h : w.heap[b]? = some (.cells c T fz)) (off : Nat) :
  ∀ (n i : Nat) (acc : Array Value), off + i + n ≤ c.size → (loadCellsFrom ⟨b, off, none⟩ i n acc).run P w = .ok (acc ++ ((c.toList.drop (off + i)).take n).toArray) w
 | 0, i, acc, _ => by simp [loadCellsFrom, Pure.pure]
 | n + 1, i, acc, hn => by
  have aU : off + i < c.size := by omega
  unfold loadCellsFrom
  rw [Ad (Sm (v := c[off + i]) (by rw [Fe, Ff h]; exact Array.getElem?_eq_getElem aU))]
  rw [Hi h off n (i + 1) _ (by omega)]
  congr 1
  have hd : c.toList.drop (off + i) = c[off + i] :: c.toList.drop (off + (i + 1)) := by
   rw [lBh (by simpa using aU)]
   simp [lDa]
  rw [hd]
  simp
theorem H1 {w : World} {H : Aa} (ag : ∀ b o, H b o → w.heap[b]? = some o) {b off n : Nat} {cs : List Value} (h : rd H b off n cs) :
  (loadCells ⟨b, off, none⟩ n).run P w = .ok cs.toArray w := by
 obtain ⟨c, T, fz, h1, h2, h3⟩ := h
 have := Hi (P := P) (ag _ _ h1) off n 0 #[] (by omega)
 subst h3
 simpa [loadCells] using this
theorem Ar3 {w : World} {H : Aa} (ag : ∀ b o, H b o → w.heap[b]? = some o) {b off : Nat} {v : Value} (h : rd H b off 1 [v]) : w.cell? ⟨b, off, none⟩ = some v := by
 obtain ⟨c, T, fz, h1, h2, h3⟩ := h
 rw [Ff (ag _ _ h1)]
 have aU : off < c.size := by omega
 rw [lBh (by simpa using aU)] at h3
 simp at h3
 rw [Array.getElem?_eq_getElem aU, h3]
theorem Gw {g o : Nat} {t : TypeId} {vs cur : List Value} {w : World} (hg : w.heap[g]? = some (Cl t cur)) (hf : o + vs.length ≤ cur.length) (h1 : ok1 vs) :
  ∃ w', (storeCells ⟨g, o, none⟩ vs).run P w = .ok () w' ∧ w'.os = w.os ∧ Tp w' w ∧ w'.output = w.output ∧ w'.heap.size = w.heap.size ∧ (∀ k, k ≠ g → w'.heap[k]? = w.heap[k]?) ∧ w'.heap[g]? = some (Cl t (Is cur o vs)) := by
 have := run_storeCells_at P g o t vs 0 cur.toArray w hg (by simpa using hf) h1
 simp only [lDc] at this
 refine ⟨_, this, rfl, ⟨rfl, lA5 _⟩, rfl, by simp, fun k hk => setRow_other w g k _ hk, ?_⟩
 rw [setRow_heap w g cur.toArray _ t _ hg]
 simp [Is]
theorem Ip.value {o : Oper} {ρ : Operand → Value} {w w' : World} {X : Value → World → Prop} {v : Value} (h : (execOp ρ o).run P w = .ok (.value v) w') (hx : X v w') : Ip P o ρ w X := .inl ⟨v, w', h, hx⟩
theorem Ip.skip {o : Oper} {ρ : Operand → Value} {w w' : World} {X : Value → World → Prop} (h : (execOp ρ o).run P w = .ok .skip w') (hx : X undef w') : Ip P o ρ w X := .inr (.inl ⟨w', h, hx⟩)
variable {P : Program}
def cAo : Option Operand → Option (Option A)
 | none => some none
 | some x => (cA x).map some
def Ua (P : Program) (fs : Array Field) : List (Nat × Operand) → Option (List (Nat × Nat × A))
 | [] => some []
 | (i, x) :: l => match fs[i]? with
  | none => none
  | some f => match P.info? f.type, cA x, Ua P fs l with
   | some t, some x', some l' => some ((f.offset, t.size, x') :: l')
   | _, _, _ => none
def Og (sz : Nat) : List (Nat × Operand) → Option (List (Nat × Nat × A))
 | [] => some []
 | (i, x) :: l => match cA x, Og sz l with
  | some x', some l' => some ((i * sz, sz, x') :: l')
  | _, _ => none
def Ub (P : Program) (t : TypeId) : Option LK :=
 match P.underlying t with
 | some (.int _) => some .i
 | some .bool => some .b
 | some .string => some .s
 | _ => none
def Ad4 (P : Program) : Nat → List Field → Option (List LK)
 | _, [] => some []
 | i, f :: fs => if f.name ≠ "_" ∧ f.offset = i then match Ub P f.type, Ad4 P (i + 1) fs with | some k, some ks => some (k :: ks) | _, _ => none else none
def Bj3 (P : Program) (t : TypeId) : Option (List LK) :=
 match P.underlying t with
 | some (.struct fs) => if (!P.stoodInHeld t && !P.eqGuardType P.depth t) = true then Ad4 P 0 fs.toList else none
 | some (.array n e) => if (decide ((P.info? e).map (·.size) = some 1) && !P.eqGuardType P.depth t) = true then (Ub P e).map (List.replicate n) else none
 | _ => none
inductive Cmp (P : Program) (o : Oper) : ROp → Prop
 | mv {x : Operand} {x' : A} (h : o.op = .move x ∨ o.op = .assign x) (hx : cA x = some x') : Cmp P o (.mv x')
 | pick {c a b : Operand} {c' a' b' : A} (h : o.op = .pick c a b) (hc : cA c = some c') (ha : cA a = some a') (hb : cA b = some b') : Cmp P o (.pick c' a' b')
 | bin {op : BinOp} {t u : TypeId} {x y : Operand} {x' y' : A} (h : o.op = .binOp op t x y u) (hx : cA x = some x') (hy : cA y = some y') : Cmp P o (.bin op x' y')
 | eqb {neg : Bool} {t u : TypeId} {x y : Operand} {x' y' : A} (h : o.op = .binOp (if neg then .neq else .eql) t x y u) (hu : P.underlying t = some .bool) (hx : cA x = some x') (hy : cA y = some y') : Cmp P o (.eqb neg x' y')
 | eqp {neg : Bool} {t u e : TypeId} {x : Operand} {x' : A} (h : o.op = .binOp (if neg then .neq else .eql) t x (.const (.pointer none)) u) (hu : P.underlying t = some (.pointer e)) (hx : cA x = some x') : Cmp P o (.eqp neg x')
 | notb {t : TypeId} {x : Operand} {x' : A} (h : o.op = .unOp .not t x) (hx : cA x = some x') : Cmp P o (.notb x')
 | conv {src dst : TypeId} {x : Operand} {x' : A} {k : IntKind} {d : TypeDesc} (h : o.op = .convert src dst x) (hx : cA x = some x') (hs : P.underlying src = some d) (hd : P.underlying dst = some (.int k)) : Cmp P o (.conv k x')
 | faddr {s : TypeId} {x : Operand} {x' : A} {f n : Nat} {fs : Array Field} {fl : Field} (h : o.op = .fieldAddr s x f) (hx : cA x = some x') (hu : P.underlying s = some (.struct fs)) (hf : fs[f]? = some fl)
   (hs : (P.info? fl.type).map (·.size) = some (n + 1)) : Cmp P o (.faddr fl.offset x')
 | iaddrA {t e : TypeId} {x i : Operand} {x' i' : A} {n sz : Nat} (h : o.op = .indexAddr t x i) (hx : cA x = some x') (hi : cA i = some i') (hu : P.underlying t = some (.array n e)) (hs : (P.info? e).map (·.size) = some sz) : Cmp P o (.iaddrA n sz x' i')
 | iaddrS {t e : TypeId} {x i : Operand} {x' i' : A} {sz : Nat} (h : o.op = .indexAddr t x i) (hx : cA x = some x') (hi : cA i = some i') (hu : P.underlying t = some (.slice e)) (hs : (P.info? e).map (·.size) = some sz) : Cmp P o (.iaddrS sz x' i')
 | nilck {x : Operand} {x' : A} (h : o.op = .nilCheck x) (hx : cA x = some x') : Cmp P o (.nilck x')
 | extract {x : Operand} {x' : A} {k : Nat} (h : o.op = .extract x k) (hx : cA x = some x') : Cmp P o (.extract k x')
 | fieldA {s : TypeId} {x : Operand} {x' : A} {f sz : Nat} {fs : Array Field} {fl : Field} (h : o.op = .field s x f) (hx : cA x = some x') (hu : P.underlying s = some (.struct fs)) (hf : fs[f]? = some fl)
   (ha : Of P fl.type = some true) (hs : (P.info? fl.type).map (·.size) = some sz) : Cmp P o (.fieldA fl.offset sz x')
 | field1 {s : TypeId} {x : Operand} {x' : A} {f : Nat} {fs : Array Field} {fl : Field} (h : o.op = .field s x f) (hx : cA x = some x') (hu : P.underlying s = some (.struct fs)) (hf : fs[f]? = some fl)
   (ha : Of P fl.type = some false) : Cmp P o (.field1 fl.offset x')
 | len {t e : TypeId} {x : Operand} {x' : A} (h : o.op = .call { callee := .builtin .len, args := #[x], argTypes := #[t] }) (hx : cA x = some x') (hu : P.underlying t = some (.slice e)) : Cmp P o (.len x')
 | lenT {t : TypeId} {x : Operand} {x' : A} (h : o.op = .call { callee := .builtin .len, args := #[x], argTypes := #[t] }) (hx : cA x = some x') (hu : P.underlying t = some .string) : Cmp P o (.lenT x')
 | loadA {t : TypeId} {x : Operand} {x' : A} {sz : Nat} (h : o.op = .load t x) (hx : cA x = some x') (ha : Of P t = some true) (hs : (P.info? t).map (·.size) = some sz) : Cmp P o (.loadA sz x')
 | loadI {k : IntKind} {t : TypeId} {x : Operand} {x' : A} (h : o.op = .load t x) (hx : cA x = some x') (ha : Of P t = some false) : Cmp P o (.loadI k x')
 | loadB {t : TypeId} {x : Operand} {x' : A} (h : o.op = .load t x) (hx : cA x = some x') (ha : Of P t = some false) : Cmp P o (.loadB x')
 | loadS {t : TypeId} {x : Operand} {x' : A} (h : o.op = .load t x) (hx : cA x = some x') (ha : Of P t = some false) : Cmp P o (.loadS x')
 | loadX {t : TypeId} {x : Operand} {x' : A} (h : o.op = .load t x) (hx : cA x = some x') (ha : Of P t = some false) : Cmp P o (.loadX x')
 | store {t : TypeId} {x v : Operand} {x' v' : A} {sz : Nat} (h : o.op = .store t x v) (hx : cA x = some x') (hv : cA v = some v') (hs : (P.info? t).map (·.size) = some sz) : Cmp P o (.store sz x' v')
 | box {T : TypeId} {x : Operand} {x' : A} (h : o.op = .box T x) (hx : cA x = some x') : Cmp P o (.box T x')
 | alloc {T : TypeId} {z : Value} (h : o.op = .alloc T) (hz : (P.info? T).bind (·.zero) = some z) : Cmp P o (.alloc T z.cells.toList)
 | mkfn {f : FuncId} {first caps : Array Operand} {first' caps' : List A} (h : o.op = .makeFunc (.func f) first caps) (hf : cAs first.toList = some first') (hc : cAs caps.toList = some caps') : Cmp P o (.mkfn f first' caps')
 | maxi {ts : Array TypeId} {x y : Operand} {x' y' : A} (h : o.op = .call { callee := .builtin .max, args := #[x, y], argTypes := ts }) (hx : cA x = some x') (hy : cA y = some y') : Cmp P o (.maxi x' y')
 | call {f : FuncId} {args : Array Operand} {ts : Array TypeId} {args' : List A} (h : o.op = .call { callee := .value (.func f), args := args, argTypes := ts }) (ha : cAs args.toList = some args') : Cmp P o (.call f args')
 | callv {x : Operand} {x' : A} {args : Array Operand} {ts : Array TypeId} {args' : List A} (h : o.op = .call { callee := .value x, args := args, argTypes := ts }) (hx : cA x = some x') (ha : cAs args.toList = some args') : Cmp P o (.callv x' args')
 | buildS {t : TypeId} {parts : Array (Nat × Operand)} {ps : List (Nat × Nat × A)} {z : Value} {fs : Array Field} (h : o.op = .build t parts) (hu : P.underlying t = some (.struct fs)) (hz : (P.info? t).bind (·.zero) = some z)
   (hp : Ua P fs parts.toList = some ps) (hall : (fs.all fun f => (P.info? f.type).isSome) = true) : Cmp P o (.build z.cells.toList ps)
 | buildA {t e : TypeId} {n sz : Nat} {parts : Array (Nat × Operand)} {ps : List (Nat × Nat × A)} {z : Value} (h : o.op = .build t parts) (hu : P.underlying t = some (.array n e)) (hz : (P.info? t).bind (·.zero) = some z)
   (hs : (P.info? e).map (·.size) = some sz) (hp : Og sz parts.toList = some ps) : Cmp P o (.build z.cells.toList ps)
 | buildSl {t e : TypeId} {n sz : Nat} {parts : Array (Nat × Operand)} {ps : List (Nat × Nat × A)} {z : Value} (h : o.op = .buildSlice t n parts) (hu : P.underlying t = some (.slice e)) (hz : (P.info? e).bind (·.zero) = some z)
   (hs : (P.info? e).map (·.size) = some sz) (hzs : z.cells.size = sz) (hn : n * sz ≤ 2 ^ 24) (hp : Og sz parts.toList = some ps) : Cmp P o (.buildSl e n (List.replicate n z.cells.toList).flatten ps)
 | append {t e : TypeId} {x y : Operand} {x' y' : A} {i : TypeInfo} {z : Value} (h : o.op = .call { callee := .builtin .append, args := #[x, y], argTypes := #[t, t] }) (hx : cA x = some x') (hy : cA y = some y')
   (hu : P.underlying t = some (.slice e)) (hi : P.info? e = some i) (hz : i.zero = some z) (hzs : z.cells.size = i.size) (hpos : 0 < i.size) : Cmp P o (.append e i.size i.bytes z.cells.toList x' y')
 | makeSl {t e : TypeId} {x y : Operand} {x' y' : A} {i : TypeInfo} {z : Value} (h : o.op = .makeSlice t x y) (hx : cA x = some x') (hy : cA y = some y')
   (hu : P.underlying t = some (.slice e)) (hi : P.info? e = some i) (hz : i.zero = some z) (hzs : z.cells.size = i.size) (hpos : 0 < i.size) : Cmp P o (.makeSl e i.size i.bytes z.cells.toList x' y')
 | slS {t e : TypeId} {x : Operand} {x' : A} {lo hi mx : Option Operand} {lo' aC mx' : Option A} {sz : Nat} (h : o.op = .slice t x lo hi mx) (hx : cA x = some x') (hlo : cAo lo = some lo') (hhi : cAo hi = some aC) (hmx : cAo mx = some mx')
   (hu : P.underlying t = some (.slice e)) (hs : (P.info? e).map (·.size) = some sz) : Cmp P o (.slS sz x' lo' aC mx')
 | slA {t e : TypeId} {x : Operand} {x' : A} {lo hi : Option Operand} {lo' aC : Option A} {n sz : Nat} (h : o.op = .slice t x lo hi none) (hx : cA x = some x') (hlo : cAo lo = some lo') (hhi : cAo hi = some aC)
   (hu : P.underlying t = some (.array n e)) (hs : (P.info? e).map (·.size) = some sz) : Cmp P o (.slA n sz x' lo' aC)
 | raw : Cmp P o (.raw o)
 | bad : Cmp P o .bad
 | mini {ts : Array TypeId} {x y : Operand} {x' y' : A} (h : o.op = .call { callee := .builtin .min, args := #[x, y], argTypes := ts }) (hx : cA x = some x') (hy : cA y = some y') : Cmp P o (.mini x' y')
 | eqS {neg : Bool} {t u e : TypeId} {x : Operand} {x' : A} (h : o.op = .binOp (if neg then .neq else .eql) t x (.const (.slice none 0 0)) u) (hu : P.underlying t = some (.slice e)) (hx : cA x = some x') : Cmp P o (.eqS neg x')
 | eqA {neg : Bool} {t u : TypeId} {x y : Operand} {x' y' : A} {ks : List LK} (h : o.op = .binOp (if neg then .neq else .eql) t x y u) (he : Bj3 P t = some ks) (hx : cA x = some x') (hy : cA y = some y') : Cmp P o (.eqA neg ks x' y')
 | idx1 {t e : TypeId} {x i : Operand} {x' i' : A} {n : Nat} (h : o.op = .index t x i) (hx : cA x = some x') (hi : cA i = some i') (hu : P.underlying t = some (.array n e)) (ha : Of P e = some false) (hs : (P.info? e).map (·.size) = some 1) : Cmp P o (.idx1 n x' i')
 | idxA {t e : TypeId} {x i : Operand} {x' i' : A} {n sz : Nat} (h : o.op = .index t x i) (hx : cA x = some x') (hi : cA i = some i') (hu : P.underlying t = some (.array n e)) (ha : Of P e = some true) (hs : (P.info? e).map (·.size) = some sz) : Cmp P o (.idxA n sz x' i')
 | cap {t e : TypeId} {x : Operand} {x' : A} (h : o.op = .call { callee := .builtin .cap, args := #[x], argTypes := #[t] }) (hx : cA x = some x') (hu : P.underlying t = some (.slice e)) : Cmp P o (.cap x')
 | copyO {t t' e : TypeId} {x y : Operand} {x' y' : A} {sz : Nat} (h : o.op = .call { callee := .builtin .copy, args := #[x, y], argTypes := #[t, t'] }) (hx : cA x = some x') (hy : cA y = some y') (hu : P.underlying t = some (.slice e)) (hs : (P.info? e).map (·.size) = some sz) : Cmp P o (.copyO sz x' y')
 | appendZ {t t' e : TypeId} {kn : IntKind} {x y : Operand} {x' y' : A} {i : TypeInfo} {z : Value} (h : o.op = .call { callee := .builtin .append, args := #[x, y], argTypes := #[t, t'] }) (hx : cA x = some x') (hy : cA y = some y')
   (hu : P.underlying t = some (.slice e)) (hu' : P.underlying t' = some (.int kn)) (hi : P.info? e = some i) (hz : i.zero = some z) (hzs : z.cells.size = i.size) (hpos : 0 < i.size) : Cmp P o (.appendZ e i.size i.bytes z.cells.toList x' y')
 | clearS {t e : TypeId} {x : Operand} {x' : A} {z z' : Value} (h : o.op = .call { callee := .builtin .clear, args := #[x], argTypes := #[t] }) (hx : cA x = some x') (hu : P.underlying t = some (.slice e))
   (hz : (P.info? e).bind (·.zero) = some z) (hzc : z.cells.toList = [z']) (h1 : z'.oneCell' = true) : Cmp P o (.clearS z' x')
 | ext {f : FuncId} {args : Array Operand} {ts : Array TypeId} {args' : List A} (h : o.op = .call { callee := .value (.func f), args := args, argTypes := ts }) (ha : cAs args.toList = some args') : Cmp P o (.ext f args')
section
variable {C : Cx P} {ρ : Env} {M : Aa} {G : Own} {K : Value → Aa → Own → Prop} {a : Act} {w : World} {o : Oper}
abbrev Wi (C : Cx P) (K : Value → Aa → Own → Prop) (o : Oper) (a : Act) (w : World) : Prop :=
 Ip P o a.eval w fun v w' => ∃ M' G', C.St M' G' w' ∧ K v M' G'
theorem A7 {s : Sem Value} {v : Value} {w' : World} (h : s.run P w = .ok v w') : (do pure (Next.value (← s)) : Sem Next).run P w = .ok (.value v) w' := by
 rw [Ad h]; rfl
theorem Av5 {s : Sem Unit} {w' : World} (h : s.run P w = .ok () w') : (do s; pure Next.skip : Sem Next).run P w = .ok .skip w' := by
 rw [Ad h]; rfl
theorem Ai {t : TypeId} {d : TypeDesc} (h : P.underlying t = some d) (w : World) : (underlying t).run P w = .ok d w := by
 simp [underlying, program, Bind.bind, Sem.bind, Sem.run, h, Pure.pure]
theorem Ad5 {op : BinOp} {x y v : Value} {t : TypeId} {X Y : Operand} (h : Bj2 op x y = some v) :
  (do eqGuard op t X Y x y; binOp op t x y : Sem Value).run P w = .ok v w := by
 have hg : (eqGuard op t X Y x y).run P w = .ok () w := by
  unfold Bj2 at h
  split at h
  ·simp [eqGuard, Pure.pure]
  ·simp [eqGuard, Pure.pure]
  ·cases h
 rw [Ad hg]
 unfold Bj2 at h
 split at h
 ·rename_i k a k' b
  split at h
  ·rename_i hs
   unfold shV at h
   split at h
   ·cases h
   ·rename_i hb
    rcases hs with rfl | rfl <;> simp at h <;> subst h <;> simp [binOp, Op.shift, hb, Pure.pure, Sem.run]
  ·rename_i hs
   split at h
   ·rename_i hk
    subst hk
    cases op <;> simp_all [Dl7, binOp, Op.intArith, Op.intDiv, Op.intBits, Op.intCmp, Pure.pure, Sem.run]
    all_goals (try (obtain ⟨h1, h2⟩ := h; simp [h1, ← h2, Sem.run]))
    all_goals (try (subst h; rfl))
    all_goals (try (subst h; simp [Sem.run, BEq.beq, bne]))
   ·cases h
 ·unfold Dl8 at h
  cases op <;> simp_all [binOp, Op.stringOp, Pure.pure, Sem.run]
 ·cases h
theorem A2 {v : Value} (hr : (execOp a.eval o).run P w = .ok (.value v) w) (hs : C.St M G w) (hk : K v M G) : Wi C K o a w := Ip.value hr ⟨M, G, hs, hk⟩
theorem Av6 {neg : Bool} {t u : TypeId} {x y : Operand} {b c : Bool} (h : o.op = .binOp (if neg then .neq else .eql) t x y u) (hu : P.underlying t = some .bool) (hx : a.eval x = .bool b) (hy : a.eval y = .bool c) :
  (execOp a.eval o).run P w = .ok (.value (.bool (xor neg (b == c)))) w := by
 have hd : ∀ (d : Nat) (w : World), (Op.equalIn (d + 1) t (.bool b) (.bool c)).run P w = .ok (b == c) w := by
  intro d w
  unfold Op.equalIn
  rw [Ad (Ai hu w)]
  rfl
 have he : ∀ w : World, (Op.equal t (.bool b) (.bool c)).run P w = .ok (b == c) w := fun w => hd 9999 w
 simp only [execOp, h, hx, hy]
 refine A7 (v := .bool (xor neg (b == c))) ?_
 have hg : ∀ op, (eqGuard op t x y (.bool b) (.bool c)).run P w = .ok () w := by
  intro op; cases op <;> simp [eqGuard, Pure.pure]
 rw [Ad (hg _)]
 cases neg
 ·show (do pure (Value.bool (← Op.equal t (.bool b) (.bool c))) : Sem Value).run P w = _
  rw [Ad (he w)]; simp [Pure.pure, Sem.run]
 ·show (do pure (Value.bool (!(← Op.equal t (.bool b) (.bool c)))) : Sem Value).run P w = _
  rw [Ad (he w)]; simp [Pure.pure, Sem.run]
theorem Av7 {neg : Bool} {t u e : TypeId} {x : Operand} {p : Option Addr} (h : o.op = .binOp (if neg then .neq else .eql) t x (.const (.pointer none)) u) (hu : P.underlying t = some (.pointer e)) (hx : a.eval x = .pointer p) :
  (execOp a.eval o).run P w = .ok (.value (.bool (xor neg p.isNone))) w := by
 have hd : ∀ (d : Nat) (w : World), (Op.equalIn (d + 1) t (.pointer p) (.pointer none)).run P w = .ok p.isNone w := by
  intro d w
  unfold Op.equalIn
  rw [Ad (Ai hu w)]
  cases p <;> rfl
 have he : ∀ w : World, (Op.equal t (.pointer p) (.pointer none)).run P w = .ok p.isNone w := fun w => hd 9999 w
 have hy : a.eval (.const (.pointer none)) = .pointer none := rfl
 simp only [execOp, h, hx, hy]
 refine A7 (v := .bool (xor neg p.isNone)) ?_
 have hg : ∀ op, (eqGuard op t x (.const (.pointer none)) (.pointer p) (.pointer none)).run P w = .ok () w := by
  intro op; cases op <;> simp [eqGuard, Pure.pure]
 rw [Ad (hg _)]
 cases neg
 ·show (do pure (Value.bool (← Op.equal t (.pointer p) (.pointer none))) : Sem Value).run P w = _
  rw [Ad (he w)]; simp [Pure.pure, Sem.run]
 ·show (do pure (Value.bool (!(← Op.equal t (.pointer p) (.pointer none)))) : Sem Value).run P w = _
  rw [Ad (he w)]; simp [Pure.pure, Sem.run]
theorem Cp {v : Value} {p : Nat × Nat} (h : Wh v = some p) : v = pv p.1 p.2 := by
 unfold Wh at h
 split at h
 ·simp at h; subst h; rfl
 ·cases h
theorem Ad6 {ad : Addr} {p : Nat × Nat} (h : Di9 ad = some p) : ad = ⟨p.1, p.2, none⟩ := by
 unfold Di9 at h
 split at h
 ·simp at h; subst h; rfl
 ·cases h
theorem Ez {v : Value} {s : Option Addr × Nat × Nat} (h : sl? v = some s) : v = .slice s.1 s.2.1 s.2.2 := by
 unfold sl? at h
 split at h
 ·simp at h; subst h; rfl
 ·cases h
theorem E4 {v : Value} {n : Int} (h : Qf v = some n) : ∃ k, v = .int k n := by
 unfold Qf at h
 split at h
 ·simp at h; subst h; exact ⟨_, rfl⟩
 ·cases h
theorem C3 {v : Value} {b : Bool} (h : Jr v = some b) : v = .bool b := by
 unfold Jr at h
 split at h
 ·simp at h; subst h; rfl
 ·cases h
theorem Hj {v : Value} {l : List Value} (h : An3 v = some l) : v = .agg l.toArray := by
 unfold An3 at h
 split at h
 ·simp at h; subst h; simp
 ·cases h
theorem Ad7 {v : Value} {l : List Value} (h : Dj0 v = some l) : v = .tuple l.toArray := by
 unfold Dj0 at h
 split at h
 ·simp at h; subst h; simp
 ·cases h
theorem Sn {v : Value} {g : FuncId × Array Value × Array Value} (h : fn? v = some g) : v = .func (.func g.1) g.2.1 g.2.2 := by
 unfold fn? at h
 split at h
 ·simp at h; subst h; rfl
 ·cases h
theorem Wj {s : TypeId} {f n b off : Nat} {fs : Array Field} {fl : Field} (hu : P.underlying s = some (.struct fs)) (hf : fs[f]? = some fl) (hs : (P.info? fl.type).map (·.size) = some (n + 1)) :
  (Instr.fieldAt s (pv b off) f).run P w = .ok (pv b (off + fl.offset)) w := by
 unfold Instr.fieldAt
 rw [Ad (Ai hu w)]
 simp only [hf]
 rw [Ad (a := ⟨b, off, none⟩) (w' := w) rfl]
 have : (fieldPlace ⟨b, off, none⟩ fl).run P w = .ok ⟨b, off + fl.offset, none⟩ w := by
  unfold fieldPlace
  rw [Ad (Bl hs w)]
  simp [Fe, Pure.pure, Sem.run]
 rw [Ad this]
 rfl
theorem Uc {t e : TypeId} {b off n sz : Nat} {k : IntKind} {j : Int} (hu : P.underlying t = some (.array n e)) (hs : (P.info? e).map (·.size) = some sz) (h0 : 0 ≤ j) (h1 : j < n) :
  (Instr.indexAt t (pv b off) (.int k j)).run P w = .ok (pv b (off + j.toNat * sz)) w := by
 unfold Instr.indexAt
 rw [Ad (a := (k, j)) (w' := w) rfl]
 rw [Ad (Ai hu w)]
 dsimp only
 try rw [Ad (a := (⟨b, off, none⟩ : Addr)) (w' := w) rfl]
 rw [Ad (a := (some ⟨b, off, none⟩, n, e)) (w' := w) rfl]
 dsimp only
 rw [Ad (Ai hu w)]
 simp only [h0, h1, and_self, if_true]
 rw [Ad (Bl hs w)]
 simp [Fe, Pure.pure, Sem.run]
theorem Ud {t e : TypeId} {b off n c sz : Nat} {k : IntKind} {j : Int} (hu : P.underlying t = some (.slice e)) (hs : (P.info? e).map (·.size) = some sz) (h0 : 0 ≤ j) (h1 : j < n) :
  (Instr.indexAt t (.slice (some ⟨b, off, none⟩) n c) (.int k j)).run P w = .ok (pv b (off + j.toNat * sz)) w := by
 unfold Instr.indexAt
 rw [Ad (a := (k, j)) (w' := w) rfl]
 rw [Ad (Ai hu w)]
 dsimp only
 try rw [Ad (a := (⟨b, off, none⟩ : Addr)) (w' := w) rfl]
 rw [Ad (a := (some ⟨b, off, none⟩, n, e)) (w' := w) rfl]
 dsimp only
 rw [Ad (Ai hu w)]
 simp only [h0, h1, and_self, if_true]
 rw [Ad (Bl hs w)]
 simp [Fe, Pure.pure, Sem.run]
theorem Ad8 {t : TypeId} {b off sz : Nat} {cs : List Value} (ha : Of P t = some true) (hz : (P.info? t).map (·.size) = some sz) (ag : ∀ b o, (M.add G) b o → w.heap[b]? = some o) (h : rd (M.add G) b off sz cs) :
  (Instr.loadAt t (pv b off)).run P w = .ok (.agg cs.toArray) w := by
 unfold Instr.loadAt
 rw [Ad (a := ⟨b, off, none⟩) (w' := w) rfl]
 unfold loadVar
 rw [Ad (Dw ha w)]
 simp only [if_true]
 rw [Ad (Bl hz w), Ad (H1 ag h)]
 rfl
theorem Kp {t : TypeId} {b off : Nat} {v : Value} (ha : Of P t = some false) (ag : ∀ b o, (M.add G) b o → w.heap[b]? = some o) (h : rd (M.add G) b off 1 [v]) :
  (Instr.loadAt t (pv b off)).run P w = .ok v w := by
 unfold Instr.loadAt
 rw [Ad (a := ⟨b, off, none⟩) (w' := w) rfl]
 unfold loadVar
 rw [Ad (Dw ha w)]
 exact Sm (Ar3 ag h)
theorem Wk {t : TypeId} {b off sz : Nat} {u : Value} {T : TypeId} {cs : List Value} (hz : (P.info? t).map (·.size) = some sz) (hb : w.heap[b]? = some (Cl T cs)) (hl : off + sz ≤ cs.length) (hu : u.cells.size = sz) (h1 : ok1 u.cells.toList) :
  ∃ w', (Instr.storeAt t (pv b off) u).run P w = .ok () w' ∧ w'.os = w.os ∧ Tp w' w ∧ w'.output = w.output ∧ w'.heap.size = w.heap.size ∧ (∀ k, k ≠ b → w'.heap[k]? = w.heap[k]?) ∧ w'.heap[b]? = some (Cl T (Is cs off u.cells.toList)) := by
 obtain ⟨w', hr, h⟩ := Gw (P := P) (vs := u.cells.toList) hb (o := off) (by simp [hu]; omega) h1
 refine ⟨w', ?_, h⟩
 unfold Instr.storeAt
 rw [Ad (a := ⟨b, off, none⟩) (w' := w) rfl]
 unfold storeVar
 rw [Ad (Bl hz w)]
 simp only [hu, ne_eq, not_true_eq_false, if_false]
 exact hr
theorem Ue {f : FuncId} (h : An1 P f = true) {first args caps : Array Value} :
  (do let d ← Deferred.ofValue (.func (.func f) first caps) args; invoke d.target d.args : Sem Next).run P w = .ok (.enter f (first ++ args ++ caps)) w := by
 rw [Ad (a := { target := .fn (.func f) caps, args := first ++ args }) (w' := w) rfl]
 exact H0 h _ w
end
variable {P : Program}
theorem Uf (off : Nat) : ∀ (vs : List Value) (j : Nat) (cells : Array Value), off + j + vs.length ≤ cells.size →
  (((vs.zipIdx j).foldl (fun (cs : Array Value) (p : Value × Nat) => cs.setIfInBounds (off + p.2) p.1) cells).toList) = Is cells.toList (off + j) vs
 | [], j, cells, _ => by simp [Is]
 | v :: vs, j, cells, h => by
  simp only [List.zipIdx_cons, lD3]
  rw [Uf off vs (j + 1) _ (by simp at h ⊢; omega)]
  have aU : off + j < cells.toList.length := by simp at h ⊢; omega
  simp only [Array.toList_setIfInBounds, Is, lB3]
  rw [List.take_set, List.drop_set, if_pos (by omega)]
  have e1 : off + (j + 1) + vs.length = off + j + (vs.length + 1) := by omega
  rw [e1]
  have e2 : (List.take (off + (j + 1)) cells.toList).set (off + j) v = List.take (off + j) cells.toList ++ [v] := by
   have : off + (j + 1) = (off + j) + 1 := by omega
   have h0 : min (off + j) cells.size = off + j := by simp at aU; omega
   rw [this, lA7 aU, List.set_append_right _ _ (by simp; omega)]
   simp [h0]
  rw [e2]
  simp
theorem Je (place : Nat → Option (Nat × Nat)) : ∀ (l : List (Nat × Value)) (ps : List (Nat × Nat × Value)) (cells : Array Value) (out : List Value),
  l.map (fun p => (place p.1).map fun q => (q.1, q.2, p.2)) = ps.map some → Qg cells.toList ps = some out → Instr.fill place cells l = some out.toArray
 | [], ps, cells, out, hl, h => by
  cases ps with
  | nil => simp [Qg] at h; subst h; simp [Instr.fill]
  | cons p ps => simp at hl
 | (i, v) :: l, ps, cells, out, hl, h => by
  cases ps with
  | nil => simp at hl
  | cons p ps =>
   obtain ⟨off, sz, u⟩ := p
   simp only [lDv, List.cons.injEq] at hl
   obtain ⟨h1, h2⟩ := hl
   cases hp : place i with
   | none => simp [hp] at h1
   | some q =>
    obtain ⟨q1, q2⟩ := q
    simp [hp] at h1
    obtain ⟨rfl, rfl, rfl⟩ := h1
    simp only [Qg] at h
    split at h
    ·rename_i hc
     obtain ⟨oT, dw⟩ := hc
     simp only [Instr.fill, hp]
     have pF : ¬ (q1 + v.cells.size > cells.size) := by rw [oT]; simpa using dw
     simp only [oT, ne_eq, not_true_eq_false, decide_false, lDw]
     rw [if_neg (by rw [← oT]; simpa using pF)]
     refine Je place l ps _ out h2 ?_
     have := Uf q1 v.cells.toList 0 cells (by simp; rw [oT]; simpa using dw)
     have e : (v.cells.zipIdx.foldl (fun (cs : Array Value) (x : Value × Nat) => match x with | (c, j) => cs.setIfInBounds (q1 + j) c) cells) = ((v.cells.toList.zipIdx 0).foldl (fun (cs : Array Value) (p : Value × Nat) => cs.setIfInBounds (q1 + p.2) p.1) cells) := by
      rw [← Array.foldl_toList]
      simp
     rw [e, this]
     simpa using h
    ·cases h
section
variable {C : Cx P} {ρ : Env} {M : Aa} {G : Own} {K : Value → Aa → Own → Prop} {a : Act} {w : World} {o : Oper}
theorem Re {fs : Array Field} (hf : Fc C.nt ρ a) : ∀ {l : List (Nat × Operand)} {ps : List (Nat × Nat × A)}, Ua P fs l = some ps → ∀ {qs : List (Nat × Nat × Value)}, evp ρ ps = some qs →
  ∀ {places : List (Nat × Nat)}, fs.toList.mapM (fun f => (P.info? f.type).map fun i => (f.offset, i.size)) = some places →
  (l.map fun p => (p.1, a.eval p.2)).map (fun p => (places.toArray[p.1]?).map fun q => (q.1, q.2, p.2)) = qs.map some
 | [], ps, h, qs, hq, places, hp => by simp [Ua] at h; subst h; simp [evp] at hq; subst hq; rfl
 | (i, x) :: l, ps, h, qs, hq, places, hp => by
  simp only [Ua] at h
  cases h1 : fs[i]? with
  | none => simp [h1] at h
  | some f =>
   cases h2 : P.info? f.type with
   | none => simp [h1, h2] at h
   | some t =>
    cases h3 : cA x with
    | none => simp [h1, h2, h3] at h
    | some x' =>
     cases h4 : Ua P fs l with
     | none => simp [h1, h2, h3, h4] at h
     | some l' =>
      simp [h1, h2, h3, h4] at h
      subst h
      simp only [evp] at hq
      cases h5 : ev ρ x' with
      | none => simp [h5] at hq
      | some v =>
       cases h6 : evp ρ l' with
       | none => simp [h5, h6] at hq
       | some vs =>
        simp [h5, h6] at hq
        subst hq
        have aP : places[i]? = some (f.offset, t.size) := by
         have aG : ∀ (fl : List Field) (pl : List (Nat × Nat)), fl.mapM (fun f => (P.info? f.type).map fun i => (f.offset, i.size)) = some pl → ∀ (j : Nat) (g : Field), fl[j]? = some g → pl[j]? = (P.info? g.type).map fun i => (g.offset, i.size) := by
          intro fl
          induction fl with
          | nil => intro pl _ j g hg; simp at hg
          | cons f0 fl ih =>
           intro pl aP j g hg
           simp only [lEe, Option.bind_eq_bind, Option.pure_def] at aP
           cases q1 : P.info? f0.type with
           | none => simp [q1] at aP
           | some i0 =>
            cases q2 : fl.mapM (fun f => (P.info? f.type).map fun i => (f.offset, i.size)) with
            | none => simp [q1, q2] at aP
            | some rest =>
             simp [q1, q2] at aP
             subst aP
             cases j with
             | zero => simp at hg; subst hg; simp [q1]
             | succ j => simp at hg; simpa using ih rest q2 j g hg
         have := aG _ _ hp i f (by simpa using h1)
         rw [this, h2]; rfl
        simp only [lDv, lF8, aP, lC9]
        rw [Am hf h3 h5, ← Re hf h4 h6 hp]
        simp
theorem Lv {sz : Nat} (hf : Fc C.nt ρ a) : ∀ {l : List (Nat × Operand)} {ps : List (Nat × Nat × A)}, Og sz l = some ps → ∀ {qs : List (Nat × Nat × Value)}, evp ρ ps = some qs →
  (l.map fun p => (p.1, a.eval p.2)).map (fun p => ((fun i => some (i * sz, sz)) p.1 : Option (Nat × Nat)).map fun q => (q.1, q.2, p.2)) = qs.map some
 | [], ps, h, qs, hq => by simp [Og] at h; subst h; simp [evp] at hq; subst hq; rfl
 | (i, x) :: l, ps, h, qs, hq => by
  simp only [Og] at h
  cases h3 : cA x with
  | none => simp [h3] at h
  | some x' =>
   cases h4 : Og sz l with
   | none => simp [h3, h4] at h
   | some l' =>
    simp [h3, h4] at h
    subst h
    simp only [evp] at hq
    cases h5 : ev ρ x' with
    | none => simp [h5] at hq
    | some v =>
     cases h6 : evp ρ l' with
     | none => simp [h5, h6] at hq
     | some vs =>
      simp [h5, h6] at hq
      subst hq
      have := Lv (sz := sz) hf h4 h6
      simp only [lDv, lC9, Am hf h3 h5] at this ⊢
      rw [← this]
theorem Z0 {t : TypeId} {parts : Array (Nat × Operand)} {ps : List (Nat × Nat × A)} {z : Value} {fs : Array Field} {qs : List (Nat × Nat × Value)} {cs : List Value} (hf : Fc C.nt ρ a) (hu : P.underlying t = some (.struct fs)) (hz : (P.info? t).bind (·.zero) = some z)
  (hp : Ua P fs parts.toList = some ps) (hall : (fs.all fun f => (P.info? f.type).isSome) = true) (he : evp ρ ps = some qs) (hl : Qg z.cells.toList qs = some cs) :
  (Instr.build t (parts.map fun (i, x) => (i, a.eval x))).run P w = .ok (.agg cs.toArray) w := by
 refine run_build w t _ _ ?_
 unfold Program.built
 cases dR : P.info? t with
 | none => simp [dR] at hz
 | some it =>
  simp [dR] at hz
  have cu : ∀ f ∈ fs.toList, ∃ i, P.info? f.type = some i := by
   intro f cv
   have := Array.all_eq_true'.1 hall f (by simpa using cv)
   exact Option.isSome_iff_exists.1 this
  have hm : ∃ places, fs.toList.mapM (fun f => (P.info? f.type).map fun i => (f.offset, i.size)) = some places := by
   revert cu
   generalize fs.toList = fl
   intro cu
   induction fl with
   | nil => exact ⟨[], by simp⟩
   | cons f0 fl ih =>
    obtain ⟨i0, h0⟩ := cu f0 (by simp)
    obtain ⟨pl, aP⟩ := ih (fun f cv => cu f (by simp [cv]))
    exact ⟨(f0.offset, i0.size) :: pl, by simp [lEe, h0, aP]⟩
  obtain ⟨places, hm⟩ := hm
  simp only [hu, hz, hm]
  refine Je _ _ qs _ _ ?_ hl
  have := Re hf hp he hm
  simpa using this
theorem Z3 {t e : TypeId} {n sz : Nat} {parts : Array (Nat × Operand)} {ps : List (Nat × Nat × A)} {z : Value} {qs : List (Nat × Nat × Value)} {cs : List Value} (hf : Fc C.nt ρ a) (hu : P.underlying t = some (.array n e)) (hz : (P.info? t).bind (·.zero) = some z)
  (hs : (P.info? e).map (·.size) = some sz) (hp : Og sz parts.toList = some ps) (he : evp ρ ps = some qs) (hl : Qg z.cells.toList qs = some cs) :
  (Instr.build t (parts.map fun (i, x) => (i, a.eval x))).run P w = .ok (.agg cs.toArray) w := by
 refine run_build w t _ _ ?_
 unfold Program.built
 cases dR : P.info? t with
 | none => simp [dR] at hz
 | some it =>
  simp [dR] at hz
  cases bO : P.info? e with
  | none => simp [bO] at hs
  | some ie =>
   simp [bO] at hs
   simp only [hu, hz, bO, hs]
   refine Je _ _ qs _ _ ?_ hl
   have := Lv (sz := sz) hf hp he
   simpa using this
theorem cyc (z : Array Value) : ∀ n : Nat, ((Array.range (n * z.size)).map fun i => z[i % z.size]!).toList = (List.replicate n z.toList).flatten
 | 0 => by simp
 | n + 1 => by
  have ih := cyc z n
  simp only [Array.toList_map, Array.toList_range] at ih ⊢
  rw [lDq, Nat.one_mul, List.range_add, lAv, ih, List.replicate_succ', lE7]
  congr 1
  simp only [lE5, lD0, lEp, lAa]
  apply lEc (by simp)
  intro j h1 h2
  have h3 : j < z.size := by simpa using h2
  have h4 : (n * z.size + j) % z.size = j := by
   rw [lE6, Nat.mul_comm, Nat.add_mul_mod_self_left, lCh h3]
  simp [h4, h3]
theorem Wl {t e : TypeId} {n sz : Nat} {parts : Array (Nat × Operand)} {ps : List (Nat × Nat × A)} {z : Value} {qs : List (Nat × Nat × Value)} {cs : List Value} (hf : Fc C.nt ρ a) (hu : P.underlying t = some (.slice e)) (hz : (P.info? e).bind (·.zero) = some z)
  (hs : (P.info? e).map (·.size) = some sz) (hzs : z.cells.size = sz) (hn : n * sz ≤ 2 ^ 24) (hp : Og sz parts.toList = some ps) (he : evp ρ ps = some qs) (hl : Qg (List.replicate n z.cells.toList).flatten qs = some cs) :
  (Instr.buildSlice t n (parts.map fun (i, x) => (i, a.eval x))).run P w = .ok (.slice (some ⟨w.heap.size, 0, none⟩) n n) (w.alloc (Cl e cs)) := by
 have gv : Instr.fill (fun i => some (i * sz, sz)) ((Array.range (n * sz)).map (z.cells[· % z.cells.size]!)) ((parts.map fun (i, x) => (i, a.eval x)).toList) = some cs.toArray := by
  refine Je _ _ qs _ _ ?_ ?_
  ·have := Lv (sz := sz) hf hp he
   simpa using this
  ·have := cyc z.cells n
   rw [hzs] at this ⊢
   rw [this]; exact hl
 unfold Instr.buildSlice
 rw [Ad (Ai hu w)]
 dsimp only
 rw [Ad (Bl hs w)]
 rw [if_neg (by omega)]
 have jg : (if n * sz = 0 then pure #[] else do pure (← zeroValue e).cells : Sem (Array Value)).run P w = .ok (if n * sz = 0 then #[] else z.cells) w := by
  split
  ·rfl
  ·rw [Ad (Ko hz w)]; rfl
 by_cases h0 : n * sz = 0
 ·simp only [h0, if_true] at jg ⊢
  rw [Ad (a := #[]) (w' := w) rfl]
  have kH : Instr.fill (fun i => some (i * sz, sz)) ((Array.range 0).map ((#[] : Array Value)[· % (#[] : Array Value).size]!)) ((parts.map fun (i, x) => (i, a.eval x)).toList) = some cs.toArray := by
   rw [h0] at gv
   rw [show (Array.range 0).map ((#[] : Array Value)[· % (#[] : Array Value).size]!) = (Array.range 0).map (z.cells[· % z.cells.size]!) from by apply Array.ext <;> simp]
   exact gv
  simp only [kH]
  rfl
 ·simp only [h0, if_false] at jg ⊢
  rw [Ad (Ko hz w), Ad (a := z.cells) (w' := w) rfl]
  simp only [gv]
  rfl
theorem Kq {H : Aa} (ag : ∀ b o, H b o → w.heap[b]? = some o) {sz n : Nat} {ad : Addr} {cs : List Value} (h : rdS H sz (some ad) n cs) :
  cs.length = n * sz ∧ ∀ j u, cs[j]? = some u → w.cell? (ad.add j) = some u := by
 rcases h with ⟨h0, rfl⟩ | ⟨b, off, he, c, T, fz, h1, h2, h3⟩
 ·exact ⟨by simp [h0], fun j u hj => by simp at hj⟩
 ·simp at he; subst he
  refine ⟨by rw [h3]; simp; omega, ?_⟩
  intro j u hj
  rw [Fe, Ff (ag _ _ h1)]
  rw [h3, List.getElem?_take] at hj
  split at hj
  ·simpa using hj
  ·cases hj
theorem Oh {w0 : World} {F : List Nat} {M0 : Aa} (hs : EV.St w0 F M0 M G w) {R G' : Own} (hp : G.Perm (R ++ G')) (ob : Obj) : EV.St w0 F M0 M ((w.heap.size, ob) :: G') (w.drew.alloc ob) := by
 have h1 : EV.St w0 F M0 M G w.drew := hs.drew (w.drawn + 1) (Nat.le_succ _)
 have h2 := h1.alloc ob
 refine (h2.perm (lCi _ hp)).weaken ?_
 exact lAg _ (List.sublist_append_right _ _)
theorem Ad9 (a b : List Value) (c : Array Value) : a.toArray ++ b.toArray ++ c = (a ++ b ++ c.toList).toArray := by
 apply lF4; simp
theorem Dx (z : Array Value) (n : Nat) : (Builtin.zeroCells z n).toList.length = n * z.size := by simp [Builtin.zeroCells]
theorem Wm {t e : TypeId} {x y : Operand} {i : TypeInfo} {z : Value} {x' y' : A} (h : o.op = .call { callee := .builtin .append, args := #[x, y], argTypes := #[t, t] }) (hx : cA x = some x') (hy : cA y = some y')
  (hu : P.underlying t = some (.slice e)) (hi : P.info? e = some i) (hz : i.zero = some z) (hzs : z.cells.size = i.size) (hpos : 0 < i.size)
  (hf : Fc C.nt ρ a) (hs : C.St M G w) (hw : Av4 ρ M G K e i.size i.bytes x' y') : Wi C K o a w := by
 unfold Av4 at hw
 obtain ⟨vx, ae, hw⟩ := Ab.1 hw
 obtain ⟨vy, dz, hw⟩ := Ab.1 hw
 obtain ⟨s, ak, news, cE, ai, hw⟩ := Ab.1 hw
 obtain ⟨sa, m, sc⟩ := s
 have ey := Ez ak
 dsimp only at ey cE hw
 have evx := Am hf hx ae
 have evy := Am hf hy dz
 have ag : ∀ b ob, (M.add G) b ob → w.heap[b]? = some ob := fun b ob hb => hs.agreeAdd hb
 have key : ∀ v w', (Builtin.append_ #[t, t] o.type #[vx, vy]).run P w = .ok v w' → (∃ M' G', C.St M' G' w' ∧ K v M' G') → Wi C K o a w := by
  intro v w' hr hk
  refine Ip.value (v := v) (w' := w') ?_ hk
  simp only [execOp, h]
  have aF : ∃ cs, (resolve a.eval { callee := .builtin .append, args := #[x, y], argTypes := #[t, t] } o.type).run P w = .ok { target := .builtin .append #[t, t] o.type cs, args := #[a.eval x, a.eval y] } w :=
   ⟨_, by simp [resolve, Pure.pure, Sem.run]; rfl⟩
  obtain ⟨cs, aF⟩ := aF
  rw [Ad aF]
  rw [evx, evy]
  exact A7 hr
 have none_src : sa = none → m = 0 ∧ news = [] := by
  intro e0
  subst e0
  rcases cE with ⟨h0, hn⟩ | ⟨b, off, he, _⟩
  ·rcases lFh.1 h0 with h1 | h1
   ·exact ⟨h1, hn⟩
   ·omega
  ·cases he
 rcases hw with ⟨ov, n, xs, G', rfl, aQ, hp, bZ, eW, hk⟩ | ⟨xa, n, c, xs, rfl, i8, hm, hc, bZ, eW, hk⟩
 ·cases lh : sa with
  | none =>
   obtain ⟨rfl, rfl⟩ := none_src lh
   subst lh
   subst ey
   refine key (osv ov n) w ?_ ⟨M, osg e ov (xs ++ []) ++ G', ?_, ?_⟩
   ·cases ov with
    | none => simp [Ey] at aQ; simp [osv, oad, Rd, aQ, Builtin.append_, run_underlying hu, sizeOf, typeInfo, hi, Builtin.lenOf, Builtin.firstCells, loadCells, loadCellsFrom]
    | some p =>
     obtain ⟨g, cap, sp⟩ := p
     simp only [Ey] at aQ
     simp [osv, oad, Rd, Builtin.append_, run_underlying hu, sizeOf, typeInfo, hi, Builtin.lenOf, Builtin.firstCells, aQ.2.2.1, storeCells]
   ·simpa using hs.perm hp
   ·exact hk ov (by simpa using aQ) (by simp)
  | some ad =>
   subst lh
   subst ey
   obtain ⟨dS, iw⟩ := Kq ag cE
   cases ov with
   | none =>
    simp only [Ey] at aQ
    obtain ⟨rfl, rfl⟩ := aQ
    by_cases hm : m = 0
    ·subst hm
     have gH : news = [] := List.eq_nil_of_length_eq_zero (by simpa using dS)
     subst gH
     refine key (.slice none 0 0) w ?_ ⟨M, G', by simpa [osg] using hs.perm hp, ?_⟩
     ·simp [osv, oad, Rd, Builtin.append_, run_underlying hu, sizeOf, typeInfo, hi, Builtin.lenOf, Builtin.firstCells, loadCells, loadCellsFrom]
     ·have := hk none (by simp [Ey]) (by simp)
      simpa [osv, oad, Rd, osg] using this
    ·have hr := run_append_nil (P := P) w t o.type e i z hu hi hz ad m sc news dS iw (by omega) (by simp [maxLen] at bZ; omega) (by simp at eW; omega)
     refine key _ _ hr ⟨M, _, Oh hs hp _, ?_⟩
     have cp : m ≤ grownCap w m 0 e := grownCap_ge w m 0 e
     have ix := grownCap_le_maxLen w m 0 e (by simpa using bZ)
     have aG : (news ++ (Builtin.zeroCells z.cells (grownCap w m 0 e - m)).toList).length = grownCap w m 0 e * i.size := by
      rw [lA4, dS, Dx, hzs, ← lDq]; congr 1; omega
     have := hk (some (w.heap.size, grownCap w m 0 e, (Builtin.zeroCells z.cells (grownCap w m 0 e - m)).toList)) (by
      simp only [Ey, lBi, lAj]
      exact ⟨dS, aG, cp, ix⟩) (by simp [hm])
     simp only [osv, oad, Rd, osg, lBi, lAj, lDd] at this
     rw [show news.toArray ++ Builtin.zeroCells z.cells (grownCap w m 0 e - m) = (news ++ (Builtin.zeroCells z.cells (grownCap w m 0 e - m)).toList).toArray from by apply lF4; simp]
     exact this
   | some p =>
    obtain ⟨g, cap, sp⟩ := p
    simp only [Ey] at aQ
    obtain ⟨h1, h2, h3, h4⟩ := aQ
    simp only [osg, lDd] at hp
    have ah := hs.perm hp
    have hg : w.heap[g]? = some (Cl e (xs ++ sp)) := ah.own (g, _) (by simp)
    by_cases fp : n + m ≤ cap
    ·have eA : n * i.size + news.length ≤ (xs ++ sp).toArray.size := by
      simp only [lE3]
      rw [h2, dS, ← lDq]; exact lBw _ fp
     have hr := run_append_room (P := P) w t o.type e i hu hi g n cap (xs ++ sp).toArray hg ad m sc news dS iw ai fp eA
     have mH : ((xs ++ sp).toArray.toList.take (n * i.size) ++ news ++ (xs ++ sp).toArray.toList.drop (n * i.size + news.length)) = (xs ++ news) ++ sp.drop news.length := by
      simp only [← h1, List.take_left, lAc]
      rw [lFb]
      simp
     rw [mH] at hr
     have gI := ah.put (w' := w.setRow g ((xs ++ news) ++ sp.drop news.length).toArray) (i := 0) (b := g) (o := Cl e (xs ++ sp)) (o' := Cl e ((xs ++ news) ++ sp.drop news.length)) rfl rfl ⟨rfl, lA5 _⟩ rfl (by simp) (fun k hk => setRow_other w g k _ hk) (setRow_heap w g _ _ e _ hg)
     refine key _ _ hr ⟨M, _, gI, ?_⟩
     have t7 : news.length ≤ sp.length := by
      simp only [lA4] at h2
      have : (n + m) * i.size ≤ cap * i.size := lBw _ fp
      rw [lDq] at this
      omega
     have := hk (some (g, cap, sp.drop news.length)) (by
      simp only [Ey]
      refine ⟨by rw [lA4, h1, dS, lDq], ?_, fp, h4⟩
      simp only [lA4, lDt] at h2 ⊢
      omega) (by simp)
     simpa [osv, oad, Rd, osg] using this
    ·have dg : Builtin.nextslicecap (n + m) cap * i.bytes ≤ 281474976710656 := growslice_fits (by omega) eW
     have holds : ∀ j v, xs[j]? = some v → w.cell? ((⟨g, 0, none⟩ : Addr).add j) = some v := by
      intro j v hj
      rw [Fe, Ff hg]
      obtain ⟨aU, he⟩ := lCv.1 hj
      simp [lE1 aU, hj]
     have hr := run_append_grow (P := P) w t o.type e i z hu hi hz ⟨g, 0, none⟩ n cap xs h1 holds ad m sc news dS iw (by omega) (by simp [maxLen] at bZ; omega) dg
     refine key _ _ hr ⟨M, _, Oh hs (R := [(g, Cl e (xs ++ sp))]) (by simpa using hp) _, ?_⟩
     have cp : n + m ≤ grownCap w (n + m) cap e := grownCap_ge w (n + m) cap e
     have ix := grownCap_le_maxLen w (n + m) cap e bZ
     have := hk (some (w.heap.size, grownCap w (n + m) cap e, (Builtin.zeroCells z.cells (grownCap w (n + m) cap e - (n + m))).toList)) (by
      simp only [Ey]
      refine ⟨by rw [lA4, h1, dS, lDq], ?_, cp, ix⟩
      simp only [lA4, h1, dS, Dx, hzs, ← lDq]; congr 1; omega) (by simp)
     simp only [osv, oad, Rd, osg, lDd] at this
     rw [Ad9]
     exact this
 ·cases lh : sa with
  | none => obtain ⟨h0, _⟩ := none_src lh; omega
  | some ad =>
   subst lh
   subst ey
   obtain ⟨dS, iw⟩ := Kq ag cE
   have dg : Builtin.nextslicecap (n + m) c * i.bytes ≤ 281474976710656 := growslice_fits (by omega) eW
   cases dT : xa with
   | none =>
    subst dT
    have gH : n = 0 ∧ xs = [] := by
     rcases i8 with ⟨h0, hn⟩ | ⟨b, off, he, _⟩
     ·rcases lFh.1 h0 with h1 | h1
      ·exact ⟨h1, hn⟩
      ·omega
     ·cases he
    obtain ⟨rfl, rfl⟩ := gH
    have cv := run_firstCells_some (P := P) w.drew i.size m ad m sc news dS (by simpa using iw)
    have hr : (Builtin.append_ #[t, t] o.type #[.slice none 0 c, .slice (some ad) m sc]).run P w =
      .ok (.slice (some ⟨w.heap.size, 0, none⟩) m (grownCap w m c e)) (w.drew.alloc (.cells (news.toArray ++ Builtin.zeroCells z.cells (grownCap w m c e - m)) e)) := by
     have q1 : ¬ m ≤ c := by omega
     have q2 : ¬ (9223372036854775807 < (m : Int)) := by simp [maxLen] at bZ; omega
     have q3 : ¬ (281474976710656 < Builtin.nextslicecap m c * i.bytes) := by simp at dg; omega
     simp [Builtin.append_, run_underlying hu, sizeOf, typeInfo, zeroValue, hi, hz, Builtin.lenOf, q1, q2, q3, Question.forced, run_firstCells_none, cv, newRow, grownCap]
    refine key _ _ hr ⟨M, _, Oh hs (R := []) (lAf _) _, ?_⟩
    have cp : m ≤ grownCap w m c e := grownCap_ge w m c e
    have ix := grownCap_le_maxLen w m c e (by simpa using bZ)
    have := hk w.heap.size (grownCap w m c e) (Builtin.zeroCells z.cells (grownCap w m c e - m)).toList (by
     simp only [Ey, lBi, lAj]
     refine ⟨dS, ?_, cp, ix⟩
     rw [lA4, dS, Dx, hzs, ← lDq]; congr 1; omega)
    simp only [osv, oad, Rd, osg, lBi, lAj, lDd] at this
    rw [show news.toArray ++ Builtin.zeroCells z.cells (grownCap w m c e - m) = (news ++ (Builtin.zeroCells z.cells (grownCap w m c e - m)).toList).toArray from by apply lF4; simp]
    exact this
   | some xad =>
    subst dT
    obtain ⟨ar, li⟩ := Kq ag i8
    have hr := run_append_grow (P := P) w t o.type e i z hu hi hz xad n c xs ar li ad m sc news dS iw (by omega) (by simp [maxLen] at bZ; omega) dg
    refine key _ _ hr ⟨M, _, Oh hs (R := []) (lAf _) _, ?_⟩
    have cp : n + m ≤ grownCap w (n + m) c e := grownCap_ge w (n + m) c e
    have ix := grownCap_le_maxLen w (n + m) c e bZ
    have := hk w.heap.size (grownCap w (n + m) c e) (Builtin.zeroCells z.cells (grownCap w (n + m) c e - (n + m))).toList (by
     simp only [Ey]
     refine ⟨by rw [lA4, ar, dS, lDq], ?_, cp, ix⟩
     simp only [lA4, ar, dS, Dx, hzs, ← lDq]; congr 1; omega)
    simp only [osv, oad, Rd, osg, lDd] at this
    rw [Ad9]
    exact this
theorem Kr {v : Value} {n y : Nat} {c : BoundsCode} (h : Qf v = some (n : Int)) (hn : n ≤ y) (w : World) : (Instr.sliceBound v y c).run P w = .ok n w := by
 obtain ⟨k, rfl⟩ := E4 h
 unfold Instr.sliceBound
 rw [Ad (a := (k, (n : Int))) (w' := w) rfl]
 simp [hn, Pure.pure, Sem.run]
theorem Rg {isS : Bool} {len cap l h m : Nat} {lo hi mx : Option Value} (h1 : match lo with | none => l = 0 | some v => Qf v = some (l : Int)) (h2 : match hi with | none => h = len | some v => Qf v = some (h : Int))
  (h3 : match mx with | none => m = cap | some v => Qf v = some (m : Int)) (pG : l ≤ h) (sM : h ≤ m) (t8 : m ≤ cap) (hx : hi.isSome = true ∨ mx.isNone = true) (w : World) :
  (Instr.sliceBounds isS len cap lo hi mx).run P w = .ok (l, h, m) w := by
 have e1 : (match mx with
  | some v => Instr.sliceBound v cap (if isS then .slice3Acap else .slice3Alen)
  | none => pure cap : Sem Nat).run P w = .ok m w := by
  cases mx with
  | none => simp at h3; subst h3; rfl
  | some v => exact Kr h3 t8 w
 have e2 : (match hi, mx with
  | some v, some _ => Instr.sliceBound v m .slice3B
  | some v, none => Instr.sliceBound v m (if isS then .sliceAcap else .sliceAlen)
  | none, none => pure len
  | none, some _ => stuck "Slice: max without high" : Sem Nat).run P w = .ok h w := by
  cases hi with
  | none =>
   cases mx with
   | none => simp at h2; subst h2; rfl
   | some v => simp at hx
  | some v => cases mx with
   | none => exact Kr h2 sM w
   | some u => exact Kr h2 sM w
 have e3 : (match lo with
  | some v => Instr.sliceBound v h (if mx.isSome then .slice3C else .sliceB)
  | none => pure 0 : Sem Nat).run P w = .ok l w := by
  cases lo with
  | none => simp at h1; subst h1; rfl
  | some v => exact Kr h1 pG w
 unfold Instr.sliceBounds
 cases mx with
 | none =>
  cases hi with
  | none =>
   cases lo with
   | none => simp at h1 h2 h3; subst h1 h2 h3; rfl
   | some u =>
    dsimp only at e1 e2 e3 ⊢
    rw [Ad e1]; (try dsimp only); rw [Ad e2, Ad e3]; rfl
  | some v =>
   cases lo with
   | none =>
    dsimp only at e1 e2 e3 ⊢
    rw [Ad e1]; (try dsimp only); rw [Ad e2, Ad e3]; rfl
   | some u =>
    dsimp only at e1 e2 e3 ⊢
    rw [Ad e1]; (try dsimp only); rw [Ad e2, Ad e3]; rfl
 | some x =>
  cases hi with
  | none => simp at hx
  | some v =>
   cases lo with
   | none =>
    dsimp only at e1 e2 e3 ⊢
    rw [Ad e1]; (try dsimp only); rw [Ad e2, Ad e3]; rfl
   | some u =>
    dsimp only at e1 e2 e3 ⊢
    rw [Ad e1]; (try dsimp only); rw [Ad e2, Ad e3]; rfl
theorem Ks (hf : Fc C.nt ρ a) {x : Option Operand} {x' : Option A} (hx : cAo x = some x') {v : Option Value} (hv : evo ρ x' = some v) : x.map a.eval = v := by
 cases x with
 | none => simp [cAo] at hx; subst hx; simp [evo] at hv; subst hv; rfl
 | some y =>
  simp only [cAo] at hx
  cases hy : cA y with
  | none => simp [hy] at hx
  | some y' =>
   simp [hy] at hx; subst hx
   simp only [evo] at hv
   cases he : ev ρ y' with
   | none => simp [he] at hv
   | some u => simp [he] at hv; subst hv; simp [Am hf hy he]
theorem Av8 {t e : TypeId} {x : Operand} {x' : A} {lo hi mx : Option Operand} {lo' aC mx' : Option A} {sz : Nat} (h : o.op = .slice t x lo hi mx) (hx : cA x = some x') (hlo : cAo lo = some lo') (hhi : cAo hi = some aC) (hmx : cAo mx = some mx')
  (hu : P.underlying t = some (.slice e)) (aO : (P.info? e).map (·.size) = some sz) (hf : Fc C.nt ρ a) (hs : C.St M G w) (hw : opW C ρ M G K (.slS sz x' lo' aC mx')) : Wi C K o a w := by
 simp only [opW] at hw
 obtain ⟨vx, ae, hw⟩ := Ab.1 hw
 obtain ⟨vlo, kI, hw⟩ := Ab.1 hw
 obtain ⟨vhi, kJ, hw⟩ := Ab.1 hw
 obtain ⟨vmx, pH, hw⟩ := Ab.1 hw
 obtain ⟨s, ak, l, hh, m, h1, h2, h3, h4, h5, h6, h7, hk⟩ := Ab.1 hw
 obtain ⟨sa, n, c⟩ := s
 have ey := Ez ak
 dsimp only at ey h2 h3 h6 hk
 subst ey
 refine Ip.value (w' := w) ?_ ⟨M, G, hs, hk⟩
 simp only [execOp, h, Am hf hx ae, Ks hf hlo kI, Ks hf hhi kJ, Ks hf hmx pH]
 refine A7 ?_
 unfold Instr.sliceAt
 rw [Ad (Ai hu w)]
 dsimp only
 unfold Instr.slice
 rw [Ad (Ai hu w)]
 dsimp only
 rw [Ad (Rg h1 h2 h3 h4 h5 h6 h7 w)]
 dsimp only
 rw [Ad (Bl aO w)]
 rfl
theorem Av9 {t e : TypeId} {x : Operand} {x' : A} {lo hi : Option Operand} {lo' aC : Option A} {n sz : Nat} (h : o.op = .slice t x lo hi none) (hx : cA x = some x') (hlo : cAo lo = some lo') (hhi : cAo hi = some aC)
  (hu : P.underlying t = some (.array n e)) (aO : (P.info? e).map (·.size) = some sz) (hf : Fc C.nt ρ a) (hs : C.St M G w) (hw : opW C ρ M G K (.slA n sz x' lo' aC)) : Wi C K o a w := by
 simp only [opW] at hw
 obtain ⟨vx, ae, hw⟩ := Ab.1 hw
 obtain ⟨vlo, kI, hw⟩ := Ab.1 hw
 obtain ⟨vhi, kJ, hw⟩ := Ab.1 hw
 obtain ⟨p, hp, l, hh, h1, h2, h4, h5, hk⟩ := Ab.1 hw
 have ep := Cp hp
 subst ep
 refine Ip.value (w' := w) ?_ ⟨M, G, hs, hk⟩
 simp only [execOp, h, Am hf hx ae, Ks hf hlo kI, Ks hf hhi kJ, Option.map_none]
 refine A7 ?_
 unfold Instr.sliceAt
 rw [Ad (Ai hu w)]
 dsimp only
 rw [Ad (a := ⟨p.1, p.2, none⟩) (w' := w) rfl]
 rw [Ad (Rg (isS := false) (mx := none) (m := n) (cap := n) h1 h2 rfl h4 h5 (lA5 _) (.inr rfl) w)]
 dsimp only
 rw [Ad (Bl aO w)]
 by_cases dS : n = l
 ·simp [dS, Pure.pure, Sem.run]
 ·simp [dS, Fe, Pure.pure, Sem.run]
theorem Z4 {t e : TypeId} {x y : Operand} {i : TypeInfo} {z : Value} {x' y' : A} (h : o.op = .call { callee := .builtin .append, args := #[x, y], argTypes := #[t, t] }) (hx : cA x = some x') (hy : cA y = some y')
  (hu : P.underlying t = some (.slice e)) (hi : P.info? e = some i) (hz : i.zero = some z) (hzs : z.cells.size = i.size) (hpos : 0 < i.size)
  (hf : Fc C.nt ρ a) (hs : C.St M G w) (hw : opW C ρ M G K (.append e i.size i.bytes z.cells.toList x' y')) : Wi C K o a w := by
 have h0 : Wi C (fun v M G => ∃ G2, G.Perm G2 ∧ K v M G2) o a w := by
  refine Wm h hx hy hu hi hz hzs hpos hf hs ?_
  simp only [opW] at hw
  unfold Av4
  obtain ⟨vx, ae, hw⟩ := Ab.1 hw
  obtain ⟨vy, dz, hw⟩ := Ab.1 hw
  obtain ⟨s, ak, news, cE, ai, hw⟩ := Ab.1 hw
  refine Ab.2 ⟨vx, ae, Ab.2 ⟨vy, dz, Ab.2 ⟨s, ak, news, cE, ai, ?_⟩⟩⟩
  rcases hw with ⟨ov, n, xs, G', e1, aQ, hp, bZ, eW, hk⟩ | ⟨xa, n, c, xs, e1, i8, hm, hc, bZ, eW, hk⟩
  ·exact .inl ⟨ov, n, xs, G', e1, aQ, hp, bZ, eW, fun o' h1 h2 => ⟨_, lBt, hk o' h1 h2⟩⟩
  ·exact .inr ⟨xa, n, c, xs, e1, i8, hm, hc, bZ, eW, fun b cap sp h1 => ⟨_, lBt, hk b cap sp h1⟩⟩
 refine Ip.mono h0 ?_
 rintro v w' ⟨M', G', ah, G2, hp, hk⟩
 exact ⟨M', G2, ah.perm hp, hk⟩
theorem Wn {t t' e : TypeId} {kn : IntKind} {x y : Operand} {i : TypeInfo} {z : Value} {x' y' : A} (h : o.op = .call { callee := .builtin .append, args := #[x, y], argTypes := #[t, t'] }) (hx : cA x = some x') (hy : cA y = some y')
  (hu : P.underlying t = some (.slice e)) (hu' : P.underlying t' = some (.int kn)) (hi : P.info? e = some i) (hz : i.zero = some z) (hzs : z.cells.size = i.size) (hpos : 0 < i.size)
  (hf : Fc C.nt ρ a) (hs : C.St M G w) (hw : opW C ρ M G K (.appendZ e i.size i.bytes z.cells.toList x' y')) : Wi C K o a w := by
 simp only [opW] at hw
 obtain ⟨vx, ae, hw⟩ := Ab.1 hw
 obtain ⟨vy, dz, hw⟩ := Ab.1 hw
 obtain ⟨s, ak, hw⟩ := Ab.1 hw
 obtain ⟨j, hj, xs, i8, sN, hc, bZ, eW, hk⟩ := Ab.1 hw
 obtain ⟨xa, n, c⟩ := s
 have ex := Ez ak
 obtain ⟨kq, ey⟩ := E4 hj
 subst ex ey
 dsimp only at i8 hc bZ eW hk
 obtain ⟨m, rfl⟩ : ∃ m : Nat, j = m := ⟨j.toNat, by omega⟩
 simp only [lAy] at hc bZ eW hk
 have evx := Am hf hx ae
 have evy := Am hf hy dz
 have ag : ∀ b ob, (M.add G) b ob → w.heap[b]? = some ob := fun b ob hb => hs.agreeAdd hb
 have key : ∀ v w', (Builtin.append_ #[t, t'] o.type #[.slice xa n c, .int kq m]).run P w = .ok v w' → (∃ M' G', C.St M' G' w' ∧ K v M' G') → Wi C K o a w := by
  intro v w' hr hk
  refine Ip.value (v := v) (w' := w') ?_ hk
  simp only [execOp, h]
  have aF : ∃ cs, (resolve a.eval { callee := .builtin .append, args := #[x, y], argTypes := #[t, t'] } o.type).run P w = .ok { target := .builtin .append #[t, t'] o.type cs, args := #[a.eval x, a.eval y] } w :=
   ⟨_, by simp [resolve, Pure.pure, Sem.run]; rfl⟩
  obtain ⟨cs, aF⟩ := aF
  rw [Ad aF]
  rw [evx, evy]
  exact A7 hr
 have dg : Builtin.nextslicecap (n + m) c * i.bytes ≤ 281474976710656 := growslice_fits (by omega) eW
 have pI : m * i.bytes ≤ 281474976710656 := by
  have : m * i.bytes ≤ (n + m) * i.bytes := lBw _ (by omega)
  omega
 have gJ : xs.length = n * i.size ∧ (Builtin.firstCells i.size n (.slice xa n c)).run P w.drew = .ok xs.toArray w.drew := by
  cases dT : xa with
  | none =>
   subst dT
   have gH : n = 0 ∧ xs = [] := by
    rcases i8 with ⟨h0, hn⟩ | ⟨b, off, he, _⟩
    ·rcases lFh.1 h0 with h1 | h1
     ·exact ⟨h1, hn⟩
     ·omega
    ·cases he
   obtain ⟨rfl, rfl⟩ := gH
   exact ⟨by simp, by simp [Builtin.firstCells, loadCells, loadCellsFrom]⟩
  | some xad =>
   subst dT
   obtain ⟨ar, li⟩ := Kq ag i8
   exact ⟨ar, run_firstCells_some (P := P) w.drew i.size n xad n c xs ar (by simpa using li)⟩
 obtain ⟨ar, eV⟩ := gJ
 have hr := Lib.run_append_grow_zeros (P := P) w t t' o.type e i z kq kn hu hu' hi hz xa n c xs eV m (by omega) hpos hc (by simp [maxLen] at bZ; omega) pI dg
 refine key _ _ hr ⟨M, _, (Oh hs (R := []) (lAf _) _).perm (lBt (l₁ := [_]) (l₂ := G)), ?_⟩
 have cp : n + m ≤ grownCap w (n + m) c e := grownCap_ge w (n + m) c e
 have ix := grownCap_le_maxLen w (n + m) c e bZ
 have hzc : Builtin.zeroCells z.cells m = ((List.replicate m z.cells.toList).flatten).toArray := by
  apply lF4
  rw [← cyc]
  rfl
 have := hk w.heap.size (grownCap w (n + m) c e) (Builtin.zeroCells z.cells (grownCap w (n + m) c e - (n + m))).toList (by
  simp only [Ey]
  have eX : ((List.replicate m z.cells.toList).flatten).length = m * i.size := by simp [hzs]
  refine ⟨by rw [lA4, ar, eX, lDq], ?_, cp, ix⟩
  simp only [lA4, ar, eX, Dx, hzs, ← lDq]; congr 1; omega)
 simp only [osv, oad, Rd, osg] at this
 rw [hzc, Ad9]
 exact this
theorem Wo (Ga Gb : Own) (p : Nat × Obj) : (Ga ++ p :: Gb)[Ga.length]? = some p := by simp
theorem Wp (Ga Gb : Own) (p q : Nat × Obj) : (Ga ++ p :: Gb).set Ga.length q = Ga ++ q :: Gb := by
 rw [List.set_append_right _ _ (lA5 _)]; simp
theorem Z5 {t e : TypeId} {x y : Operand} {x' y' : A} {i : TypeInfo} {z : Value} (h : o.op = .makeSlice t x y) (hx : cA x = some x') (hy : cA y = some y')
  (hu : P.underlying t = some (.slice e)) (hi : P.info? e = some i) (hz : i.zero = some z) (hzs : z.cells.size = i.size) (hpos : 0 < i.size)
  (hf : Fc C.nt ρ a) (hs : C.St M G w) (hw : opW C ρ M G K (.makeSl e i.size i.bytes z.cells.toList x' y')) : Wi C K o a w := by
 simp only [opW] at hw
 obtain ⟨vx, ae, hw⟩ := Ab.1 hw
 obtain ⟨vy, dz, hw⟩ := Ab.1 hw
 obtain ⟨n, hn, hw⟩ := Ab.1 hw
 obtain ⟨c, hc, h0, iw, bZ, eW, hk⟩ := Ab.1 hw
 obtain ⟨kx, rfl⟩ := E4 hn
 obtain ⟨ky, rfl⟩ := E4 hc
 have hr := run_make (P := P) w t e i z hu hi hz kx ky n c h0 iw (by rw [Int.mul_comm]; omega) (by omega)
 refine Ip.value (v := .slice (some ⟨w.heap.size, 0, none⟩) n.toNat c.toNat) (w' := w.alloc (.cells (madeCells z.cells (c.toNat * i.size)) e)) ?_ ⟨M, _, hs.alloc _, ?_⟩
 ·simp only [execOp, h, Am hf hx ae, Am hf hy dz]
  exact A7 hr
 ·have := hk w.heap.size
  rw [← cyc z.cells c.toNat] at this
  have e1 : madeCells z.cells (c.toNat * i.size) = ((Array.range (c.toNat * z.cells.size)).map fun j => z.cells[j % z.cells.size]!) := by
   rw [hzs]; unfold madeCells
   by_cases h0 : c.toNat * i.size = 0
   ·simp [h0]
   ·simp [h0, hzs]
  rw [e1]
  exact this
theorem Kt {t : TypeId} {k : LK} (ht : Ub P t = some k) {xs : List Value} {off : Nat} {v : Value} (h : xs[off]? = some v) : (part t xs.toArray off).run P w = .ok v w := by
 have ha : Of P t = some false := by
  unfold Ub at ht; unfold Of
  cases hu : P.underlying t with
  | none => simp [hu] at ht
  | some d => rw [hu] at ht; cases d <;> simp_all
 unfold part
 rw [Ad (Dw ha w)]
 simp [h, Pure.pure, Sem.run]
theorem Rh {t : TypeId} {k : LK} (ht : Ub P t = some k) {x y : Value} {r : Bool} (h : Rc k x y = some r) (d : Nat) : (Op.equalIn (d + 1) t x y).run P w = .ok r w := by
 unfold Ub at ht
 split at ht
 ·rename_i k0 hu
  cases ht
  cases x <;> cases y <;> simp [Rc] at h
  obtain ⟨rfl, h⟩ := h
  rw [run_equalIn_int w d t _ k0 _ _ hu, ← h]
  congr 1
 ·rename_i hu
  cases ht
  cases x <;> cases y <;> simp [Rc] at h
  rw [run_equalIn_bool' w d t _ _ hu, h]
 ·rename_i hu
  cases ht
  cases x <;> cases y <;> simp [Rc] at h
  rw [run_equalIn_string w d t _ _ hu, h]
 ·cases ht
theorem Ku (d : Nat) {xs ys : List Value} : ∀ (fs : List Field) (i : Nat) (ks : List LK) (r : Bool), Ad4 P i fs = some ks → eqL ks (xs.drop i) (ys.drop i) = some r → (Op.eqFields (d + 1) xs.toArray ys.toArray fs).run P w = .ok r w
 | [], i, ks, r, h1, h2 => by
  simp [Ad4] at h1; subst h1
  cases hx : xs.drop i <;> cases hy : ys.drop i <;> simp [hx, hy, eqL] at h2
  subst h2
  simp [Op.eqFields, Pure.pure, Sem.run]
 | f :: fs, i, ks, r, h1, h2 => by
  simp only [Ad4] at h1
  split at h1
  ·rename_i hc
   obtain ⟨hn, ho⟩ := hc
   split at h1
   ·rename_i k ks' hk ta
    cases h1
    cases hx : xs.drop i with
    | nil => simp [hx, eqL] at h2
    | cons x xs' =>
     cases hy : ys.drop i with
     | nil => simp [hx, hy, eqL] at h2
     | cons y ys' =>
      simp only [hx, hy, eqL] at h2
      split at h2
      ·rename_i a b ha hb
       cases h2
       have ex : xs[f.offset]? = some x := by
        have := congrArg (·[0]?) hx
        simpa [ho] using this
       have ey : ys[f.offset]? = some y := by
        have := congrArg (·[0]?) hy
        simpa [ho] using this
       have dx : xs.drop (i + 1) = xs' := by rw [← lEo, hx]; rfl
       have dy : ys.drop (i + 1) = ys' := by rw [← lEo, hy]; rfl
       unfold Op.eqFields
       rw [if_pos hn, Ad (Kt hk ex), Ad (Kt hk ey), Ad (Rh hk ha d)]
       cases a
       ·simp [Pure.pure, Sem.run]
       ·simp only [lBd, lC8, if_false, lC5]
        exact Ku d fs (i + 1) ks' b ta (by rw [dx, dy]; exact hb)
      ·cases h2
   ·cases h1
  ·cases h1
theorem Ml (d : Nat) {e : TypeId} {k : LK} (hk : Ub P e = some k) {xs ys : List Value} : ∀ (n i : Nat) (r : Bool), eqL (List.replicate n k) (xs.drop i) (ys.drop i) = some r → (Op.eqItems (d + 1) e 1 xs.toArray ys.toArray (List.range' i n)).run P w = .ok r w
 | 0, i, r, h2 => by
  cases hx : xs.drop i <;> cases hy : ys.drop i <;> simp [hx, hy, eqL] at h2
  subst h2
  simp [Op.eqItems, Pure.pure, Sem.run]
 | n + 1, i, r, h2 => by
  cases hx : xs.drop i with
  | nil => simp [hx, eqL, lE8] at h2
  | cons x xs' =>
   cases hy : ys.drop i with
   | nil => simp [hx, hy, eqL, lE8] at h2
   | cons y ys' =>
    simp only [hx, hy, eqL, lE8] at h2
    split at h2
    ·rename_i a b ha hb
     cases h2
     have ex : xs[i * 1]? = some x := by
      have := congrArg (·[0]?) hx
      simpa using this
     have ey : ys[i * 1]? = some y := by
      have := congrArg (·[0]?) hy
      simpa using this
     have dx : xs.drop (i + 1) = xs' := by rw [← lEo, hx]; rfl
     have dy : ys.drop (i + 1) = ys' := by rw [← lEo, hy]; rfl
     rw [List.range'_succ]
     unfold Op.eqItems
     rw [Ad (Kt hk ex), Ad (Kt hk ey), Ad (Rh hk ha d)]
     cases a
     ·simp [Pure.pure, Sem.run]
     ·simp only [lBd, lC8, if_false, lC5]
      exact Ml d hk n (i + 1) b (by rw [dx, dy]; exact hb)
    ·cases h2
theorem An5 {t : TypeId} {ks : List LK} (he : Bj3 P t = some ks) {xs ys : List Value} {r : Bool} (h : eqL ks xs ys = some r) : (Op.equal t (.agg xs.toArray) (.agg ys.toArray)).run P w = .ok r w ∧ P.eqGuardType P.depth t = false := by
 have hd : Op.equal t (.agg xs.toArray) (.agg ys.toArray) = Op.equalIn (9998 + 1 + 1) t (.agg xs.toArray) (.agg ys.toArray) := rfl
 rw [hd]
 unfold Bj3 at he
 split at he
 ·rename_i fs hu
  split at he
  ·rename_i hc
   simp only [lA6, lB6] at hc
   refine ⟨?_, hc.2⟩
   have jh : P.fieldsOf t = fs := by simp [Program.fieldsOf, hu]
   rw [run_equalIn_struct w _ t _ _ (by rw [jh]; exact hu) hc.1, jh]
   exact Ku 9998 fs.toList 0 ks r he (by simpa using h)
  ·cases he
 ·rename_i n e hu
  split at he
  ·rename_i hc
   simp only [lA6, lB6, decide_eq_true_eq] at hc
   refine ⟨?_, hc.2⟩
   cases hi : P.info? e with
   | none => simp [hi] at hc
   | some i =>
    cases hk : Ub P e with
    | none => simp [hk] at he
    | some k =>
     simp [hk] at he
     subst he
     rw [run_equalIn_array w _ _ _ hu hi]
     have aS : P.cellsOf e = 1 := by
      have := hc.1
      simp [hi] at this
      simp [Program.cellsOf, hi, this]
     rw [aS, lFd]
     exact Ml 9998 hk n 0 r (by simpa using h)
  ·cases he
 ·cases he
theorem Aw0 {neg : Bool} {t u : TypeId} {x y : Operand} {ks : List LK} {xs ys : List Value} {r : Bool} (h : o.op = .binOp (if neg then .neq else .eql) t x y u) (he : Bj3 P t = some ks) (hx : a.eval x = .agg xs.toArray) (hy : a.eval y = .agg ys.toArray) (hr : eqL ks xs ys = some r) :
  (execOp a.eval o).run P w = .ok (.value (.bool (xor neg r))) w := by
 obtain ⟨hq, tc⟩ := An5 (w := w) he hr
 simp only [execOp, h, hx, hy]
 refine A7 (v := .bool (xor neg r)) ?_
 have hg : ∀ op, (eqGuard op t x y (.agg xs.toArray) (.agg ys.toArray)).run P w = .ok () w := fun op => run_eqGuard_agg w op t x y _ _ tc
 rw [Ad (hg _)]
 cases neg
 ·show (do pure (Value.bool (← Op.equal t (.agg xs.toArray) (.agg ys.toArray))) : Sem Value).run P w = _
  rw [Ad hq]; simp [Pure.pure, Sem.run]
 ·show (do pure (Value.bool (!(← Op.equal t (.agg xs.toArray) (.agg ys.toArray)))) : Sem Value).run P w = _
  rw [Ad hq]; simp [Pure.pure, Sem.run]
theorem Aw1 {neg : Bool} {t u e : TypeId} {x : Operand} {p : Option Addr} {n c : Nat} (h : o.op = .binOp (if neg then .neq else .eql) t x (.const (.slice none 0 0)) u) (hu : P.underlying t = some (.slice e)) (hx : a.eval x = .slice p n c) :
  (execOp a.eval o).run P w = .ok (.value (.bool (xor neg p.isNone))) w := by
 have hd : ∀ (d : Nat) (w : World), (Op.equalIn (d + 1) t (.slice p n c) (.slice none 0 0)).run P w = .ok p.isNone w := by
  intro d w
  unfold Op.equalIn
  rw [Ad (Ai hu w)]
  cases p <;> rfl
 have he : ∀ w : World, (Op.equal t (.slice p n c) (.slice none 0 0)).run P w = .ok p.isNone w := fun w => hd 9999 w
 have hy : a.eval (.const (.slice none 0 0)) = .slice none 0 0 := rfl
 simp only [execOp, h, hx, hy]
 refine A7 (v := .bool (xor neg p.isNone)) ?_
 have hg : ∀ op, (eqGuard op t x (.const (.slice none 0 0)) (.slice p n c) (.slice none 0 0)).run P w = .ok () w := by
  intro op; cases op <;> simp [eqGuard, Pure.pure]
 rw [Ad (hg _)]
 cases neg
 ·show (do pure (Value.bool (← Op.equal t (.slice p n c) (.slice none 0 0))) : Sem Value).run P w = _
  rw [Ad (he w)]; simp [Pure.pure, Sem.run]
 ·show (do pure (Value.bool (!(← Op.equal t (.slice p n c) (.slice none 0 0)))) : Sem Value).run P w = _
  rw [Ad (he w)]; simp [Pure.pure, Sem.run]
theorem An6 {t e : TypeId} {x i : Operand} {n : Nat} {l : List Value} {k : IntKind} {j : Int} {v : Value} (h : o.op = .index t x i) (hu : P.underlying t = some (.array n e)) (ha : Of P e = some false) (hs : (P.info? e).map (·.size) = some 1)
  (hx : a.eval x = .agg l.toArray) (hi : a.eval i = .int k j) (h0 : 0 ≤ j) (h1 : j < n) (hv : l[j.toNat]? = some v) : (execOp a.eval o).run P w = .ok (.value v) w := by
 simp only [execOp, h, hx, hi]
 refine A7 ?_
 unfold Instr.index
 rw [Ad (a := (k, j)) (w' := w) rfl]
 dsimp only
 rw [Ad (Ai hu w)]
 simp only [h0, h1, and_self, if_true]
 rw [Ad (Bl hs w)]
 unfold part
 rw [Ad (Dw ha w)]
 simp [hv, Pure.pure, Sem.run]
theorem An7 {t e : TypeId} {x i : Operand} {n sz : Nat} {l : List Value} {k : IntKind} {j : Int} (h : o.op = .index t x i) (hu : P.underlying t = some (.array n e)) (ha : Of P e = some true) (hs : (P.info? e).map (·.size) = some sz)
  (hx : a.eval x = .agg l.toArray) (hi : a.eval i = .int k j) (h0 : 0 ≤ j) (h1 : j < n) : (execOp a.eval o).run P w = .ok (.value (.agg ((l.drop (j.toNat * sz)).take sz).toArray)) w := by
 simp only [execOp, h, hx, hi]
 refine A7 ?_
 unfold Instr.index
 rw [Ad (a := (k, j)) (w' := w) rfl]
 dsimp only
 rw [Ad (Ai hu w)]
 simp only [h0, h1, and_self, if_true]
 rw [Ad (Bl hs w)]
 unfold part
 rw [Ad (Dw ha w)]
 simp only [if_true]
 rw [Ad (Bl hs w)]
 simp [Pure.pure, Sem.run, List.extract]
theorem rd.pre {H : Aa} {b off n m : Nat} {cs : List Value} (h : rd H b off n cs) (hm : m ≤ n) : rd H b off m (cs.take m) := by
 obtain ⟨c, T, fz, h1, h2, h3⟩ := h
 refine ⟨c, T, fz, h1, by omega, ?_⟩
 rw [h3, lDb, lC0 hm]
theorem Kv {z : Value} {cs : Array Value} (h : cs.toList = [z]) (n : Nat) : (Builtin.zeroCells cs n).toList = List.replicate n z := by
 obtain ⟨l⟩ := cs
 simp only at h
 subst h
 simp only [Builtin.zeroCells, lE3, lCd, lAu, Nat.mod_one, Array.toList_map, Array.toList_range]
 apply lEc
 ·simp
 ·intro i h1 h2; simp
theorem Z6 {t e : TypeId} {x : Operand} {x' : A} {z z' : Value} (h : o.op = .call { callee := .builtin .clear, args := #[x], argTypes := #[t] }) (hx : cA x = some x') (hu : P.underlying t = some (.slice e))
  (hz : (P.info? e).bind (·.zero) = some z) (hzc : z.cells.toList = [z']) (h1 : z'.oneCell' = true) (hf : Fc C.nt ρ a) (hs : C.St M G w) (hw : opW C ρ M G K (.clearS z' x')) : Wi C K o a w := by
 simp only [opW] at hw
 obtain ⟨vx, ae, hw⟩ := Ab.1 hw
 obtain ⟨s, ak, bR⟩ := Ab.1 hw
 obtain ⟨sa, n, sc⟩ := s
 have ex := Ez ak
 dsimp only at ex bR
 have evx := Am hf hx ae
 subst ex
 have key : ∀ w', (Builtin.clear_ #[t] o.type #[.slice sa n sc]).run P w = .ok (.tuple #[]) w' → (∃ M' G', C.St M' G' w' ∧ K (.tuple #[]) M' G') → Wi C K o a w := by
  intro w' hr hk
  refine Ip.value (v := .tuple #[]) (w' := w') ?_ hk
  simp only [execOp, h]
  have aF : ∃ cs, (resolve a.eval { callee := .builtin .clear, args := #[x], argTypes := #[t] } o.type).run P w = .ok { target := .builtin .clear #[t] o.type cs, args := #[a.eval x] } w :=
   ⟨_, by simp [resolve, Pure.pure, Sem.run]; rfl⟩
  obtain ⟨cs, aF⟩ := aF
  rw [Ad aF, evx]
  exact A7 hr
 rcases bR with ⟨h0, hk⟩ | ⟨b, off, T, cs, Ga, Gb, rfl, hn, rfl, hl, hk⟩
 ·subst h0
  refine key w ?_ ⟨M, G, hs, hk⟩
  show (do let d ← underlying t; _ : Sem Value).run P w = _
  rw [Ad (Ai hu w)]
  cases sa <;> rfl
 ·have hi := Wo Ga Gb (b, Cl T cs)
  have hb : w.heap[b]? = some (Cl T cs) := hs.own (b, Cl T cs) (lCb hi)
  obtain ⟨w', hr, q1, q2, q3, q4, q5, q6⟩ := Gw (P := P) (vs := List.replicate n z') hb (o := off) (by rw [lDe]; exact hl) (fun v hv => by rw [List.eq_of_mem_replicate hv]; exact h1)
  refine key w' ?_ ⟨M, _, hs.put hi q1 q2 q3 q4 q5 q6, ?_⟩
  ·show (do let d ← underlying t; _ : Sem Value).run P w = _
   rw [Ad (Ai hu w)]
   obtain ⟨m, rfl⟩ : ∃ m, n = m + 1 := ⟨n - 1, by omega⟩
   show (do storeCells ⟨b, off, none⟩ (Builtin.zeroCells (← zeroValue e).cells (m + 1)).toList; pure (.tuple #[]) : Sem Value).run P w = _
   have h2 : (do storeCells ⟨b, off, none⟩ (Builtin.zeroCells (← zeroValue e).cells (m + 1)).toList : Sem Unit).run P w = .ok () w' := by
    rw [Ad (Ko hz w), Kv hzc]; exact hr
   rw [Ad (Ko hz w), Kv hzc, Ad hr]; rfl
  ·rw [Wp]; exact hk
theorem Ae0 {t t' e : TypeId} {x y : Operand} {x' y' : A} {sz : Nat} (h : o.op = .call { callee := .builtin .copy, args := #[x, y], argTypes := #[t, t'] }) (hx : cA x = some x') (hy : cA y = some y')
  (hu : P.underlying t = some (.slice e)) (aO : (P.info? e).map (·.size) = some sz) (hf : Fc C.nt ρ a) (hs : C.St M G w) (hw : opW C ρ M G K (.copyO sz x' y')) : Wi C K o a w := by
 simp only [opW] at hw
 obtain ⟨vx, ae, hw⟩ := Ab.1 hw
 obtain ⟨vy, dz, hw⟩ := Ab.1 hw
 obtain ⟨d, hd, hw⟩ := Ab.1 hw
 obtain ⟨s, ak, news, cE, ai, bR⟩ := Ab.1 hw
 obtain ⟨da, dn, dc⟩ := d
 obtain ⟨sa, m, sc⟩ := s
 have ex := Ez hd
 have ey := Ez ak
 dsimp only at ex ey cE bR
 have evx := Am hf hx ae
 have evy := Am hf hy dz
 have ag : ∀ b ob, (M.add G) b ob → w.heap[b]? = some ob := fun b ob hb => hs.agreeAdd hb
 have key : ∀ v w', (Builtin.copy_ #[t, t'] o.type #[vx, vy]).run P w = .ok v w' → (∃ M' G', C.St M' G' w' ∧ K v M' G') → Wi C K o a w := by
  intro v w' hr hk
  refine Ip.value (v := v) (w' := w') ?_ hk
  simp only [execOp, h]
  have aF : ∃ cs, (resolve a.eval { callee := .builtin .copy, args := #[x, y], argTypes := #[t, t'] } o.type).run P w = .ok { target := .builtin .copy #[t, t'] o.type cs, args := #[a.eval x, a.eval y] } w :=
   ⟨_, by simp [resolve, Pure.pure, Sem.run]; rfl⟩
  obtain ⟨cs, aF⟩ := aF
  rw [Ad aF, evx, evy]
  exact A7 hr
 subst ex ey
 have mI : ∃ cells : Array Value, (Builtin.firstCells sz (min m dn) (.slice sa m sc)).run P w = .ok cells w ∧ cells.toList = news.take (min m dn * sz) := by
  have aY : min m dn * sz ≤ m * sz := lBw _ (Nat.min_le_left _ _)
  cases sa with
  | none =>
   refine ⟨#[], rfl, ?_⟩
   rcases cE with ⟨_, rfl⟩ | ⟨b, off, he, _⟩
   ·simp
   ·cases he
  | some ad =>
   rcases cE with ⟨h0, rfl⟩ | ⟨b, off, he, aH⟩
   ·refine ⟨#[], ?_, by simp⟩
    have : min m dn * sz = 0 := by omega
    simp [Builtin.firstCells, this, loadCells, loadCellsFrom, Pure.pure, Sem.run]
   ·cases he
    refine ⟨(news.take (min m dn * sz)).toArray, ?_, by simp⟩
    exact H1 ag (aH.pre aY)
 obtain ⟨cells, aT, hc⟩ := mI
 have mJ : ∀ w', (match da with | some ad => storeCells ad cells.toList | none => pure () : Sem Unit).run P w = .ok () w' → (Builtin.copy_ #[t, t'] o.type #[.slice da dn dc, .slice sa m sc]).run P w = .ok (.int .i64 (min m dn : Nat)) w' := by
  intro w' aa
  show (do let d ← underlying t; _ : Sem Value).run P w = _
  rw [Ad (Ai hu w)]
  cases da with
  | none =>
   show (do let q ← sizeOf e; let cells ← Builtin.firstCells q (min m dn) (.slice sa m sc); pure (goInt (min m dn : Nat)) : Sem Value).run P w = _
   rw [Ad (Bl aO w), Ad aT]
   cases aa; rfl
  | some ad =>
   show (do let q ← sizeOf e; let cells ← Builtin.firstCells q (min m dn) (.slice sa m sc); storeCells ad cells.toList; pure (goInt (min m dn : Nat)) : Sem Value).run P w = _
   rw [Ad (Bl aO w), Ad aT]
   exact (Ad aa).trans rfl
 rcases bR with ⟨h0, hk⟩ | ⟨b, off, T, cs, Ga, Gb, rfl, rfl, hl, hk⟩
 ·have ji : cells.toList = [] := by rw [hc, h0]; simp
  refine key _ w (mJ w ?_) ⟨M, G, hs, hk⟩
  cases da with
  | none => rfl
  | some ad => simp [ji, storeCells, Pure.pure, Sem.run]
 ·have hi := Wo Ga Gb (b, Cl T cs)
  have hb : w.heap[b]? = some (Cl T cs) := hs.own (b, Cl T cs) (lCb hi)
  have aG : (news.take (min m dn * sz)).length ≤ min m dn * sz := by simp; omega
  obtain ⟨w', hr, q1, q2, q3, q4, q5, q6⟩ := Gw (P := P) (vs := cells.toList) hb (o := off) (by rw [hc]; omega) (by rw [hc]; exact fun v hv => ai v hv)
  refine key _ w' (mJ w' hr) ⟨M, _, hs.put hi q1 q2 q3 q4 q5 q6, ?_⟩
  rw [hc, Wp]; exact hk
end
variable {P : Program}
section
variable {C : Cx P} {ρ : Env} {M : Aa} {G : Own} {K : Value → Aa → Own → Prop} {a : Act} {w : World} {o : Oper} {r : ROp}
theorem Jf (hf : Fc C.nt ρ a) {l : Array Operand} {m : List A} (h : cAs l.toList = some m) {vs : List Value} (hv : evs ρ m = some vs) : l.map a.eval = vs.toArray := by
 rw [← X6 hf h hv]
 apply lF4
 simp
theorem Oi (hc : Cmp P o r) (hf : Fc C.nt ρ a) (hs : C.St M G w) (hw : opW C ρ M G K r) : Wi C K o a w := by
 have ag : ∀ b ob, (M.add G) b ob → w.heap[b]? = some ob := fun b ob hb => hs.agreeAdd hb
 cases hc with
 | mv h hx =>
  obtain ⟨v, hv, hk⟩ := Ab.1 hw
  refine A2 (v := v) ?_ hs hk
  rcases h with h | h <;> simp only [execOp, h, Am hf hx hv] <;> rfl
 | pick h hc ha hb =>
  obtain ⟨vc, td, hw⟩ := Ab.1 hw
  obtain ⟨c, iy, hw⟩ := Ab.1 hw
  obtain ⟨v, hv, hk⟩ := Ab.1 hw
  have := C3 iy
  subst this
  refine A2 (v := v) ?_ hs hk
  simp only [execOp, h, Am hf hc td]
  rw [Ad (a := c) (w' := w) rfl]
  cases c with
  | true => simp at hv; simp [Am hf ha hv, Pure.pure, Sem.run]
  | false => simp at hv; simp [Am hf hb hv, Pure.pure, Sem.run]
 | bin h hx hy =>
  obtain ⟨x, ae, hw⟩ := Ab.1 hw
  obtain ⟨y, dz, hw⟩ := Ab.1 hw
  obtain ⟨v, hv, hk⟩ := Ab.1 hw
  refine A2 (v := v) ?_ hs hk
  simp only [execOp, h, Am hf hx ae, Am hf hy dz]
  exact A7 (Ad5 hv)
 | eqb h hu hx hy =>
  obtain ⟨x, ae, hw⟩ := Ab.1 hw
  obtain ⟨y, dz, hw⟩ := Ab.1 hw
  obtain ⟨b, hb, hw⟩ := Ab.1 hw
  obtain ⟨c, hc, hk⟩ := Ab.1 hw
  have e1 := C3 hb
  have e2 := C3 hc
  subst e1 e2
  exact A2 (Av6 h hu (Am hf hx ae) (Am hf hy dz)) hs hk
 | eqp h hu hx =>
  obtain ⟨x, ae, hw⟩ := Ab.1 hw
  cases x <;> try exact hw.elim
  exact A2 (Av7 h hu (Am hf hx ae)) hs hw
 | notb h hx =>
  obtain ⟨x, ae, hw⟩ := Ab.1 hw
  obtain ⟨b, hb, hk⟩ := Ab.1 hw
  have e1 := C3 hb
  subst e1
  refine A2 (v := .bool !b) ?_ hs hk
  simp only [execOp, h, Am hf hx ae]
  rfl
 | @conv src dst x0 _ k d h hx lj hd =>
  obtain ⟨x, ae, hw⟩ := Ab.1 hw
  obtain ⟨n, hn, hk⟩ := Ab.1 hw
  cases x <;> try (simp [Qf] at hn; done)
  rename_i k0 n0
  have e1 : n0 = n := by simpa [Qf] using hn
  subst e1
  refine A2 (v := .int k (k.wrap n0)) ?_ hs hk
  simp only [execOp, h, Am hf hx ae]
  refine A7 ?_
  unfold convert
  rw [Ad (Ai lj w), Ad (Ai hd w)]
  rfl
 | faddr h hx hu aj aO =>
  obtain ⟨x, ae, hw⟩ := Ab.1 hw
  obtain ⟨p, hp, hk⟩ := Ab.1 hw
  have e1 := Cp hp
  subst e1
  refine A2 ?_ hs hk
  simp only [execOp, h, Am hf hx ae]
  exact A7 (Wj hu aj aO)
 | iaddrA h hx hi hu aO =>
  obtain ⟨x, ae, hw⟩ := Ab.1 hw
  obtain ⟨i, kK, hw⟩ := Ab.1 hw
  obtain ⟨p, hp, hw⟩ := Ab.1 hw
  obtain ⟨j, hj, h0, h1, hk⟩ := Ab.1 hw
  have e1 := Cp hp
  obtain ⟨k, e2⟩ := E4 hj
  subst e1 e2
  refine A2 ?_ hs hk
  simp only [execOp, h, Am hf hx ae, Am hf hi kK]
  exact A7 (Uc hu aO h0 h1)
 | iaddrS h hx hi hu aO =>
  obtain ⟨x, ae, hw⟩ := Ab.1 hw
  obtain ⟨i, kK, hw⟩ := Ab.1 hw
  obtain ⟨s, ak, hw⟩ := Ab.1 hw
  obtain ⟨j, hj, hw⟩ := Ab.1 hw
  obtain ⟨ad, hb, hw⟩ := Ab.1 hw
  obtain ⟨q, hq, h0, h1, hk⟩ := Ab.1 hw
  obtain ⟨sa, n, c⟩ := s
  have e1 := Ez ak
  obtain ⟨k, e2⟩ := E4 hj
  have e3 := Ad6 hq
  dsimp only at e1 hb h1
  subst e3 hb e1 e2
  refine A2 ?_ hs hk
  simp only [execOp, h, Am hf hx ae, Am hf hi kK]
  exact A7 (Ud hu aO h0 h1)
 | nilck h hx =>
  obtain ⟨x, ae, hw⟩ := Ab.1 hw
  obtain ⟨p, hp, hk⟩ := Ab.1 hw
  have e1 := Cp hp
  subst e1
  refine A2 (v := pv p.1 p.2) ?_ hs hk
  simp only [execOp, h, Am hf hx ae]
  rfl
 | extract h hx =>
  obtain ⟨x, ae, hw⟩ := Ab.1 hw
  obtain ⟨l, hl, hw⟩ := Ab.1 hw
  obtain ⟨v, hv, hk⟩ := Ab.1 hw
  have e1 := Ad7 hl
  subst e1
  refine A2 (v := v) ?_ hs hk
  simp only [execOp, h, Am hf hx ae]
  refine A7 ?_
  simp [Instr.extract, hv, Pure.pure, Sem.run]
 | fieldA h hx hu aj ha aO =>
  obtain ⟨x, ae, hw⟩ := Ab.1 hw
  obtain ⟨l, hl, hk⟩ := Ab.1 hw
  have e1 := Hj hl
  subst e1
  refine A2 ?_ hs hk
  simp only [execOp, h, Am hf hx ae]
  refine A7 ?_
  unfold Instr.field
  rw [Ad (Ai hu w)]
  simp only [aj]
  rw [Ad (a := l.toArray) (w' := w) rfl]
  unfold part
  rw [Ad (Dw ha w)]
  simp only [if_true]
  rw [Ad (Bl aO w)]
  simp [Pure.pure, Sem.run]
 | field1 h hx hu aj ha =>
  obtain ⟨x, ae, hw⟩ := Ab.1 hw
  obtain ⟨l, hl, hw⟩ := Ab.1 hw
  obtain ⟨v, hv, hk⟩ := Ab.1 hw
  have e1 := Hj hl
  subst e1
  refine A2 (v := v) ?_ hs hk
  simp only [execOp, h, Am hf hx ae]
  refine A7 ?_
  unfold Instr.field
  rw [Ad (Ai hu w)]
  simp only [aj]
  rw [Ad (a := l.toArray) (w' := w) rfl]
  unfold part
  rw [Ad (Dw ha w)]
  simp [hv, Pure.pure, Sem.run]
 | @len t e x0 _ h hx hu =>
  obtain ⟨x, ae, hw⟩ := Ab.1 hw
  obtain ⟨sl, ak, hk⟩ := Ab.1 hw
  have e1 := Ez ak
  subst e1
  refine A2 ?_ hs hk
  simp only [execOp, h]
  have aF : ∃ cs, (resolve a.eval { callee := .builtin .len, args := #[x0], argTypes := #[t] } o.type).run P w = .ok { target := .builtin .len #[t] o.type cs, args := #[a.eval x0] } w :=
   ⟨_, by simp [resolve, Pure.pure, Sem.run]; rfl⟩
  obtain ⟨cs, aF⟩ := aF
  rw [Ad aF, Am hf hx ae]
  refine A7 (v := .int .i64 sl.2.1) ?_
  show (do let d ← underlying t; _ : Sem Value).run P w = _
  rw [Ad (Ai hu w)]
  rfl
 | @lenT t x0 _ h hx hu =>
  obtain ⟨x, ae, hw⟩ := Ab.1 hw
  cases x <;> try exact hw.elim
  refine A2 ?_ hs hw
  simp only [execOp, h]
  have aF : ∃ cs, (resolve a.eval { callee := .builtin .len, args := #[x0], argTypes := #[t] } o.type).run P w = .ok { target := .builtin .len #[t] o.type cs, args := #[a.eval x0] } w :=
   ⟨_, by simp [resolve, Pure.pure, Sem.run]; rfl⟩
  obtain ⟨cs, aF⟩ := aF
  rw [Ad aF, Am hf hx ae]
  refine A7 ?_
  show (do let d ← underlying t; _ : Sem Value).run P w = _
  rw [Ad (Ai hu w)]
  rfl
 | loadA h hx ha aO =>
  obtain ⟨x, ae, hw⟩ := Ab.1 hw
  obtain ⟨p, hp, cs, hr, hk⟩ := Ab.1 hw
  have e1 := Cp hp
  subst e1
  refine A2 ?_ hs hk
  simp only [execOp, h, Am hf hx ae]
  exact A7 (Ad8 ha aO ag hr)
 | loadI h hx ha =>
  obtain ⟨x, ae, hw⟩ := Ab.1 hw
  obtain ⟨p, hp, cs, hr, hk⟩ := Ab.1 hw
  have e1 := Cp hp
  subst e1
  refine A2 ?_ hs hk
  simp only [execOp, h, Am hf hx ae]
  exact A7 (Kp ha ag hr)
 | loadB h hx ha =>
  obtain ⟨x, ae, hw⟩ := Ab.1 hw
  obtain ⟨p, hp, cs, hr, hk⟩ := Ab.1 hw
  have e1 := Cp hp
  subst e1
  refine A2 ?_ hs hk
  simp only [execOp, h, Am hf hx ae]
  exact A7 (Kp ha ag hr)
 | loadS h hx ha =>
  obtain ⟨x, ae, hw⟩ := Ab.1 hw
  obtain ⟨p, hp, a', n, c, hr, hk⟩ := Ab.1 hw
  have e1 := Cp hp
  subst e1
  refine A2 ?_ hs hk
  simp only [execOp, h, Am hf hx ae]
  exact A7 (Kp ha ag hr)
 | loadX h hx ha =>
  obtain ⟨x, ae, hw⟩ := Ab.1 hw
  obtain ⟨p, hp, cs, hr, hk⟩ := Ab.1 hw
  have e1 := Cp hp
  subst e1
  refine A2 ?_ hs hk
  simp only [execOp, h, Am hf hx ae]
  exact A7 (Kp ha ag hr)
 | store h hx hv aO =>
  obtain ⟨x, ae, hw⟩ := Ab.1 hw
  obtain ⟨u, pJ, hw⟩ := Ab.1 hw
  obtain ⟨p, hp, T, cs, Ga, Gb, e0, hl, hu, h1, hk⟩ := Ab.1 hw
  have e1 := Cp hp
  subst e1 e0
  have hi := Wo Ga Gb (p.1, Cl T cs)
  have hb : w.heap[p.1]? = some (Cl T cs) := hs.own (p.1, Cl T cs) (lCb hi)
  obtain ⟨w', hr, q1, q2, q3, q4, q5, q6⟩ := Wk (P := P) aO hb hl hu h1
  refine Ip.skip (w' := w') ?_ ⟨M, _, hs.put hi q1 q2 q3 q4 q5 q6, by rw [Wp]; exact hk⟩
  simp only [execOp, h, Am hf hx ae, Am hf hv pJ]
  exact Av5 hr
 | box h hx =>
  obtain ⟨u, pJ, hk⟩ := Ab.1 hw
  refine Ip.value (w' := w.alloc (Cl _ u.cells.toList)) ?_ ⟨M, _, hs.alloc _, hk w.heap.size⟩
  simp only [execOp, h, Am hf hx pJ]
  rfl
 | alloc h hz =>
  refine Ip.value (w' := w.alloc (Cl _ _)) ?_ ⟨M, _, hs.alloc _, hw w.heap.size⟩
  simp only [execOp, h]
  refine A7 ?_
  unfold Instr.alloc
  rw [Ad (Ko hz w)]
  rfl
 | mkfn h kL pK =>
  obtain ⟨fs, jh, hw⟩ := Ab.1 hw
  obtain ⟨cs, eB, hk⟩ := Ab.1 hw
  refine A2 ?_ hs hk
  simp only [execOp, h]
  refine A7 ?_
  rw [Jf hf kL jh, Jf hf pK eB]
  rfl
 | @maxi ts x0 y0 _ _ h hx hy =>
  obtain ⟨x, ae, hw⟩ := Ab.1 hw
  obtain ⟨y, dz, hw⟩ := Ab.1 hw
  have aF : ∃ cs, (resolve a.eval { callee := .builtin .max, args := #[x0, y0], argTypes := ts } o.type).run P w = .ok { target := .builtin .max ts o.type cs, args := #[a.eval x0, a.eval y0] } w :=
   ⟨_, by simp [resolve, Pure.pure, Sem.run]; rfl⟩
  obtain ⟨cs, aF⟩ := aF
  split at hw
  ·refine A2 ?_ hs hw
   simp only [execOp, h]
   rw [Ad aF, Am hf hx ae, Am hf hy dz]
   rfl
  ·exact hw.elim
 | call h ha =>
  obtain ⟨vs, c6, hgo, bP⟩ := Ab.1 hw
  refine .inr (.inr (.inl ⟨_, vs.toArray, w, ?_, bP w hs⟩))
  simp only [execOp, h]
  have := Ue (P := P) (w := w) hgo (first := #[]) (args := vs.toArray) (caps := #[])
  simp only [lFj, Array.append_empty] at this
  rw [← this, ← Jf hf ha c6]
  rfl
 | callv h hx ha =>
  obtain ⟨fv, hfv, hw⟩ := Ab.1 hw
  cases hy : X7 fv with
  | some l =>
   rw [hy] at hw
   obtain ⟨vs, c6, pL⟩ := Ab.1 hw
   obtain ⟨r, hl, aO, hr⟩ := pL w hs
   obtain ⟨first, caps, hfe, dh⟩ : ∃ first caps, fv = .func (.yield l) first caps ∧ first.size = 0 := by
    unfold X7 at hy
    split at hy
    ·split at hy
     ·rename_i h0; cases hy; exact ⟨_, _, rfl, h0⟩
     ·cases hy
    ·cases hy
   have pM : first = #[] := Array.size_eq_zero_iff.1 dh
   subst hfe pM
   refine .inr (.inr (.inr ⟨l, _, _, _, _, w, ?_, hr⟩))
   simp only [execOp, h]
   have aF : (do let d ← Deferred.ofValue (.func (.yield l) #[] caps) vs.toArray; invoke d.target d.args : Sem Next).run P w = .ok (.round l r.fn ((r.params.zip vs.toArray).foldl (fun tmps (t, a) => tmps.setIfInBounds t a) r.tmps) r.assign r.body) w := by
    rw [Ad (a := { target := .fn (.yield l) caps, args := #[] ++ vs.toArray }) (w' := w) rfl]
    rw [lFj]
    exact run_yield hl aO
   rw [← aF, ← Jf hf ha c6, ← Am hf hx hfv]
   rfl
  | none =>
   rw [hy] at hw
   obtain ⟨g, hg, hw⟩ := Ab.1 hw
   obtain ⟨vs, c6, hgo, bP⟩ := Ab.1 hw
   have e0 := Sn hg
   subst e0
   refine .inr (.inr (.inl ⟨_, _, w, ?_, bP w hs⟩))
   simp only [execOp, h]
   have := Ue (P := P) (w := w) hgo (first := g.2.1) (args := vs.toArray) (caps := g.2.2)
   rw [← this, ← Jf hf ha c6, ← Am hf hx hfv]
   rfl
 | buildS h hu hz hp hall =>
  obtain ⟨qs, mK, hw⟩ := Ab.1 hw
  obtain ⟨cs, eB, hk⟩ := Ab.1 hw
  refine A2 ?_ hs hk
  simp only [execOp, h]
  exact A7 (Z0 hf hu hz hp hall mK eB)
 | buildA h hu hz aO hp =>
  obtain ⟨qs, mK, hw⟩ := Ab.1 hw
  obtain ⟨cs, eB, hk⟩ := Ab.1 hw
  refine A2 ?_ hs hk
  simp only [execOp, h]
  exact A7 (Z3 hf hu hz aO hp mK eB)
 | buildSl h hu hz aO hzs hn hp =>
  obtain ⟨qs, mK, hw⟩ := Ab.1 hw
  obtain ⟨cs, eB, hk⟩ := Ab.1 hw
  refine Ip.value (w' := w.alloc (Cl _ cs)) ?_ ⟨M, _, hs.alloc _, hk w.heap.size⟩
  simp only [execOp, h]
  exact A7 (Wl hf hu hz aO hzs hn hp mK eB)
 | append h hx hy hu hi hz hzs hpos => exact Z4 h hx hy hu hi hz hzs hpos hf hs hw
 | makeSl h hx hy hu hi hz hzs hpos => exact Z5 h hx hy hu hi hz hzs hpos hf hs hw
 | slS h hx hlo hhi hmx hu aO => exact Av8 h hx hlo hhi hmx hu aO hf hs hw
 | slA h hx hlo hhi hu aO => exact Av9 h hx hlo hhi hu aO hf hs hw
 | bad => exact hw.elim
 | @mini ts x0 y0 _ _ h hx hy =>
  obtain ⟨x, ae, hw⟩ := Ab.1 hw
  obtain ⟨y, dz, hw⟩ := Ab.1 hw
  have aF : ∃ cs, (resolve a.eval { callee := .builtin .min, args := #[x0, y0], argTypes := ts } o.type).run P w = .ok { target := .builtin .min ts o.type cs, args := #[a.eval x0, a.eval y0] } w :=
   ⟨_, by simp [resolve, Pure.pure, Sem.run]; rfl⟩
  obtain ⟨cs, aF⟩ := aF
  split at hw
  ·refine A2 ?_ hs hw
   simp only [execOp, h]
   rw [Ad aF, Am hf hx ae, Am hf hy dz]
   rfl
  ·exact hw.elim
 | eqS h hu hx =>
  obtain ⟨x, ae, hw⟩ := Ab.1 hw
  obtain ⟨sl, ak, hk⟩ := Ab.1 hw
  have e1 := Ez ak
  subst e1
  exact A2 (Aw1 h hu (Am hf hx ae)) hs hk
 | eqA h he hx hy =>
  obtain ⟨x, ae, hw⟩ := Ab.1 hw
  obtain ⟨y, dz, hw⟩ := Ab.1 hw
  obtain ⟨xs, i8, hw⟩ := Ab.1 hw
  obtain ⟨ys, kM, hw⟩ := Ab.1 hw
  obtain ⟨r, hr, hk⟩ := Ab.1 hw
  have e1 := Hj i8
  have e2 := Hj kM
  subst e1 e2
  exact A2 (Aw0 h he (Am hf hx ae) (Am hf hy dz) hr) hs hk
 | idx1 h hx hi hu ha aO =>
  obtain ⟨x, ae, hw⟩ := Ab.1 hw
  obtain ⟨i, kK, hw⟩ := Ab.1 hw
  obtain ⟨l, hl, hw⟩ := Ab.1 hw
  obtain ⟨j, hj, h0, h1, hw⟩ := Ab.1 hw
  obtain ⟨v, hv, hk⟩ := Ab.1 hw
  have e1 := Hj hl
  obtain ⟨k, e2⟩ := E4 hj
  subst e1 e2
  exact A2 (An6 h hu ha aO (Am hf hx ae) (Am hf hi kK) h0 h1 hv) hs hk
 | idxA h hx hi hu ha aO =>
  obtain ⟨x, ae, hw⟩ := Ab.1 hw
  obtain ⟨i, kK, hw⟩ := Ab.1 hw
  obtain ⟨l, hl, hw⟩ := Ab.1 hw
  obtain ⟨j, hj, h0, h1, hk⟩ := Ab.1 hw
  have e1 := Hj hl
  obtain ⟨k, e2⟩ := E4 hj
  subst e1 e2
  exact A2 (An7 h hu ha aO (Am hf hx ae) (Am hf hi kK) h0 h1) hs hk
 | @cap t e x0 _ h hx hu =>
  obtain ⟨x, ae, hw⟩ := Ab.1 hw
  obtain ⟨sl, ak, hk⟩ := Ab.1 hw
  have e1 := Ez ak
  subst e1
  refine A2 ?_ hs hk
  simp only [execOp, h]
  have aF : ∃ cs, (resolve a.eval { callee := .builtin .cap, args := #[x0], argTypes := #[t] } o.type).run P w = .ok { target := .builtin .cap #[t] o.type cs, args := #[a.eval x0] } w :=
   ⟨_, by simp [resolve, Pure.pure, Sem.run]; rfl⟩
  obtain ⟨cs, aF⟩ := aF
  rw [Ad aF, Am hf hx ae]
  refine A7 (v := .int .i64 sl.2.2) ?_
  show (do let d ← underlying t; _ : Sem Value).run P w = _
  rw [Ad (Ai hu w)]
  rfl
 | clearS h hx hu hz hzc h1 => exact Z6 h hx hu hz hzc h1 hf hs hw
 | copyO h hx hy hu aO => exact Ae0 h hx hy hu aO hf hs hw
 | appendZ h hx hy hu hu' hi hz hzs hpos => exact Wn h hx hy hu hu' hi hz hzs hpos hf hs hw
 | @ext f args ts _ h ha =>
  obtain ⟨vs, c6, v, hr, hk⟩ := Ab.1 hw
  obtain ⟨w', hr, q1, q2, q3, q4⟩ := hr w hs
  refine Ip.value (v := v) (w' := w') ?_ ⟨M, G, ⟨q1.trans hs.os, q2.trans hs.tape, q3.trans hs.output, by rw [q4]; exact hs.size, by rw [q4]; exact hs.frame, by rw [q4]; exact hs.agree, by rw [q4]; exact hs.own, hs.sep, hs.new, hs.nodup, hs.base, hs.fresh⟩, hk⟩
  simp only [execOp, h]
  rw [← hr, ← Jf hf ha c6]
  have aF : ∃ cs, (resolve a.eval { callee := .value (.func f), args := args, argTypes := ts } o.type).run P w = .ok { target := .fn (.func f) cs, args := args.map a.eval } w ∧ cs = #[] :=
   ⟨#[], by simp [resolve, Act.eval, Deferred.ofValue, Pure.pure, Sem.run], rfl⟩
  obtain ⟨cs, aF, rfl⟩ := aF
  rw [Ad aF]
  simp [invoke]
 | raw =>
  obtain ⟨v, hr, hk⟩ := hw
  exact A2 (hr a hf w hs) hs hk
end
variable {P : Program}
inductive Sts where
 | nil
 | op (d : Option Nat) (r : ROp) (rest : Sts)
 | cnd (s : Nat) (want : Bool) (body : Sts) (d : Nat) (last : A) (rest : Sts)
def putE (d : Option Nat) (v : Value) (ρ : Env) : Env :=
 match d with
 | some d => (d, v) :: ρ
 | none => ρ
def A4 (c want : Bool) (M : Aa) (G : Own) (A : (Bool → Aa → Own → Prop) → Prop) (K : Bool → Aa → Own → Prop) : Prop :=
 (c = want → A K) ∧ (c ≠ want → K c M G)
def wpS (C : Cx P) : Sts → Env → Aa → Own → (Env → Aa → Own → Prop) → Prop
 | .nil, ρ, M, G, K => K ρ M G
 | .op d r rest, ρ, M, G, K => opW C ρ M G (fun v M' G' => wpS C rest (putE d v ρ) M' G' K) r
 | .cnd s want body d last rest, ρ, M, G, K => onv (get ρ s) fun v => onv (Jr v) fun c =>
   A4 c want M G (fun K' => wpS C body ρ M G fun ρ' M' G' => onv (ev ρ' last) fun u => onv (Jr u) fun e => K' e M' G') fun e M' G' => wpS C rest ((d, .bool e) :: ρ) M' G' K
theorem JD {c want : Bool} {M : Aa} {G : Own} {A : (Bool → Aa → Own → Prop) → Prop} {K : Bool → Aa → Own → Prop} (e : Bool)
  (h : c = want → ∀ K' : Bool → Aa → Own → Prop, K' e M G → A K') (hk : K (if want then c && e else c || e) M G) : A4 c want M G A K := by
 refine ⟨fun hc => h hc K ?_, fun hc => ?_⟩
 ·subst hc; cases c <;> simpa using hk
 ·cases c <;> cases want <;> simp_all
inductive CmpS (P : Program) (ops : Array Oper) (nt : Nat) : Option (Nat × Bool) → Nat → Nat → Nat → Sts → Prop
 | nil {g : Option (Nat × Bool)} {i0 i : Nat} : CmpS P ops nt g i0 i i .nil
 | op {g : Option (Nat × Bool)} {i0 i j : Nat} {o : Oper} {r : ROp} {rest : Sts} (ho : ops[i]? = some o) (hg : o.guard = g) (hgi : ∀ p, g = some p → p.1 < i) (hc : Cmp P o r) (hd : ∀ c, o.op ≠ .defer c) (hdst : ∀ d, o.dst = some d → d < nt)
   (h : CmpS P ops nt g i0 (i + 1) j rest) : CmpS P ops nt g i0 i j (.op o.dst r rest)
 | cnd {g : Option (Nat × Bool)} {i0 i m j gi s d : Nat} {want : Bool} {og o : Oper} {body rest : Sts} {x : Operand} {last : A} (hgo : ops[gi]? = some og) (hgs : og.dst = some s) (hgi : gi < i) (hin : g.isSome = true → i0 ≤ gi ∧ og.guard = g)
   (hgi' : ∀ p, g = some p → p.1 < i) (hb : CmpS P ops nt (some (gi, want)) i i m body) (ho : ops[m]? = some o) (hg : o.guard = g) (hop : o.op = if want then .pick (.tmp s) x (.const (.bool false)) else .pick (.tmp s) (.const (.bool true)) x) (hx : cA x = some last) (hd : o.dst = some d) (hdn : d < nt)
   (h : CmpS P ops nt g i0 (m + 1) j rest) : CmpS P ops nt g i0 i j (.cnd s want body d last rest)
theorem CmpS.le {ops : Array Oper} {nt : Nat} {g : Option (Nat × Bool)} {i0 i j : Nat} {sts : Sts} (h : CmpS P ops nt g i0 i j sts) : i ≤ j := by
 induction h with
 | nil => exact lA5 _
 | op _ _ _ _ _ _ _ ih => omega
 | cnd _ _ _ _ _ _ _ _ _ _ _ _ _ ih1 ih2 => omega
theorem CmpS.guarded {ops : Array Oper} {nt : Nat} {g : Option (Nat × Bool)} {i0 i j : Nat} {sts : Sts} (h : CmpS P ops nt g i0 i j sts) : g ≠ none → ∀ (t : Nat) (o : Oper), i ≤ t → t < j → ops[t]? = some o → o.guard ≠ none := by
 induction h with
 | nil => intro _ t o h1 h2; omega
 | @op g i0 i j o r rest ho hg _ _ _ _ _ ih =>
  intro hn t o' h1 h2 a8
  by_cases e : t = i
  ·subst e; rw [ho] at a8; cases a8; rw [hg]; exact hn
  ·exact ih hn t o' (by omega) h2 a8
 | @cnd g i0 i m j gi s d want og o body rest x last _ _ _ _ _ hb ho hg _ _ _ _ h ih1 ih2 =>
  intro hn t o' h1 h2 a8
  by_cases h3 : t < m
  ·exact ih1 (by simp) t o' h1 h3 a8
  ·by_cases e : t = m
   ·subst e; rw [ho] at a8; cases a8; rw [hg]; exact hn
   ·exact ih2 hn t o' (by omega) h2 a8
def Ri (ops : Array Oper) : Prop := ∀ (t t' : Nat) (o o' : Oper) (d : Nat), ops[t]? = some o → ops[t']? = some o' → o.dst = some d → o'.dst = some d → t = t'
def GOK (ops : Array Oper) (g : Option (Nat × Bool)) (a : Act) : Prop :=
 ∀ gi want, g = some (gi, want) → ∃ og s, ops[gi]? = some og ∧ og.dst = some s ∧ a.tmps[s]? = some (.bool want)
def Dom (V : List Nat) (ops : Array Oper) (i : Nat) (ρ : Env) : Prop := ∀ t v, get ρ t = some v → t ∈ V ∨ ∃ u o, u < i ∧ ops[u]? = some o ∧ o.dst = some t
theorem Dom.mono {V : List Nat} {ops : Array Oper} {i j : Nat} {ρ : Env} (h : Dom V ops i ρ) (gK : i ≤ j) : Dom V ops j ρ := fun t v ht =>
 (h t v ht).imp id fun ⟨u, o, h1, h2, h3⟩ => ⟨u, o, by omega, h2, h3⟩
theorem wanted_ok {ops : Array Oper} {o : Oper} {g : Option (Nat × Bool)} {a : Act} (hg : o.guard = g) (h : GOK ops g a) : Region.wanted o (yielded ops a.tmps) = true := by
 unfold Region.wanted
 cases iz : g with
 | none => rw [hg, iz]
 | some p =>
  obtain ⟨gi, want⟩ := p
  obtain ⟨og, s, h1, h2, h3⟩ := h gi want iz
  simp [hg, iz, yielded, h1, h2, h3]
theorem Hk {ops : Array Oper} {o og : Oper} {a : Act} {gi s : Nat} {want : Bool} {v : Value} (hg : o.guard = some (gi, want)) (hgo : ops[gi]? = some og) (hgs : og.dst = some s) (fJ : a.tmps[s]? = some v) (hv : v ≠ .bool want) :
  Region.wanted o (yielded ops a.tmps) = false := by
 have hy : yielded ops a.tmps gi = (match v with | .bool b => some b | _ => none) := by
  simp only [yielded, hgo, Option.bind_some, hgs, fJ]
  cases v <;> rfl
 simp only [Region.wanted, hg, hy]
 cases v with
 | bool b =>
  have : b ≠ want := fun e => hv (by rw [e])
  simpa using this
 | _ => rfl
theorem Cv {a : Act} {d s : Nat} {v : Value} (h : d ≠ s) : (a.put (some d) v).tmps[s]? = a.tmps[s]? := by
 simp [Act.put, lEf, h]
theorem GOK.put {ops : Array Oper} (hod : Ri ops) {g : Option (Nat × Bool)} {a : Act} {i : Nat} {o : Oper} (ho : ops[i]? = some o) (hgi : ∀ p, g = some p → p.1 < i) (h : GOK ops g a) (v : Value) : GOK ops g (a.put o.dst v) := by
 intro gi want hg
 obtain ⟨og, s, h1, h2, h3⟩ := h gi want hg
 refine ⟨og, s, h1, h2, ?_⟩
 cases hd : o.dst with
 | none => exact h3
 | some d =>
  rw [Cv ?_]
  ·exact h3
  ·rintro rfl
   have := hod i gi o og d ho h1 hd h2
   have := hgi _ hg
   simp at this; omega
theorem Dom.put {V : List Nat} {ops : Array Oper} {i : Nat} {ρ : Env} {o : Oper} (h : Dom V ops i ρ) (ho : ops[i]? = some o) (v : Value) : Dom V ops (i + 1) (putE o.dst v ρ) := by
 cases hd : o.dst with
 | none => exact h.mono (by omega)
 | some d =>
  intro t u ht
  simp only [putE, get] at ht
  split at ht
  ·rename_i e; subst e; exact .inr ⟨i, o, by omega, ho, hd⟩
  ·exact h.mono (Nat.le_succ i) t u ht
theorem Fc.putE {nt : Nat} {ρ : Env} {a : Act} (h : Fc nt ρ a) (d : Option Nat) (hd : ∀ e, d = some e → e < nt) (v : Value) : Fc nt (putE d v ρ) (a.put d v) := by
 cases d with
 | none => exact h
 | some d => exact h.put d (hd d rfl) v
theorem H2 {i j : Nat} (h : i < j) : List.range' i (j - i) = i :: List.range' (i + 1) (j - (i + 1)) := by
 have : j - i = (j - (i + 1)) + 1 := by omega
 rw [this, List.range'_succ]
theorem Mm {i m j : Nat} (h1 : i ≤ m) (h2 : m ≤ j) : List.range' i (j - i) = List.range' i (m - i) ++ List.range' m (j - m) := by
 have := @List.range'_append i (m - i) (j - m) 1
 rw [Nat.one_mul] at this
 rw [show m = i + (m - i) from by omega] at this ⊢
 rw [show i + (m - i) - i = m - i from by omega] at *
 rw [this]
 congr 1
 omega
section
variable {C : Cx P} {ops : Array Oper} {k : List Item} {cs : List Frame}
theorem Dl9 (hod : Ri ops) {g : Option (Nat × Bool)} {i0 i j : Nat} {sts : Sts} (h : CmpS P ops C.nt g i0 i j sts) :
  ∀ {a : Act} {w : World} {gi : Nat} {want : Bool} {og : Oper} {s : Nat} {v : Value} (_ : g = some (gi, want)) (_ : ops[gi]? = some og) (_ : og.dst = some s) (_ : a.tmps[s]? = some v) (_ : v ≠ .bool want) (_ : a.tmps.size = C.nt)
   (_ : i0 ≤ i) (_ : gi < i0) (_ : ∀ t o d, i0 ≤ t → t < i → ops[t]? = some o → o.dst = some d → a.tmps[d]? = some undef) {tail : List Nat}
   (_ : ∀ a' : Act, a'.tmps.size = C.nt → a'.defers = a.defers → (∀ e, (∀ t o, i ≤ t → t < j → ops[t]? = some o → o.dst ≠ some e) → a'.tmps[e]? = a.tmps[e]?) →
    (∀ t o e, i ≤ t → t < j → ops[t]? = some o → o.dst = some e → a'.tmps[e]? = some undef) → C.T cs (lone (C.b.atR a' (.inRegion ops tail :: k)) cs w)),
   C.T cs (lone (C.b.atR a (.inRegion ops (List.range' i (j - i) ++ tail) :: k)) cs w) := by
 induction h with
 | nil =>
  intro a w gi want og s v hg hgo hgs fJ hv aO sO jA ci tail hT
  simpa using hT a aO rfl (fun e _ => rfl) (fun t o e h1 h2 => by omega)
 | @op g i0 i j o r rest ho dU hgi hc hd hdst h ih =>
  intro a w gi want og s v hg hgo hgs fJ hv aO sO jA ci tail hT
  have aY := h.le
  rw [H2 (by omega), lAp]
  have jB : Region.wanted o (yielded ops a.tmps) = false := Hk (dU.trans hg) hgo hgs fJ hv
  refine C.back (stepR_op_skip (by rw [ho]; exact jB)) ?_
  rw [show (ops[i]?).bind (·.dst) = o.dst from by rw [ho]; rfl]
  have ah : (a.put o.dst undef).tmps[s]? = some v := by
   cases cG : o.dst with
   | none => exact fJ
   | some d =>
    rw [Cv ?_]
    ·exact fJ
    ·rintro rfl
     have := hod i gi o og d ho hgo cG hgs
     omega
  have eC : (a.put o.dst undef).tmps.size = C.nt := by cases o.dst <;> simp [Act.put, aO]
  have cL : ∀ e, o.dst = some e → (a.put o.dst undef).tmps[e]? = some undef := by
   intro e he
   have := hdst e he
   simp [Act.put, he, aO, this]
  have fQ : ∀ t o' e, ops[t]? = some o' → o'.dst = some e → t ≠ i → (a.put o.dst undef).tmps[e]? = a.tmps[e]? := by
   intro t o' e a8 bm hn
   cases cG : o.dst with
   | none => rfl
   | some d =>
    rw [Cv ?_]
    rintro rfl
    exact hn (hod t i o' o d a8 ho bm cG)
  refine ih hg hgo hgs ah hv eC (by omega) jA ?_ ?_
  ·intro t o' d gl gL a8 gM
   by_cases e : t = i
   ·subst e
    rw [ho] at a8; cases a8
    exact cL d gM
   ·rw [fQ t o' d a8 gM e]
    exact ci t o' d gl (by omega) a8 gM
  ·intro a' h1 h2 h3 h4
   refine hT a' h1 (h2.trans (B6 _ _ _)) ?_ ?_
   ·intro e he
    rw [h3 e (fun t o' gl gL => he t o' (by omega) gL)]
    cases cG : o.dst with
    | none => rfl
    | some d =>
     rw [Cv ?_]
     rintro rfl
     exact he i o (lA5 _) (by omega) ho cG
   ·intro t o' e gl gL a8 bm
    by_cases et : t = i
    ·subst et
     rw [ho] at a8; cases a8
     rw [h3 e ?_]
     ·exact cL e bm
     ·intro t' o'' q1 q2 q3 q4
      have := hod t t' o o'' e ho q3 bm q4
      omega
    ·exact h4 t o' e (by omega) gL a8 bm
 | @cnd g i0 i m j gj s' d want' og' o body rest x last dV gw hgi' hin kN hb ho dU hop hx cq hdn h ih1 ih2 =>
  intro a w gi want og s v hg hgo hgs fJ hv aO sO jA ci tail hT
  have eY := hb.le
  have sP := h.le
  obtain ⟨mL, mM⟩ := hin (by simp [hg])
  have kO : a.tmps[s']? = some undef := ci gj og' s' mL hgi' dV gw
  rw [Mm (m := m) eY (by omega), H2 (i := m) (by omega), lAc, lAp]
  refine ih1 rfl dV gw kO (by simp [undef]) aO (lA5 _) (by omega) (fun t o' d' h1 h2 => by omega) ?_
  intro a1 z1 z2 z3 z4
  have keep : ∀ e t o', ops[t]? = some o' → o'.dst = some e → ¬ (i ≤ t ∧ t < m) → a1.tmps[e]? = a.tmps[e]? := by
   intro e t o' a8 bm hn
   refine z3 e fun t' o'' h1 h2 h3 h4 => hn ?_
   have := hod t' t o'' o' e h3 a8 h4 bm
   omega
  have bz : a1.tmps[s]? = some v := by rw [keep s gi og hgo hgs (by omega)]; exact fJ
  have jB : Region.wanted o (yielded ops a1.tmps) = false := Hk (dU.trans hg) hgo hgs bz hv
  refine C.back (stepR_op_skip (by rw [ho]; exact jB)) ?_
  rw [show (ops[m]?).bind (·.dst) = some d from by rw [ho]; exact cq]
  have hne : ∀ t o' e, ops[t]? = some o' → o'.dst = some e → t ≠ m → d ≠ e := by
   intro t o' e a8 bm hn e'
   subst e'
   exact hn (hod t m o' o d a8 ho bm cq)
  have cL : (a1.put (some d) undef).tmps[d]? = some undef := by simp [Act.put, z1, hdn]
  refine ih2 hg hgo hgs (by rw [Cv (hne gi og s hgo hgs (by omega))]; exact bz) hv (by simp [Act.put, z1]) (by omega) jA ?_ ?_
  ·intro t o' e gl gL a8 bm
   by_cases em : t = m
   ·subst em
    rw [ho] at a8; cases a8
    rw [cq] at bm; cases bm
    exact cL
   ·rw [Cv (hne t o' e a8 bm em)]
    by_cases pN : i ≤ t
    ·exact z4 t o' e pN (by omega) a8 bm
    ·rw [keep e t o' a8 bm (by omega)]
     exact ci t o' e gl (by omega) a8 bm
  ·intro a' h1 h2 h3 h4
   refine hT a' h1 (h2.trans ((B6 _ _ _).trans z2)) ?_ ?_
   ·intro e he
    rw [h3 e (fun t o' gl gL => he t o' (by omega) gL)]
    rw [Cv (fun e' => he m o eY (by omega) ho (by rw [cq, e']))]
    exact z3 e fun t o' gl gL => he t o' gl (by omega)
   ·intro t o' e gl gL a8 bm
    by_cases et : m + 1 ≤ t
    ·exact h4 t o' e et gL a8 bm
    ·rw [h3 e ?_]
     ·by_cases em : t = m
      ·subst em
       rw [ho] at a8; cases a8
       rw [cq] at bm; cases bm
       exact cL
      ·rw [Cv (hne t o' e a8 bm em)]
       exact z4 t o' e gl (by omega) a8 bm
     ·intro t' o'' q1 q2 q3 q4
      have := hod t t' o' o'' e a8 q3 bm q4
      omega
theorem Ae1 (hod : Ri ops) {V : List Nat} {g : Option (Nat × Bool)} {i0 i j : Nat} {sts : Sts} (h : CmpS P ops C.nt g i0 i j sts) :
  ∀ {ρ : Env} {M : Aa} {G : Own} {K : Env → Aa → Own → Prop} {a : Act} {w : World} {tail : List Nat} (_ : GOK ops g a) (_ : Dom V ops i ρ) (_ : ∀ t o d, i ≤ t → t < j → ops[t]? = some o → o.dst = some d → o.guard ≠ none → d ∉ V)
   (_ : Fc C.nt ρ a) (_ : a.defers = C.ds) (_ : C.St M G w) (_ : wpS C sts ρ M G K)
   (_ : ∀ (a' : Act) (ρ' : Env) (M' : Aa) (G' : Own) (w' : World), GOK ops g a' → Dom V ops j ρ' → Fc C.nt ρ' a' → a'.defers = C.ds → C.St M' G' w' → K ρ' M' G' →
    (∀ e, (∀ t o, i ≤ t → t < j → ops[t]? = some o → o.dst ≠ some e) → a'.tmps[e]? = a.tmps[e]?) → C.T cs (lone (C.b.atR a' (.inRegion ops tail :: k)) cs w')),
   C.T cs (lone (C.b.atR a (.inRegion ops (List.range' i (j - i) ++ tail) :: k)) cs w) := by
 induction h with
 | nil =>
  intro ρ M G K a w tail hg hd hV hf di hs hw hT
  simpa using hT a ρ M G w hg hd hf di hs hw (fun e _ => rfl)
 | @op g i0 i j o r rest ho dU hgi hc oU hdst h ih =>
  intro ρ M G K a w tail hg hd hV hf di hs hw hT
  rw [H2 (by have := h.le; omega), lAp]
  refine Km C ho (wanted_ok dU hg) oU ?_
  refine (Oi hc hf hs hw).mono ?_
  rintro v w' ⟨M', G', ah, gN⟩
  refine ih (hg.put hod ho hgi v) (hd.put ho v) (fun t o' d h1 h2 h3 h4 h5 => hV t o' d (by omega) h2 h3 h4 h5) (hf.putE o.dst hdst v) ((B6 _ _ _).trans di) ah gN ?_
  intro a' ρ' M'' G'' w'' q1 q2 q3 q4 q5 q6 q7
  refine hT a' ρ' M'' G'' w'' q1 q2 q3 q4 q5 q6 ?_
  intro e he
  rw [q7 e (fun t o' h1 h2 => he t o' (by omega) h2)]
  cases cG : o.dst with
  | none => rfl
  | some d =>
   rw [Cv ?_]
   rintro rfl
   exact he i o (lA5 _) (by have := h.le; omega) ho cG
 | @cnd g i0 i m j gi s d want og o body rest x last hgo hgs hgi hin kN hb ho dU hop hx cq hdn h ih1 ih2 =>
  intro ρ M G K a w tail hg hd hV hf di hs hw hT
  have eY := hb.le
  have sP := h.le
  simp only [wpS] at hw
  obtain ⟨v, hv, hw⟩ := Ab.1 hw
  obtain ⟨c, hc, bV, aI⟩ := Ab.1 hw
  have e0 := C3 hc
  subst e0
  have dW : a.tmps[s]? = some (.bool c) := hf.2 s _ hv
  rw [Mm (m := m) eY (by omega), H2 (i := m) (by omega), lAc, lAp]
  have pick : ∀ (a1 : Act) (e : Bool) (M1 : Aa) (G1 : Own) (w1 : World), GOK ops g a1 → Fc C.nt ρ a1 → a1.defers = C.ds → C.St M1 G1 w1 → wpS C rest ((d, .bool e) :: ρ) M1 G1 K →
    (a1.tmps[s]? = some (.bool c)) → (c = want → a1.eval x = .bool e) → (c ≠ want → e = c) → (∀ e, (∀ t o, i ≤ t → t < m → ops[t]? = some o → o.dst ≠ some e) → a1.tmps[e]? = a.tmps[e]?) →
    C.T cs (lone (C.b.atR a1 (.inRegion ops (m :: (List.range' (m + 1) (j - (m + 1)) ++ tail)) :: k)) cs w1) := by
   intro a1 e M1 G1 w1 lk jC i9 bz aV sQ h1 h2 bE
   refine Km C ho (wanted_ok dU lk) (by intro cc; rw [hop]; split <;> simp) ?_
   refine Ip.value (v := .bool e) (w' := w1) ?_ ?_
   ·have fK : a1.eval (.tmp s) = .bool c := by simp [Act.eval, lBz, sQ]
    cases want
    ·have kP : o.op = .pick (.tmp s) (.const (.bool true)) x := by simpa using hop
     simp only [execOp, kP, fK]
     rw [Ad (a := c) (w' := w1) rfl]
     cases c
     ·simp [h1 rfl, Pure.pure, Sem.run]
     ·simp [h2 (by simp), Act.eval, Pure.pure, Sem.run]
    ·have kP : o.op = .pick (.tmp s) x (.const (.bool false)) := by simpa using hop
     simp only [execOp, kP, fK]
     rw [Ad (a := c) (w' := w1) rfl]
     cases c
     ·simp [h2 (by simp), Act.eval, Pure.pure, Sem.run]
     ·simp [h1 rfl, Pure.pure, Sem.run]
   ·rw [cq]
    have al : Dom V ops (m + 1) ((d, .bool e) :: ρ) := by
     have := (hd.mono eY).put ho (.bool e)
     rwa [cq] at this
    have iz := lk.put hod ho (fun p hp => by have := kN p hp; omega) (.bool e)
    rw [cq] at iz
    refine ih2 iz al (fun t o' d h1 h2 h3 h4 h5 => hV t o' d (by omega) h2 h3 h4 h5) (jC.put d hdn _) (by rw [B6]; exact i9) bz aV ?_
    intro a' ρ' M'' G'' w'' q1 q2 q3 q4 q5 q6 q7
    refine hT a' ρ' M'' G'' w'' q1 q2 q3 q4 q5 q6 ?_
    intro e' he
    rw [q7 e' (fun t o' h1 h2 => he t o' (by omega) h2)]
    rw [Cv (fun e'' => he m o eY (by omega) ho (by rw [cq, e'']))]
    exact bE e' fun t o' gl gL => he t o' gl (by omega)
  have back : ∀ a1 : Act, a1.tmps.size = C.nt → (∀ e, (∀ t o, i ≤ t → t < m → ops[t]? = some o → o.dst ≠ some e) → a1.tmps[e]? = a.tmps[e]?) → GOK ops g a1 ∧ Fc C.nt ρ a1 ∧ a1.tmps[s]? = some (.bool c) := by
   intro a1 aO bE
   have keep : ∀ e t o', ops[t]? = some o' → o'.dst = some e → ¬ (i ≤ t ∧ t < m) → a1.tmps[e]? = a.tmps[e]? := by
    intro e t o' a8 bm hn
    refine bE e fun t' o'' h1 h2 h3 h4 => hn ?_
    have := hod t' t o'' o' e h3 a8 h4 bm
    omega
   refine ⟨?_, ⟨aO, ?_⟩, ?_⟩
   ·intro gk wk e
    obtain ⟨og', s', h1, h2, h3⟩ := hg gk wk e
    refine ⟨og', s', h1, h2, ?_⟩
    rw [keep s' gk og' h1 h2 (by have := kN _ e; simp at this; omega)]
    exact h3
   ·intro t v ht
    rw [bE t ?_]
    ·exact hf.2 t v ht
    ·intro t' o' h1 h2 h3 h4
     rcases hd t v ht with h5 | ⟨u, ou, h5, h6, h7⟩
     ·exact hV t' o' t h1 (by omega) h3 h4 (hb.guarded (by simp) t' o' h1 h2 h3) h5
     ·have := hod t' u o' ou t h3 h6 h4 h7
      omega
   ·rw [keep s gi og hgo hgs (by omega)]; exact dW
  by_cases eD : c = want
  ·
   have kQ : GOK ops (some (gi, want)) a := by
    intro gi' want' e
    cases e
    exact ⟨og, s, hgo, hgs, by rw [← eD]; exact dW⟩
   refine ih1 kQ hd (fun t o' d h1 h2 h3 h4 h5 => hV t o' d h1 (by omega) h3 h4 h5) hf di hs (bV eD) ?_
   intro a1 ρ1 M1 G1 w1 lk i9 jC gO bz cM bE
   obtain ⟨u, hu, cM⟩ := Ab.1 cM
   obtain ⟨e, he, cM⟩ := Ab.1 cM
   have e1 := C3 he
   subst e1
   obtain ⟨b1, b2, b3⟩ := back a1 jC.1 bE
   exact pick a1 e M1 G1 w1 b1 b2 gO bz cM b3 (fun _ => Am jC hx hu) (fun h => absurd eD h) bE
  ·
   refine Dl9 hod hb rfl hgo hgs dW (by simpa using eD) hf.1 (lA5 _) hgi (fun t o' d' h1 h2 => by omega) ?_
   intro a1 z1 z2 z3 z4
   obtain ⟨b1, b2, b3⟩ := back a1 z1 z3
   exact pick a1 c M G w b1 b2 (z2.trans di) hs (aI eD) b3 (fun h => absurd h eD) (fun _ => rfl) z3
end
variable {P : Program}
def Con (P : Program) (f : FuncId) (args : Array Value) (M : Aa) (G : Own) (Φ : Value → Aa → Own → Prop) : Prop :=
 An1 P f = true ∧ ∀ w, EV.St w (G.map (·.1)) M M G w → Calls P f args w fun e w' => ∃ v, e = .returned v ∧ ∃ M' G', EV.St w (G.map (·.1)) M M' G' w' ∧ Φ v M' G'
theorem St.callA {w0 w w' : World} {F : List Nat} {M0 M M' : Aa} {G1 G2 G1' : Own} (hs : St w0 F M0 M (G1 ++ G2) w) (h : St w (G1.map (·.1)) M M' G1' w') : St w0 F M0 M' (G1' ++ G2) w' := by
 have hnd := hs.nodup
 rw [lAv] at hnd
 obtain ⟨n1, n2, n3⟩ := lBo.1 hnd
 have g2lt : ∀ p ∈ G2, p.1 < w.heap.size := fun p hp => hs.lt (by simp [hp])
 have g2ne : ∀ p ∈ G2, p.1 ∉ G1.map (·.1) := fun p hp hm => n3 p.1 hm p.1 (lAk.2 ⟨p, hp, rfl⟩) rfl
 refine ⟨h.os.trans hs.os, h.tape.trans hs.tape, h.output.trans hs.output, lBm hs.size h.size, ?_, h.agree, ?_, ?_, ?_, ?_, Aa.le_trans hs.base h.base, ?_⟩
 ·intro b hb hf
  rw [h.frame b (lAx hb hs.size) ?_]
  ·exact hs.frame b hb hf
  ·intro hm
   obtain ⟨p, hp, e⟩ := lAk.1 hm
   rcases hs.new p (by simp [hp]) with h' | h'
   ·exact hf (e ▸ h')
   ·omega
 ·intro p hp
  rcases lB7.1 hp with hp | hp
  ·exact h.own p hp
  ·rw [h.frame p.1 (g2lt p hp) (g2ne p hp)]
   exact hs.own p (by simp [hp])
 ·intro p hp o hm
  rcases lB7.1 hp with hp | hp
  ·exact h.sep p hp o hm
  ·rcases h.fresh p.1 o hm with h' | h' | h'
   ·exact hs.sep p (by simp [hp]) o h'
   ·exact g2ne p hp h'
   ·have := g2lt p hp; omega
 ·intro p hp
  rcases lB7.1 hp with hp | hp
  ·rcases h.new p hp with h' | h'
   ·obtain ⟨q, hq, e⟩ := lAk.1 h'
    have := hs.new q (by simp [hq])
    rwa [e] at this
   ·exact .inr (lBm hs.size h')
  ·exact hs.new p (by simp [hp])
 ·rw [lAv]
  refine lBo.2 ⟨h.nodup, n2, ?_⟩
  intro x hx y hy e
  subst e
  obtain ⟨p, hp, e1⟩ := lAk.1 hx
  obtain ⟨q, hq, e2⟩ := lAk.1 hy
  rcases h.new p hp with h' | h'
  ·exact g2ne q hq (by rw [e2, ← e1]; exact h')
  ·have := g2lt q hq; omega
 ·intro b o hm
  rcases h.fresh b o hm with h' | h' | h'
  ·exact hs.fresh b o h'
  ·obtain ⟨q, hq, e⟩ := lAk.1 h'
   have := hs.new q (by simp [hq])
   rw [e] at this
   exact .inr this
  ·exact .inr (.inr (lBm hs.size h'))
theorem St.callB {w0 w w' : World} {F : List Nat} {M0 M Mr M' : Aa} {G1 G2 G1' : Own} (hs : St w0 F M0 M (G1 ++ G2) w) (h : St w (G1.map (·.1)) Mr M' G1' w') : St w0 F M0 M (G1' ++ G2) w' := by
 have hnd := hs.nodup
 rw [lAv] at hnd
 obtain ⟨n1, n2, n3⟩ := lBo.1 hnd
 have g2lt : ∀ p ∈ G2, p.1 < w.heap.size := fun p hp => hs.lt (by simp [hp])
 have g2ne : ∀ p ∈ G2, p.1 ∉ G1.map (·.1) := fun p hp hm => n3 p.1 hm p.1 (lAk.2 ⟨p, hp, rfl⟩) rfl
 have mne : ∀ b o, M b o → b ∉ G1.map (·.1) := by
  intro b o hm hb
  obtain ⟨p, hp, e⟩ := lAk.1 hb
  exact hs.sep p (by simp [hp]) o (e ▸ hm)
 refine ⟨h.os.trans hs.os, h.tape.trans hs.tape, h.output.trans hs.output, lBm hs.size h.size, ?_, ?_, ?_, ?_, ?_, ?_, hs.base, hs.fresh⟩
 ·intro b hb hf
  rw [h.frame b (lAx hb hs.size) ?_]
  ·exact hs.frame b hb hf
  ·intro hm
   obtain ⟨p, hp, e⟩ := lAk.1 hm
   rcases hs.new p (by simp [hp]) with h' | h'
   ·exact hf (e ▸ h')
   ·omega
 ·intro b o hm
  rw [h.frame b (hs.ltM hm) (mne b o hm)]
  exact hs.agree b o hm
 ·intro p hp
  rcases lB7.1 hp with hp | hp
  ·exact h.own p hp
  ·rw [h.frame p.1 (g2lt p hp) (g2ne p hp)]
   exact hs.own p (by simp [hp])
 ·intro p hp o hm
  rcases lB7.1 hp with hp | hp
  ·rcases h.new p hp with h' | h'
   ·exact mne p.1 o hm h'
   ·have := hs.ltM hm; omega
  ·exact hs.sep p (by simp [hp]) o hm
 ·intro p hp
  rcases lB7.1 hp with hp | hp
  ·rcases h.new p hp with h' | h'
   ·obtain ⟨q, hq, e⟩ := lAk.1 h'
    have := hs.new q (by simp [hq])
    rwa [e] at this
   ·exact .inr (lBm hs.size h')
  ·exact hs.new p (by simp [hp])
 ·rw [lAv]
  refine lBo.2 ⟨h.nodup, n2, ?_⟩
  intro x hx y hy e
  subst e
  obtain ⟨p, hp, e1⟩ := lAk.1 hx
  obtain ⟨q, hq, e2⟩ := lAk.1 hy
  rcases h.new p hp with h' | h'
  ·exact g2ne q hq (by rw [e2, ← e1]; exact h')
  ·have := g2lt q hq; omega
section
variable {C : Cx P} {f : FuncId} {args : Array Value} {M : Aa} {G G1 G2 : Own} {K : Value → Aa → Own → Prop} {Φ : Value → Aa → Own → Prop}
theorem Con.mono {Ψ : Value → Aa → Own → Prop} (h : Con P f args M G Φ) (hk : ∀ v M' G', Φ v M' G' → Ψ v M' G') : Con P f args M G Ψ :=
 ⟨h.1, fun w hs cs => let ⟨e, w', fr, ⟨v, he, M', G', h1, h2⟩, r⟩ := h.2 w hs cs; ⟨e, w', fr, ⟨v, he, M', G', h1, hk _ _ _ h2⟩, r⟩⟩
theorem St.part {w0 w : World} {F : List Nat} {M0 Mr : Aa} (hs : St w0 F M0 M (G1 ++ G2) w) (ia : Mr.le (M.add G2)) : St w (G1.map (·.1)) Mr Mr G1 w := by
 have hnd := hs.nodup
 rw [lAv] at hnd
 obtain ⟨n1, n2, n3⟩ := lBo.1 hnd
 refine St.enter (fun b o hb => ?_) (fun p hp => hs.own p (by simp [hp])) (fun p hp o hm => ?_) n1
 ·rcases ia b o hb with h | h
  ·exact hs.agree b o h
  ·exact hs.own (b, o) (by simp [h])
 ·rcases ia _ o hm with h | h
  ·exact hs.sep p (by simp [hp]) o h
  ·exact n3 p.1 (lAk.2 ⟨p, hp, rfl⟩) p.1 (lAk.2 ⟨_, h, rfl⟩) rfl
theorem Con.callA (h : Con P f args M G1 Φ) (hG : G.Perm (G1 ++ G2)) (hk : ∀ v M' G', M.le M' → Φ v M' G' → K v M' (G2 ++ G')) : De C f args M G K := by
 refine ⟨h.1, fun w hs cs => ?_⟩
 have ah := hs.perm hG
 obtain ⟨e, w', fr, ⟨v, he, M', G', h1, h2⟩, r⟩ := h.2 w (ah.part (JB _ _)) cs
 exact ⟨e, w', fr, ⟨v, he, M', G2 ++ G', (ah.callA h1).perm lBt, hk v M' G' h1.base h2⟩, r⟩
theorem Con.callB {Mr : Aa} (h : Con P f args Mr G1 Φ) (ia : Mr.le (M.add G2)) (hG : G.Perm (G1 ++ G2)) (hk : ∀ v M' G', Φ v M' G' → K v M (G2 ++ G')) : De C f args M G K := by
 refine ⟨h.1, fun w hs cs => ?_⟩
 have ah := hs.perm hG
 obtain ⟨e, w', fr, ⟨v, he, M', G', h1, h2⟩, r⟩ := h.2 w (ah.part ia) cs
 exact ⟨e, w', fr, ⟨v, he, M, G2 ++ G', (ah.callB h1).perm lBt, hk v M' G' h2⟩, r⟩
def Aq (P : Program) (f : FuncId) (args : Array Value) (M : Aa) (v : Value) : Prop := Con P f args M [] fun u _ _ => u = v
theorem Aq.call {v : Value} (h : Aq P f args (M.add G) v) (hk : K v M G) : De C f args M G K := by
 refine ⟨h.1, fun w hs cs => ?_⟩
 obtain ⟨e, w', fr, ⟨u, he, M', G', h1, h2⟩, r⟩ := h.2 w (St.part (G1 := []) (G2 := G) hs (Aa.le_refl _)) cs
 subst h2
 refine ⟨e, w', fr, ⟨u, he, M, G, ?_, hk⟩, r⟩
 have := St.callB (G1 := []) (G2 := G) hs h1
 exact this.weaken (List.sublist_append_right _ _)
end
variable {P : Program}
structure Ext (w w' : World) : Prop where
 os : w'.os = w.os
 tape : Tp w' w
 output : w'.output = w.output
 size : w.heap.size ≤ w'.heap.size
 block : ∀ k, k < w.heap.size → w'.heap[k]? = w.heap[k]?
theorem Ext.refl (w : World) : Ext w w := ⟨rfl, Tp.refl _, rfl, lA5 _, fun _ _ => rfl⟩
theorem St.ext {w0 w w' : World} {F : List Nat} {M0 M : Aa} {G : Own} (h : St w0 F M0 M G w) (e : Ext w w') : St w0 F M0 M G w' :=
 ⟨e.os.trans h.os, e.tape.trans h.tape, e.output.trans h.output, lBm h.size e.size,
  fun b hb hf => (e.block b (lAx hb h.size)).trans (h.frame b hb hf), fun b o hb => (e.block b (h.ltM hb)).trans (h.agree b o hb),
  fun p hp => (e.block p.1 (h.lt hp)).trans (h.own p hp), h.sep, h.new, h.nodup, h.base, h.fresh⟩
theorem St.kept {w0 w w' : World} {F : List Nat} {M0 M Mk : Aa} {G Gk : Own} (hk : St w0 F M0 Mk Gk w) (h : St w0 F M0 M G w') (hM : Mk.le M) (hG : ∀ p ∈ Gk, p ∈ G) : St w0 F M0 Mk Gk w' :=
 ⟨h.os, h.tape, h.output, h.size, h.frame, fun b o hb => h.agree b o (hM b o hb), fun p hp => h.own p (hG p hp), hk.sep, hk.new, hk.nodup, hk.base, hk.fresh⟩
section
variable {C : Cx P} {ops : Array Oper}
def dep (ops : Array Oper) (i j : Nat) : Prop := ∃ o, ops[j]? = some o ∧ ∃ e ∈ o.after.toList, Region.binds .any e = true ∧ e.on = i
inductive Bef (ops : Array Oper) : Nat → Nat → Prop
 | one {i j : Nat} (h : dep ops i j) : Bef ops i j
 | step {i k j : Nat} (h : Bef ops i k) (hd : dep ops k j) : Bef ops i j
def Bi5 (ops : Array Oper) (L : Nat → Bool) : Prop := ∀ i j, L j = true → dep ops i j → L i = true
theorem Bi5.bef {L : Nat → Bool} (h : Bi5 ops L) {i j : Nat} (hb : Bef ops i j) (hj : ∀ k, dep ops k j → L k = true) : L i = true := by
 cases hb with
 | one hd => exact hj _ hd
 | step hb hd =>
  have h1 := hj _ hd
  clear hd hj
  induction hb with
  | one hd => exact h _ _ h1 hd
  | step hb hd ih => exact ih (h _ _ h1 hd)
def An8 (C : Cx P) (Mk : Aa) (Gk : Own) (ops : Array Oper) (o : Oper) (av : Act) (v : Value) : Prop :=
 ∀ (a : Act) (w : World), (∀ t ∈ o.looksAt ops, a.tmps[t]? = av.tmps[t]?) → C.St Mk Gk w →
  (Region.wanted o (yielded ops a.tmps) = true → Ip P o a.eval w fun u w' => u = v ∧ Ext w w') ∧ (Region.wanted o (yielded ops a.tmps) = false → v = undef)
def Kl (L : Nat → Bool) (i : Nat) : Nat → Bool := fun j => if j = i then true else L j
theorem Dy {L : Nat → Bool} {i : Nat} : Kl L i i = true := by simp [Kl]
theorem Br {L : Nat → Bool} {i j : Nat} (h : L j = true) : Kl L i j = true := by unfold Kl; split; rfl; exact h
theorem Fd {L : Nat → Bool} {i j : Nat} (h : Kl L i j = true) : j = i ∨ L j = true := by unfold Kl at h; split at h; exact .inl ‹_›; exact .inr h
theorem En {L : Nat → Bool} {i j : Nat} (h : Kl L i j = false) : j ≠ i ∧ L j = false := by unfold Kl at h; split at h; cases h; exact ⟨‹_›, h⟩
def VT (C : Cx P) (ops : Array Oper) (K : Act → Aa → Own → Prop) : Nat → (Nat → Bool) → Aa → Own → Act → Aa → Own → Prop
 | 0, D, _, _, av, M, G => (∀ i, i < ops.size → D i = true) ∧ K av M G
 | n + 1, D, Mk, Gk, av, M, G =>
  ((∀ i, i < ops.size → D i = true) ∧ K av M G) ∨
  (∃ q o v, ops[q]? = some o ∧ D q = false ∧ (∀ p, Bef ops p q → D p = true) ∧ An8 C Mk Gk ops o av v ∧ VT C ops K n (Kl D q) Mk Gk (av.put o.dst v) M G) ∨
  ((∃ i, i < ops.size ∧ D i = false) ∧ ∀ i, i < ops.size → D i = false → (∀ p, Bef ops p i → D p = true) → ∃ o, ops[i]? = some o ∧ Region.wanted o (yielded ops av.tmps) = true ∧
   ∀ w, C.St M G w → Ip P o av.eval w fun v w' => ∃ M' G' Mk' Gk', C.St M' G' w' ∧
    ((Mk' = Mk ∧ Gk' = Gk ∧ M.le M' ∧ ∀ p ∈ Gk, p ∈ G') ∨ (Mk' = M' ∧ Gk' = G' ∧ ∀ j, D j = true → Bef ops j i)) ∧ VT C ops K n (Kl D i) Mk' Gk' (av.put o.dst v) M' G')
theorem VT.mono {C : Cx P} {ops : Array Oper} {K : Act → Aa → Own → Prop} : ∀ {n m : Nat} {D : Nat → Bool} {Mk : Aa} {Gk : Own} {av : Act} {M : Aa} {G : Own}, n ≤ m → VT C ops K n D Mk Gk av M G → VT C ops K m D Mk Gk av M G
 | 0, 0, _, _, _, _, _, _, _, h => h
 | 0, m + 1, _, _, _, _, _, _, _, h => .inl h
 | n + 1, 0, _, _, _, _, _, _, hn, _ => by omega
 | n + 1, m + 1, _, _, _, _, _, _, hn, h => by
  rcases h with h | ⟨q, o, v, h1, h2, h3, h4, h5⟩ | ⟨h1, h2⟩
  ·exact .inl h
  ·exact .inr (.inl ⟨q, o, v, h1, h2, h3, h4, VT.mono (by omega) h5⟩)
  ·refine .inr (.inr ⟨h1, fun i hi hD hb => ?_⟩)
   obtain ⟨o, ho, hw, cq⟩ := h2 i hi hD hb
   refine ⟨o, ho, hw, fun w hs => (cq w hs).mono ?_⟩
   rintro v w' ⟨M', G', Mk', Gk', k1, k2, k3⟩
   exact ⟨M', G', Mk', Gk', k1, k2, VT.mono (by omega) k3⟩
structure Plan (ops : Array Oper) (nt : Nat) : Prop where
 looks : ∀ (i j : Nat) (oi oj : Oper) (t : Nat), ops[i]? = some oi → ops[j]? = some oj → oj.dst = some t → t ∈ oi.looksAt ops → Bef ops j i ∨ Bef ops i j
 irr : ∀ i, ¬ Bef ops i i
 one : Ri ops
 dst : ∀ (i : Nat) (o : Oper) (d : Nat), ops[i]? = some o → o.dst = some d → d < nt
 sel : ∀ (i : Nat) (o : Oper), ops[i]? = some o → (∀ cs b, o.op ≠ .select cs b) ∧ (∀ c, o.op ≠ .defer c)
 live : ∀ (md : Region.Mode) (listed : Array Bool), listed.size = ops.size → Region.ready md ops listed = [] → ∀ i, i < ops.size → listed.getD i false = true
structure AInv (C : Cx P) (ops : Array Oper) (K : Act → Aa → Own → Prop) (n : Nat) (D L : Nat → Bool) (Mk : Aa) (Gk : Own) (a av : Act) (M : Aa) (G : Own) (w : World) : Prop where
 seq : VT C ops K n D Mk Gk av M G
 st : C.St M G w
 stk : C.St Mk Gk w
 le : Mk.le M
 down : Bi5 ops L
 closed : ∀ i j, D j = true → Bef ops i j → D i = true
 sub : ∀ j, L j = true → D j = true
 pend : ∀ j, D j = true → L j = false → ∃ o v avj, ops[j]? = some o ∧ An8 C Mk Gk ops o avj v ∧ (∀ d, o.dst = some d → av.tmps[d]? = some v) ∧
  (∀ t ∈ o.looksAt ops, (∃ i oi, ops[i]? = some oi ∧ oi.dst = some t ∧ Bef ops i j) → av.tmps[t]? = avj.tmps[t]?) ∧
  (∀ t ∈ o.looksAt ops, ¬ (∃ i oi, ops[i]? = some oi ∧ oi.dst = some t ∧ Bef ops i j) → a.tmps[t]? = avj.tmps[t]?)
 agree : ∀ t, (∀ j, D j = true → L j = false → ∀ o, ops[j]? = some o → o.dst ≠ some t) → a.tmps[t]? = av.tmps[t]?
 sz : a.tmps.size = C.nt
 szv : av.tmps.size = C.nt
 df : a.defers = C.ds
 dfv : av.defers = C.ds
variable {Mk : Aa} {Gk : Own} {K : Act → Aa → Own → Prop} {n : Nat} {D L : Nat → Bool} {a av : Act} {M : Aa} {G : Own} {w : World}
theorem H3 (a : Act) (d : Option Nat) (v : Value) : (a.put d v).tmps.size = a.tmps.size := by cases d <;> simp [Act.put]
theorem Cc {a : Act} {d : Option Nat} {v : Value} {t : Nat} (h : d ≠ some t) : (a.put d v).tmps[t]? = a.tmps[t]? := by
 cases d with
 | none => rfl
 | some d => exact Cv (fun e => h (by rw [e]))
theorem H4 {a : Act} {d : Nat} {v : Value} (h : d < a.tmps.size) : (a.put (some d) v).tmps[d]? = some v := by simp [Act.put, h]
theorem AInv.adv (hp : Plan ops C.nt) (h : AInv C ops K (n + 1) D L Mk Gk a av M G w) {q : Nat} {o : Oper} {v : Value} (ho : ops[q]? = some o) (hD : D q = false) (b0 : ∀ p, Bef ops p q → D p = true)
  (hq : An8 C Mk Gk ops o av v) (gx : VT C ops K n (Kl D q) Mk Gk (av.put o.dst v) M G) :
  AInv C ops K n (Kl D q) L Mk Gk a (av.put o.dst v) M G w := by
 have te : L q = false := by
  cases hl : L q with
  | false => rfl
  | true => rw [h.sub q hl] at hD; cases hD
 have kR : ∀ j, D j = true → j ≠ q := by rintro j hj rfl; rw [hj] at hD; cases hD
 have hne : ∀ j', D j' = true → ∀ o' t, ops[j']? = some o' → o'.dst = some t → o.dst ≠ some t := by
  intro j' aR o' t bH dM hd
  exact kR j' aR (hp.one j' q o' o t bH ho dM hd)
 have pO : ∀ t ∈ o.looksAt ops, o.dst ≠ some t := by
  intro t ht hd
  exact hp.irr q ((hp.looks q q o o t ho ho hd ht).elim id id)
 refine ⟨gx, h.st, h.stk, h.le, h.down, ?_, ?_, ?_, ?_, h.sz, by rw [H3]; exact h.szv, h.df, by rw [B6]; exact h.dfv⟩
 ·intro i j hj hb
  rcases Fd hj with rfl | hj
  ·exact Br (b0 i hb)
  ·exact Br (h.closed i j hj hb)
 ·intro j hj; exact Br (h.sub j hj)
 ·intro j' aR bf
  rcases Fd aR with rfl | aR
  ·refine ⟨o, v, av, ho, hq, ?_, ?_, ?_⟩
   ·intro d hd
    rw [hd]; exact H4 (by rw [h.szv]; exact hp.dst _ o d ho hd)
   ·intro t ht _
    exact Cc (pO t ht)
   ·intro t ht cw
    refine h.agree t ?_
    intro j2 ib jD o2 au fR
    rcases hp.looks _ j2 o o2 t ho au fR ht with hb | hb
    ·exact cw ⟨j2, o2, au, fR, hb⟩
    ·rw [h.closed _ _ ib hb] at hD; cases hD
  ·obtain ⟨o', v', avj, h1, h2, h3, h4, h5⟩ := h.pend j' aR bf
   refine ⟨o', v', avj, h1, h2, ?_, ?_, h5⟩
   ·intro d hd
    rw [Cc (hne j' aR o' d h1 hd)]
    exact h3 d hd
   ·intro t ht cw
    rw [Cc ?_]
    ·exact h4 t ht cw
    ·intro hd
     obtain ⟨i, oi, q1, q2, q3⟩ := cw
     have e1 := hp.one q i o oi t ho q1 hd q2
     subst e1
     rw [h.closed _ _ aR q3] at hD; cases hD
 ·intro t ht
  rw [Cc ?_]
  ·exact h.agree t fun j' aR bf => ht j' (Br aR) bf
  ·exact ht q Dy te o ho
theorem JZ (hp : Plan ops C.nt) {i : Nat} (hi : i < ops.size) : ∀ {n : Nat} {D : Nat → Bool} {av : Act}, AInv C ops K n D L Mk Gk a av M G w →
  (∃ n' D' av', AInv C ops K n' D' L Mk Gk a av' M G w ∧ D' i = true) ∨
  (∃ n' D' av', AInv C ops K (n' + 1) D' L Mk Gk a av' M G w ∧ D' i = false ∧ ((∀ p, Bef ops p i → D' p = true) → ∃ o, ops[i]? = some o ∧ Region.wanted o (yielded ops av'.tmps) = true ∧
   ∀ w, C.St M G w → Ip P o av'.eval w fun v w' => ∃ M' G' Mk' Gk', C.St M' G' w' ∧
    ((Mk' = Mk ∧ Gk' = Gk ∧ M.le M' ∧ ∀ p ∈ Gk, p ∈ G') ∨ (Mk' = M' ∧ Gk' = G' ∧ ∀ j, D' j = true → Bef ops j i)) ∧ VT C ops K n' (Kl D' i) Mk' Gk' (av'.put o.dst v) M' G'))
 | 0, D, av, h => .inl ⟨0, D, av, h, h.seq.1 i hi⟩
 | n + 1, D, av, h => by
  by_cases jj : D i = true
  ·exact .inl ⟨n + 1, D, av, h, jj⟩
  ·have jj : D i = false := by simpa using jj
   rcases h.seq with ⟨hall, _⟩ | ⟨q, o, v, ho, hD, b0, hq, gx⟩ | ⟨_, hall⟩
   ·rw [hall i hi] at jj; cases jj
   ·exact JZ hp hi (h.adv hp ho hD b0 hq gx)
   ·exact .inr ⟨n, D, av, h, jj, hall i hi jj⟩
theorem Dp {o : Oper} {a a' : Act} (h : ∀ t ∈ o.looksAt ops, a.tmps[t]? = a'.tmps[t]?) : Region.wanted o (yielded ops a.tmps) = Region.wanted o (yielded ops a'.tmps) := by
 unfold Region.wanted
 cases hg : o.guard with
 | none => rfl
 | some p =>
  obtain ⟨g, want⟩ := p
  simp only [yielded]
  cases hd : (ops[g]?).bind (·.dst) with
  | none => rfl
  | some s =>
   have : a.tmps[s]? = a'.tmps[s]? := h s (by simp [Oper.looksAt, hg, hd])
   simp [this]
theorem Jg {o : Oper} {a a' : Act} (hs : ∀ cs b, o.op ≠ .select cs b) (h : ∀ t ∈ o.looksAt ops, a.tmps[t]? = a'.tmps[t]?) : execOp a.eval o = execOp a'.eval o := by
 refine execOp_congr o hs ?_
 intro x hx
 cases x with
 | tmp t =>
  have : a.tmps[t]? = a'.tmps[t]? := h t (by
   unfold Oper.looksAt
   exact lD6 _ (List.mem_filterMap.2 ⟨.tmp t, by simpa using hx, rfl⟩))
  simp [Act.eval, lBz, this]
 | _ => rfl
theorem Bi5.set {L : Nat → Bool} (h : Bi5 ops L) {i : Nat} (hd : ∀ k, dep ops k i → L k = true) : Bi5 ops (Kl L i) := by
 intro x j hj hx
 rcases Fd hj with rfl | hj
 ·exact Br (hd x hx)
 ·exact Br (h x j hj hx)
theorem AInv.exec (hp : Plan ops C.nt) {j : Nat} (h : AInv C ops K n D L Mk Gk a av M G w)
  (hj : D j = true) (tf : L j = false) (hd : ∀ k, dep ops k j → L k = true) {k : List Item} {cs : List Frame} {tail : List Nat}
  (hT : ∀ a' w', AInv C ops K n D (Kl L j) Mk Gk a' av M G w' → C.T cs (lone (C.b.atR a' (.inRegion ops tail :: k)) cs w')) :
  C.T cs (lone (C.b.atR a (.inRegion ops (j :: tail) :: k)) cs w) := by
 obtain ⟨o, v, avj, ho, hq, h3, h4, h5⟩ := h.pend j hj tf
 have fq : ∀ t ∈ o.looksAt ops, a.tmps[t]? = avj.tmps[t]? := by
  intro t ht
  by_cases cw : ∃ i oi, ops[i]? = some oi ∧ oi.dst = some t ∧ Bef ops i j
  ·rw [← h4 t ht cw]
   refine h.agree t ?_
   intro j' aR bf o' bH dM
   obtain ⟨i, oi, q1, q2, q3⟩ := cw
   have e := hp.one j' i o' oi t bH q1 dM q2
   subst e
   have := h.down.bef q3 hd
   rw [this] at bf; cases bf
  ·exact h5 t ht cw
 obtain ⟨q1, q2⟩ := hq a w fq h.stk
 have c7 : ∀ w', Ext w w' → AInv C ops K n D (Kl L j) Mk Gk (a.put o.dst v) av M G w' := by
  intro w' he
  refine ⟨h.seq, h.st.ext he, h.stk.ext he, h.le, h.down.set hd, h.closed, ?_, ?_, ?_, by rw [H3]; exact h.sz, h.szv, by rw [B6]; exact h.df, h.dfv⟩
  ·intro i hi
   rcases Fd hi with rfl | hi
   ·exact hj
   ·exact h.sub i hi
  ·intro j' aR bf
   obtain ⟨hne, bf⟩ := En bf
   obtain ⟨o', v', av', z1, z2, z3, z4, z5⟩ := h.pend j' aR bf
   refine ⟨o', v', av', z1, z2, z3, z4, ?_⟩
   intro t ht cw
   rw [Cc ?_]
   ·exact z5 t ht cw
   ·intro dX
    rcases hp.looks j' j o' o t z1 ho dX ht with hb | hb
    ·exact cw ⟨j, o, ho, dX, hb⟩
    ·have := h.down.bef hb hd
     rw [this] at bf; cases bf
  ·intro t ht
   by_cases dX : o.dst = some t
   ·rw [dX, H4 (by rw [h.sz]; exact hp.dst _ o t ho dX), h3 t dX]
   ·rw [Cc dX]
    refine h.agree t ?_
    intro j' aR bf o' bH dM
    by_cases e : j' = j
    ·subst e; rw [ho] at bH; cases bH; exact dX dM
    ·exact ht j' aR (by simp [Kl, e, bf]) o' bH dM
 by_cases hw : Region.wanted o (yielded ops a.tmps) = true
 ·refine Km C ho hw (hp.sel j o ho).2 ?_
  refine (q1 hw).mono ?_
  rintro u w' ⟨rfl, he⟩
  exact hT _ _ (c7 w' he)
 ·have gN : Region.wanted o (yielded ops a.tmps) = false := by simpa using hw
  have hv := q2 gN
  subst hv
  refine C.back (stepR_op_skip (by rw [ho]; exact gN)) ?_
  rw [show (ops[j]?).bind (·.dst) = o.dst from by rw [ho]; rfl]
  exact hT _ _ (c7 w (Ext.refl w))
theorem AInv.sigExec (hp : Plan ops C.nt) {i : Nat} (h : AInv C ops K (n + 1) D L Mk Gk a av M G w) (ic : D i = false)
  (vf : L i = false) (hd : ∀ k, dep ops k i → L k = true) {o : Oper} (ho : ops[i]? = some o) (cx : Region.wanted o (yielded ops av.tmps) = true)
  (cq : ∀ w, C.St M G w → Ip P o av.eval w fun v w' => ∃ M' G' Mk' Gk', C.St M' G' w' ∧
    ((Mk' = Mk ∧ Gk' = Gk ∧ M.le M' ∧ ∀ p ∈ Gk, p ∈ G') ∨ (Mk' = M' ∧ Gk' = G' ∧ ∀ j, D j = true → Bef ops j i)) ∧ VT C ops K n (Kl D i) Mk' Gk' (av.put o.dst v) M' G')
  {k : List Item} {cs : List Frame} {tail : List Nat}
  (hT : ∀ a' av' M' G' Mk' Gk' w', AInv C ops K n (Kl D i) (Kl L i) Mk' Gk' a' av' M' G' w' → C.T cs (lone (C.b.atR a' (.inRegion ops tail :: k)) cs w')) :
  C.T cs (lone (C.b.atR a (.inRegion ops (i :: tail) :: k)) cs w) := by
 have gy : ∀ j', D j' = true → ¬ Bef ops i j' := by
  intro j' aR hb
  rw [h.closed _ _ aR hb] at ic; cases ic
 have fq : ∀ t ∈ o.looksAt ops, a.tmps[t]? = av.tmps[t]? := by
  intro t ht
  refine h.agree t ?_
  intro j' aR bf o' bH dM
  rcases hp.looks i j' o o' t ho bH dM ht with hb | hb
  ·have := h.down.bef hb hd
   rw [this] at bf; cases bf
  ·exact gy j' aR hb
 have kR : ∀ j, D j = true → j ≠ i := by rintro j hj rfl; rw [hj] at ic; cases ic
 have hne : ∀ j', D j' = true → ∀ o' t, ops[j']? = some o' → o'.dst = some t → o.dst ≠ some t := by
  intro j' aR o' t bH dM dX
  exact kR j' aR (hp.one j' i o' o t bH ho dM dX)
 refine Km C ho ((Dp fq).trans cx) (hp.sel i o ho).2 ?_
 have cw : Ip P o a.eval w fun v w' => ∃ M' G' Mk' Gk', C.St M' G' w' ∧
    ((Mk' = Mk ∧ Gk' = Gk ∧ M.le M' ∧ ∀ p ∈ Gk, p ∈ G') ∨ (Mk' = M' ∧ Gk' = G' ∧ ∀ j, D j = true → Bef ops j i)) ∧ VT C ops K n (Kl D i) Mk' Gk' (av.put o.dst v) M' G' := by
  have := cq w h.st
  unfold Ip at this ⊢
  rwa [Jg (hp.sel i o ho).1 fq]
 refine cw.mono ?_
 rintro v w' ⟨M', G', Mk', Gk', ah, bE, gx⟩
 have pP : C.St Mk' Gk' w' ∧ Mk'.le M' ∧ ((Mk' = Mk ∧ Gk' = Gk) ∨ ∀ j, D j = true → L j = true) := by
  rcases bE with ⟨rfl, rfl, hM, hG⟩ | ⟨rfl, rfl, hall⟩
  ·exact ⟨h.stk.kept ah (Aa.le_trans h.le hM) hG, Aa.le_trans h.le hM, .inl ⟨rfl, rfl⟩⟩
  ·exact ⟨ah, Aa.le_refl _, .inr fun j hj => h.down.bef (hall j hj) hd⟩
 obtain ⟨cM, cU, cH⟩ := pP
 refine hT _ (av.put o.dst v) M' G' Mk' Gk' w' ⟨gx, ah, cM, cU, h.down.set hd, ?_, ?_, ?_, ?_, by rw [H3]; exact h.sz, by rw [H3]; exact h.szv, by rw [B6]; exact h.df, by rw [B6]; exact h.dfv⟩
 ·intro x j hj hb
  rcases Fd hj with rfl | hj
  ·exact Br (h.sub x (h.down.bef hb hd))
  ·exact Br (h.closed x j hj hb)
 ·intro j hj
  rcases Fd hj with rfl | hj
  ·exact Dy
  ·exact Br (h.sub j hj)
 ·intro j' aR bf
  obtain ⟨pQ, bf⟩ := En bf
  have ib : D j' = true := (Fd aR).resolve_left pQ
  rcases cH with ⟨rfl, rfl⟩ | hall
  ·obtain ⟨o', v', av', z1, z2, z3, z4, z5⟩ := h.pend j' ib bf
   refine ⟨o', v', av', z1, z2, ?_, ?_, ?_⟩
   ·intro d cG
    rw [Cc (hne j' ib o' d z1 cG)]
    exact z3 d cG
   ·intro t ht hx
    rw [Cc ?_]
    ·exact z4 t ht hx
    ·intro dX
     obtain ⟨i', oi, y1, y2, y3⟩ := hx
     have e := hp.one i i' o oi t ho y1 dX y2
     subst e
     exact gy j' ib y3
   ·intro t ht hx
    rw [Cc ?_]
    ·exact z5 t ht hx
    ·intro dX
     rcases hp.looks j' i o' o t z1 ho dX ht with hb | hb
     ·exact hx ⟨i, o, ho, dX, hb⟩
     ·have := h.down.bef hb hd
      rw [this] at bf; cases bf
  ·rw [hall j' ib] at bf; cases bf
 ·intro t ht
  by_cases dX : o.dst = some t
  ·rw [dX, H4 (by rw [h.sz]; exact hp.dst _ o t ho dX), H4 (by rw [h.szv]; exact hp.dst _ o t ho dX)]
  ·rw [Cc dX, Cc dX]
   refine h.agree t ?_
   intro j' aR bf o' bH dM
   by_cases e : j' = i
   ·subst e; rw [aR] at ic; cases ic
   ·exact ht j' (Br aR) (by simp [Kl, e, bf]) o' bH dM
theorem AInv.fin (hall : ∀ i, i < ops.size → L i = true) (h : AInv C ops K n D L Mk Gk a av M G w) : K a M G := by
 have hD : ∀ i, i < ops.size → D i = true := fun i hi => h.sub i (hall i hi)
 have aU : ∀ (i : Nat) (o : Oper), ops[i]? = some o → i < ops.size := fun i o ho => (lBu.1 ho).1
 have ha : a = av := by
  have ht : a.tmps = av.tmps := by
   refine Array.ext (h.sz.trans h.szv.symm) fun i h1 h2 => ?_
   have := h.agree i (fun j hj hl o ho => by rw [hall j (aU j o ho)] at hl; cases hl)
   simpa [h1, h2] using this
  cases a; cases av
  have h1 := h.df.trans h.dfv.symm
  simp at ht h1
  simp [ht, h1]
 cases n with
 | zero => rw [ha]; exact h.seq.2
 | succ n =>
  rcases h.seq with ⟨_, hk⟩ | ⟨q, o, v, ho, hq, _⟩ | ⟨⟨i, hi, sR⟩, _⟩
  ·rw [ha]; exact hk
  ·rw [hD q (aU q o ho)] at hq; cases hq
  ·rw [hD i hi] at sR; cases sR
theorem Ae2 {md : Region.Mode} {e : Edge} (h : Region.binds .any e = true) : Region.binds md e = true := by
 unfold Region.binds at *
 cases hg : e.ground <;> simp_all
theorem Ae3 {md : Region.Mode} {listed : Array Bool} {i : Nat} : i ∈ Region.ready md ops listed → i < ops.size ∧ listed.getD i true = false ∧ ∀ k, dep ops k i → listed.getD k false = true := by
 intro h
 simp only [Region.ready, lCm, lAl, lA6, lB6] at h
 obtain ⟨h1, h2, h3⟩ := h
 refine ⟨h1, h2, ?_⟩
 rintro k ⟨o, ho, e, he, hb, rfl⟩
 rw [ho] at h3
 simp only [lC9, lAn, lF0, lAr, lB6] at h3
 rcases h3 e (by simpa using he) with h | h
 ·rw [Ae2 hb] at h; cases h
 ·exact h
theorem An9 {md : Region.Mode} {listed : Array Bool} {i : Nat} {o : Oper} (ho : ops[i]? = some o) (h : listed.getD i true = false) (hd : ∀ e ∈ o.after.toList, Region.binds md e = true → listed.getD e.on false = true) : i ∈ Region.ready md ops listed := by
 simp only [Region.ready, lCm, lAl, lA6, lB6]
 refine ⟨(lBu.1 ho).1, h, ?_⟩
 rw [ho]
 simp only [lC9, lAn, lF0, lAr, lB6]
 intro e he
 cases hb : Region.binds md e with
 | false => exact .inl rfl
 | true => exact .inr (hd e (by simpa using he) hb)
theorem Ae4 (hp : Plan ops C.nt) {k : List Item} {cs : List Frame} (hT : ∀ a M G w, a.tmps.size = C.nt → a.defers = C.ds → C.St M G w → K a M G → C.T cs (lone (C.b.atR a (.inRegion ops [] :: k)) cs w)) :
  ∀ (md : Region.Mode) (fuel t : Nat) (listed : Array Bool), listed.size = ops.size → (∀ S : List Nat, S.Nodup → (∀ i ∈ S, i < ops.size ∧ listed.getD i false = false) → S.length ≤ fuel) →
  ∀ {n : Nat} {D : Nat → Bool} {Mk : Aa} {Gk : Own} {a av : Act} {M : Aa} {G : Own} {w : World}, AInv C ops K n D (fun i => listed.getD i false) Mk Gk a av M G w →
  C.T cs (lone (C.b.atR a (.inRegion ops (Region.linearise.go md ops fuel t listed []) :: k)) cs w) := by
 intro md fuel
 induction fuel with
 | zero =>
  intro t listed aO fS n D Mk Gk a av M G w h
  have hall : ∀ i, i < ops.size → listed.getD i false = true := by
   intro i hi
   cases hl : listed.getD i false with
   | true => rfl
   | false => have := fS [i] (by simp) (by intro j hj; rw [lAi] at hj; subst hj; exact ⟨hi, hl⟩); simp at this
  simpa [Region.linearise.go] using hT a M G w h.sz h.df h.st (h.fin hall)
 | succ fuel ih =>
  intro t listed aO fS n D Mk Gk a av M G w h
  simp only [Region.linearise.go]
  change C.T cs (lone (C.b.atR a (.inRegion ops (match (Region.ready md ops listed)[t % (Region.ready md ops listed).length]? with
   | some i => Region.linearise.go md ops fuel (t / (Region.ready md ops listed).length) (listed.setIfInBounds i true) [i]
   | none => [].reverse) :: k)) cs w)
  cases hi : (Region.ready md ops listed)[t % (Region.ready md ops listed).length]? with
  | none =>
   have bn : Region.ready md ops listed = [] := by
    cases hr : Region.ready md ops listed with
    | nil => rfl
    | cons x xs =>
     rw [hr] at hi
     have aU : t % (x :: xs).length < (x :: xs).length := Nat.mod_lt _ (by simp)
     simp at hi
     simp at aU
     omega
   exact hT a M G w h.sz h.df h.st (h.fin (hp.live md listed aO bn))
  | some i =>
   simp only []
   rw [linearise_go_acc, List.reverse_singleton, lDd]
   obtain ⟨aU, hl, hd⟩ := Ae3 (lCb hi)
   have dN : listed.getD i false = false := by
    have : i < listed.size := by omega
    simpa [lBz, this] using hl
   have cI : (fun j => (listed.setIfInBounds i true).getD j false) = Kl (fun j => listed.getD j false) i := by
    funext j
    simp only [Kl, lBz, lEf]
    by_cases e : i = j
    ·subst e; simp [show i < listed.size by omega]
    ·simp [e, Ne.symm e]
   have ft : ∀ S : List Nat, S.Nodup → (∀ j ∈ S, j < ops.size ∧ (listed.setIfInBounds i true).getD j false = false) → S.length ≤ fuel := by
    intro S hS hm
    have ll : ∀ j ∈ S, j ≠ i ∧ listed.getD j false = false := fun j hj => by
     have := (hm j hj).2
     have h2 : Kl (fun j => listed.getD j false) i j = false := by rw [← cI]; exact this
     exact En h2
    have := fS (i :: S) (lCu.2 ⟨fun hi => (ll i hi).1 rfl, hS⟩) (by
     intro j hj
     rcases lBp.1 hj with rfl | hj
     ·exact ⟨aU, dN⟩
     ·exact ⟨(hm j hj).1, (ll j hj).2⟩)
    simpa using this
   have eC : (listed.setIfInBounds i true).size = ops.size := by simpa using aO
   rcases JZ hp aU h with ⟨n', D', av', h', ic⟩ | ⟨n', D', av', h', ic, hall⟩
   ·refine h'.exec hp ic dN hd ?_
    intro a' w' h2
    exact ih _ _ eC ft (by rw [cI]; exact h2)
   ·have b0 : ∀ p, Bef ops p i → D' p = true := fun p hb => h'.sub p (h'.down.bef hb hd)
    obtain ⟨o, ho, cx, cq⟩ := hall b0
    refine h'.sigExec hp ic dN hd ho cx cq ?_
    intro a' av2 M' G' Mk' Gk' w' h2
    exact ih _ _ eC ft (by rw [cI]; exact h2)
theorem Ao0 : ∀ (n : Nat) (S : List Nat), S.Nodup → (∀ i ∈ S, i < n) → S.length ≤ n := by
 intro n
 induction n with
 | zero => intro S _ h; cases S with | nil => simp | cons x S => have := h x (by simp); omega
 | succ n ih =>
  intro S hS h
  have h1 : (S.erase n).Nodup := hS.erase n
  have h2 : ∀ i ∈ S.erase n, i < n := by
   intro i hi
   have := h i (List.mem_of_mem_erase hi)
   have hne : i ≠ n := by rintro rfl; exact hS.not_mem_erase hi
   omega
  have h3 := ih _ h1 h2
  have h4 : S.length ≤ (S.erase n).length + 1 := by
   rw [List.length_erase]; split <;> omega
  omega
theorem Ae5 (hp : Plan ops C.nt) {n : Nat} {Gk : Own} (pR : Gk.Sublist G) (aO : a.tmps.size = C.nt) (oU : a.defers = C.ds) (aa : C.St M G w) (hV : VT C ops K n (fun _ => false) M Gk a M G) {k : List Item} {cs : List Frame}
  (hT : ∀ a M G w, a.tmps.size = C.nt → a.defers = C.ds → C.St M G w → K a M G → C.T cs (lone (C.b.atR a (.inRegion ops [] :: k)) cs w)) (md : Region.Mode) (t : Nat) :
  C.T cs (lone (C.b.atR a (.inRegion ops (Region.linearise md ops t) :: k)) cs w) := by
 refine Ae4 hp hT md ops.size t _ (by simp) (fun S hS h => Ao0 _ S hS fun i hi => (h i hi).1) (n := n) (D := fun _ => false) (Mk := M) (Gk := Gk) (av := a) (M := M) (G := G) ?_
 have hf : ∀ i, (Array.replicate ops.size false).getD i false = false := by
  intro i
  simp only [lBz, Array.getElem?_replicate]
  split <;> rfl
 refine ⟨hV, aa, aa.weaken pR, Aa.le_refl _, ?_, ?_, ?_, ?_, ?_, aO, aO, oU, oU⟩
 ·intro i j hj; have := (hf j).symm.trans hj; cases this
 ·intro i j hj; cases hj
 ·intro j hj; have := (hf j).symm.trans hj; cases this
 ·intro j hj; cases hj
 ·intro t _; rfl
end
variable {P : Program}
def flat : ROp → Bool
 | .store .. | .box .. | .alloc .. | .buildSl .. | .append .. | .makeSl .. | .call .. | .callv .. | .raw _ | .copyO .. | .clearS .. | .appendZ .. | .ext .. | .bad => false
 | _ => true
def qW (C : Cx P) (ρ : Env) (M : Aa) (G : Own) (K : Value → Prop) : ROp → Prop
 | .call f args => onv (evs ρ args) fun vs => ∃ v, Aq P f vs.toArray (M.add G) v ∧ K v
 | r => opW C ρ M G (fun v _ _ => K v) r
theorem Ao1 {C : Cx P} {ρ : Env} {M : Aa} {G : Own} {K : Value → Aa → Own → Prop} {r : ROp} (hf : flat r = true) (h : opW C ρ M G K r) :
  ∃ v, K v M G ∧ ∀ C' : Cx P, opW C' ρ (M.add G) [] (fun u _ _ => u = v) r := by
 have rdm : ∀ {b off n : Nat} {cs : List Value}, rd (M.add G) b off n cs → rd ((M.add G).add []) b off n cs := fun h => h.mono (JB _ _)
 cases r with
 | mv x => obtain ⟨v, hv, hk⟩ := Ab.1 h; exact ⟨v, hk, fun C' => Ab.2 ⟨v, hv, rfl⟩⟩
 | pick c a b =>
  obtain ⟨vc, h1, h⟩ := Ab.1 h
  obtain ⟨c', h2, h⟩ := Ab.1 h
  obtain ⟨v, h3, hk⟩ := Ab.1 h
  exact ⟨v, hk, fun C' => Ab.2 ⟨vc, h1, Ab.2 ⟨c', h2, Ab.2 ⟨v, h3, rfl⟩⟩⟩⟩
 | bin op x y =>
  obtain ⟨vx, h1, h⟩ := Ab.1 h
  obtain ⟨vy, h2, h⟩ := Ab.1 h
  obtain ⟨v, h3, hk⟩ := Ab.1 h
  exact ⟨v, hk, fun C' => Ab.2 ⟨vx, h1, Ab.2 ⟨vy, h2, Ab.2 ⟨v, h3, rfl⟩⟩⟩⟩
 | eqb neg x y =>
  obtain ⟨vx, h1, h⟩ := Ab.1 h
  obtain ⟨vy, h2, h⟩ := Ab.1 h
  obtain ⟨bx, h3, h⟩ := Ab.1 h
  obtain ⟨b, h4, hk⟩ := Ab.1 h
  exact ⟨_, hk, fun C' => Ab.2 ⟨vx, h1, Ab.2 ⟨vy, h2, Ab.2 ⟨bx, h3, Ab.2 ⟨b, h4, rfl⟩⟩⟩⟩⟩
 | eqp neg x =>
  obtain ⟨vx, h1, h⟩ := Ab.1 h
  cases vx with
  | pointer a => exact ⟨_, h, fun C' => Ab.2 ⟨_, h1, rfl⟩⟩
  | _ => exact h.elim
 | notb x =>
  obtain ⟨vx, h1, h⟩ := Ab.1 h
  obtain ⟨b, h2, hk⟩ := Ab.1 h
  exact ⟨_, hk, fun C' => Ab.2 ⟨vx, h1, Ab.2 ⟨b, h2, rfl⟩⟩⟩
 | conv k x =>
  obtain ⟨vx, h1, h⟩ := Ab.1 h
  obtain ⟨b, h2, hk⟩ := Ab.1 h
  exact ⟨_, hk, fun C' => Ab.2 ⟨vx, h1, Ab.2 ⟨b, h2, rfl⟩⟩⟩
 | faddr off x =>
  obtain ⟨vx, h1, h⟩ := Ab.1 h
  obtain ⟨b, h2, hk⟩ := Ab.1 h
  exact ⟨_, hk, fun C' => Ab.2 ⟨vx, h1, Ab.2 ⟨b, h2, rfl⟩⟩⟩
 | iaddrA n sz x i =>
  obtain ⟨vx, h1, h⟩ := Ab.1 h
  obtain ⟨vi, h2, h⟩ := Ab.1 h
  obtain ⟨p, h3, h⟩ := Ab.1 h
  obtain ⟨j, h4, h5, h6, hk⟩ := Ab.1 h
  exact ⟨_, hk, fun C' => Ab.2 ⟨vx, h1, Ab.2 ⟨vi, h2, Ab.2 ⟨p, h3, Ab.2 ⟨j, h4, h5, h6, rfl⟩⟩⟩⟩⟩
 | iaddrS sz x i =>
  obtain ⟨vx, h1, h⟩ := Ab.1 h
  obtain ⟨vi, h2, h⟩ := Ab.1 h
  obtain ⟨p, h3, h⟩ := Ab.1 h
  obtain ⟨j, h4, h⟩ := Ab.1 h
  obtain ⟨ad, h5, h⟩ := Ab.1 h
  obtain ⟨q, h6, h7, h8, hk⟩ := Ab.1 h
  exact ⟨_, hk, fun C' => Ab.2 ⟨vx, h1, Ab.2 ⟨vi, h2, Ab.2 ⟨p, h3, Ab.2 ⟨j, h4, Ab.2 ⟨ad, h5, Ab.2 ⟨q, h6, h7, h8, rfl⟩⟩⟩⟩⟩⟩⟩
 | nilck x =>
  obtain ⟨vx, h1, h⟩ := Ab.1 h
  obtain ⟨b, h2, hk⟩ := Ab.1 h
  exact ⟨_, hk, fun C' => Ab.2 ⟨vx, h1, Ab.2 ⟨b, h2, rfl⟩⟩⟩
 | extract k x =>
  obtain ⟨vx, h1, h⟩ := Ab.1 h
  obtain ⟨b, h2, h⟩ := Ab.1 h
  obtain ⟨v, h3, hk⟩ := Ab.1 h
  exact ⟨_, hk, fun C' => Ab.2 ⟨vx, h1, Ab.2 ⟨b, h2, Ab.2 ⟨v, h3, rfl⟩⟩⟩⟩
 | fieldA off sz x =>
  obtain ⟨vx, h1, h⟩ := Ab.1 h
  obtain ⟨b, h2, hk⟩ := Ab.1 h
  exact ⟨_, hk, fun C' => Ab.2 ⟨vx, h1, Ab.2 ⟨b, h2, rfl⟩⟩⟩
 | field1 off x =>
  obtain ⟨vx, h1, h⟩ := Ab.1 h
  obtain ⟨b, h2, h⟩ := Ab.1 h
  obtain ⟨v, h3, hk⟩ := Ab.1 h
  exact ⟨_, hk, fun C' => Ab.2 ⟨vx, h1, Ab.2 ⟨b, h2, Ab.2 ⟨v, h3, rfl⟩⟩⟩⟩
 | len x =>
  obtain ⟨vx, h1, h⟩ := Ab.1 h
  obtain ⟨b, h2, hk⟩ := Ab.1 h
  exact ⟨_, hk, fun C' => Ab.2 ⟨vx, h1, Ab.2 ⟨b, h2, rfl⟩⟩⟩
 | lenT x =>
  obtain ⟨vx, h1, h⟩ := Ab.1 h
  cases vx with
  | string a => exact ⟨_, h, fun C' => Ab.2 ⟨_, h1, rfl⟩⟩
  | _ => exact h.elim
 | loadA sz x =>
  obtain ⟨vx, h1, h⟩ := Ab.1 h
  obtain ⟨b, h2, cs, h3, hk⟩ := Ab.1 h
  exact ⟨_, hk, fun C' => Ab.2 ⟨vx, h1, Ab.2 ⟨b, h2, cs, rdm h3, rfl⟩⟩⟩
 | loadI k x =>
  obtain ⟨vx, h1, h⟩ := Ab.1 h
  obtain ⟨b, h2, cs, h3, hk⟩ := Ab.1 h
  exact ⟨_, hk, fun C' => Ab.2 ⟨vx, h1, Ab.2 ⟨b, h2, cs, rdm h3, rfl⟩⟩⟩
 | loadB x =>
  obtain ⟨vx, h1, h⟩ := Ab.1 h
  obtain ⟨b, h2, cs, h3, hk⟩ := Ab.1 h
  exact ⟨_, hk, fun C' => Ab.2 ⟨vx, h1, Ab.2 ⟨b, h2, cs, rdm h3, rfl⟩⟩⟩
 | loadS x =>
  obtain ⟨vx, h1, h⟩ := Ab.1 h
  obtain ⟨b, h2, s, n, c, h3, hk⟩ := Ab.1 h
  exact ⟨_, hk, fun C' => Ab.2 ⟨vx, h1, Ab.2 ⟨b, h2, s, n, c, rdm h3, rfl⟩⟩⟩
 | loadX x =>
  obtain ⟨vx, h1, h⟩ := Ab.1 h
  obtain ⟨b, h2, cs, h3, hk⟩ := Ab.1 h
  exact ⟨_, hk, fun C' => Ab.2 ⟨vx, h1, Ab.2 ⟨b, h2, cs, rdm h3, rfl⟩⟩⟩
 | build zero parts =>
  obtain ⟨ps, h1, h⟩ := Ab.1 h
  obtain ⟨cs, h2, hk⟩ := Ab.1 h
  exact ⟨_, hk, fun C' => Ab.2 ⟨ps, h1, Ab.2 ⟨cs, h2, rfl⟩⟩⟩
 | mkfn f first caps =>
  obtain ⟨ps, h1, h⟩ := Ab.1 h
  obtain ⟨cs, h2, hk⟩ := Ab.1 h
  exact ⟨_, hk, fun C' => Ab.2 ⟨ps, h1, Ab.2 ⟨cs, h2, rfl⟩⟩⟩
 | slS sz x lo hi mx =>
  obtain ⟨vx, h1, h⟩ := Ab.1 h
  obtain ⟨v2, h2, h⟩ := Ab.1 h
  obtain ⟨v3, h3, h⟩ := Ab.1 h
  obtain ⟨v4, h4, h⟩ := Ab.1 h
  obtain ⟨s, h5, l, hh, m, a1, a2, a3, a4, a5, a6, a7, hk⟩ := Ab.1 h
  exact ⟨_, hk, fun C' => Ab.2 ⟨vx, h1, Ab.2 ⟨v2, h2, Ab.2 ⟨v3, h3, Ab.2 ⟨v4, h4, Ab.2 ⟨s, h5, l, hh, m, a1, a2, a3, a4, a5, a6, a7, rfl⟩⟩⟩⟩⟩⟩
 | slA n sz x lo hi =>
  obtain ⟨vx, h1, h⟩ := Ab.1 h
  obtain ⟨v2, h2, h⟩ := Ab.1 h
  obtain ⟨v3, h3, h⟩ := Ab.1 h
  obtain ⟨s, h5, l, hh, a1, a2, a3, a4, hk⟩ := Ab.1 h
  exact ⟨_, hk, fun C' => Ab.2 ⟨vx, h1, Ab.2 ⟨v2, h2, Ab.2 ⟨v3, h3, Ab.2 ⟨s, h5, l, hh, a1, a2, a3, a4, rfl⟩⟩⟩⟩⟩
 | maxi x y =>
  obtain ⟨vx, h1, h⟩ := Ab.1 h
  obtain ⟨vy, h2, h⟩ := Ab.1 h
  cases vx with
  | int k a => cases vy with
   | int k' b => exact ⟨_, h, fun C' => Ab.2 ⟨_, h1, Ab.2 ⟨_, h2, rfl⟩⟩⟩
   | _ => exact h.elim
  | _ => exact h.elim
 | mini x y =>
  obtain ⟨vx, h1, h⟩ := Ab.1 h
  obtain ⟨vy, h2, h⟩ := Ab.1 h
  cases vx with
  | int k a => cases vy with
   | int k' b => exact ⟨_, h, fun C' => Ab.2 ⟨_, h1, Ab.2 ⟨_, h2, rfl⟩⟩⟩
   | _ => exact h.elim
  | _ => exact h.elim
 | eqS neg x =>
  obtain ⟨vx, h1, h⟩ := Ab.1 h
  obtain ⟨s, h2, hk⟩ := Ab.1 h
  exact ⟨_, hk, fun C' => Ab.2 ⟨vx, h1, Ab.2 ⟨s, h2, rfl⟩⟩⟩
 | eqA neg ks x y =>
  obtain ⟨vx, h1, h⟩ := Ab.1 h
  obtain ⟨vy, h2, h⟩ := Ab.1 h
  obtain ⟨xs, h3, h⟩ := Ab.1 h
  obtain ⟨ys, h4, h⟩ := Ab.1 h
  obtain ⟨r, h5, hk⟩ := Ab.1 h
  exact ⟨_, hk, fun C' => Ab.2 ⟨vx, h1, Ab.2 ⟨vy, h2, Ab.2 ⟨xs, h3, Ab.2 ⟨ys, h4, Ab.2 ⟨r, h5, rfl⟩⟩⟩⟩⟩⟩
 | idx1 n x i =>
  obtain ⟨vx, h1, h⟩ := Ab.1 h
  obtain ⟨vi, h2, h⟩ := Ab.1 h
  obtain ⟨l, h3, h⟩ := Ab.1 h
  obtain ⟨j, h4, h5, h6, h⟩ := Ab.1 h
  obtain ⟨v, h7, hk⟩ := Ab.1 h
  exact ⟨_, hk, fun C' => Ab.2 ⟨vx, h1, Ab.2 ⟨vi, h2, Ab.2 ⟨l, h3, Ab.2 ⟨j, h4, h5, h6, Ab.2 ⟨v, h7, rfl⟩⟩⟩⟩⟩⟩
 | idxA n sz x i =>
  obtain ⟨vx, h1, h⟩ := Ab.1 h
  obtain ⟨vi, h2, h⟩ := Ab.1 h
  obtain ⟨l, h3, h⟩ := Ab.1 h
  obtain ⟨j, h4, h5, h6, hk⟩ := Ab.1 h
  exact ⟨_, hk, fun C' => Ab.2 ⟨vx, h1, Ab.2 ⟨vi, h2, Ab.2 ⟨l, h3, Ab.2 ⟨j, h4, h5, h6, rfl⟩⟩⟩⟩⟩
 | cap x =>
  obtain ⟨vx, h1, h⟩ := Ab.1 h
  obtain ⟨s, h2, hk⟩ := Ab.1 h
  exact ⟨_, hk, fun C' => Ab.2 ⟨vx, h1, Ab.2 ⟨s, h2, rfl⟩⟩⟩
 | store _ _ _ | box _ _ | alloc _ _ | buildSl _ _ _ _ | append _ _ _ _ _ _ | makeSl _ _ _ _ _ _ | call _ _ | callv _ _ | raw _ | copyO _ _ _ | clearS _ _ | appendZ _ _ _ _ _ _ | ext _ _ | bad => cases hf
def Ug (Q : List Nat) : ROp → Bool
 | .call f _ => Q.contains f
 | .raw _ => true
 | r => flat r
theorem JY {w w' : World} {M0 M : Aa} {G : Own} (h : St w [] M0 M G w') : Ext w w' :=
 ⟨h.os, h.tape, h.output, h.size, fun k hk => h.frame k hk (by simp)⟩
theorem Bj4 {C : Cx P} {ops : Array Oper} {o : Oper} {r : ROp} {Q : List Nat} {ρ : Env} {av : Act} {M : Aa} {G : Own} {K : Value → Prop} (hc : Cmp P o r) (hq : Ug Q r = true) (mN : ∀ cs b, o.op ≠ .select cs b) (hf : Fc C.nt ρ av) (h : qW C ρ M G K r) :
  ∃ v, K v ∧ ∀ (a : Act) (w : World), (∀ t ∈ o.looksAt ops, a.tmps[t]? = av.tmps[t]?) → C.St M G w → Ip P o a.eval w fun u w' => u = v ∧ Ext w w' := by
 have entry : ∀ w, C.St M G w → St w [] (M.add G) (M.add G) [] w := fun w hs => St.enter (G := []) (fun b o hb => hs.agreeAdd hb) (fun p hp => by cases hp) (fun p hp => by cases hp) (by simp)
 have go : ∀ v, (∀ C' : Cx P, opW C' ρ (M.add G) [] (fun u _ _ => u = v) r) → ∀ (a : Act) (w : World), (∀ t ∈ o.looksAt ops, a.tmps[t]? = av.tmps[t]?) → C.St M G w → Ip P o a.eval w fun u w' => u = v ∧ Ext w w' := by
  intro v h' a w hl hs
  have := Oi (C := { C with w0 := w, F := [], M0 := M.add G }) hc hf (entry w hs) (h' _)
  unfold Ip
  rw [Jg mN hl]
  refine Ip.mono this ?_
  rintro u w' ⟨M', G', ah, hk⟩
  exact ⟨hk, JY ah⟩
 have main : flat r = true → opW C ρ M G (fun v _ _ => K v) r → ∃ v, K v ∧ ∀ (a : Act) (w : World), (∀ t ∈ o.looksAt ops, a.tmps[t]? = av.tmps[t]?) → C.St M G w → Ip P o a.eval w fun u w' => u = v ∧ Ext w w' := by
  intro aj h
  obtain ⟨v, hk, h'⟩ := Ao1 aj h
  exact ⟨v, hk, go v h'⟩
 cases r with
 | call f args =>
  obtain ⟨vs, c6, v, mO, hk⟩ := Ab.1 h
  refine ⟨v, hk, go v fun C' => Ab.2 ⟨vs, c6, ?_⟩⟩
  refine Aq.call (K := fun u _ _ => u = v) (v := v) ?_ rfl
  refine ⟨mO.1, fun w hs => ?_⟩
  have ah : St w [] (M.add G) (M.add G) [] w := St.enter (G := []) (fun b o hb => hs.agree b o (.inl hb)) (fun p hp => by cases hp) (fun p hp => by cases hp) (by simp)
  intro cs
  obtain ⟨e, w', fr, ⟨u, he, M', G', h1, h2⟩, rr⟩ := mO.2 w ah cs
  refine ⟨e, w', fr, ⟨u, he, (M.add G).add [], [], ?_, h2⟩, rr⟩
  have hx := JY h1
  refine ⟨hx.os, hx.tape, hx.output, hx.size, fun b hb _ => hx.block b hb, fun b o hb => ?_, fun p hp => (by cases hp), fun p hp => (by cases hp), fun p hp => (by cases hp), (by simp), Aa.le_refl _, fun b o hb => .inl hb⟩
  rw [hx.block b (hs.ltM hb)]; exact hs.agree b o hb
 | raw o' =>
  obtain ⟨v, cw, hk⟩ := h
  cases hc
  refine ⟨v, hk, fun a w hl hs => .inl ⟨v, w, ?_, rfl, Ext.refl w⟩⟩
  rw [Jg mN hl]
  exact cw av hf w hs
 | store _ _ _ | box _ _ | alloc _ _ | buildSl _ _ _ _ | append _ _ _ _ _ _ | makeSl _ _ _ _ _ _ | callv _ _ | copyO _ _ _ | clearS _ _ | appendZ _ _ _ _ _ _ | ext _ _ | bad => cases hq
 | _ => exact main rfl h
variable {P : Program}
inductive QL where
 | nil
 | op (i : Nat) (d : Option Nat) (r : ROp) (rest : QL)
 | g (s : Nat) (want : Bool) (body : QL) (m d : Nat) (last : A) (rest : QL)
inductive AT where
 | fin
 | no
 | q (l : QL) (rest : AT)
 | s (i : Nat) (d : Option Nat) (r : ROp) (re : Bool) (t more : AT)
 | br (s : Nat) (yes nay : AT)
 | sk (i : Nat) (d : Option Nat) (rest : AT)
def So (c want : Bool) (A : (Bool → Prop) → Prop) (K : Bool → Prop) : Prop := ∃ e, (c = want → A fun u => u = e) ∧ K (if want then c && e else c || e)
def Js (C : Cx P) : QL → Env → Aa → Own → (Env → Prop) → Prop
 | .nil, ρ, _, _, K => K ρ
 | .op _ d r rest, ρ, M, G, K => qW C ρ M G (fun v => Js C rest (putE d v ρ) M G K) r
 | .g s want body _ d last rest, ρ, M, G, K => onv (get ρ s) fun v => onv (Jr v) fun c =>
   So c want (fun K' => Js C body ρ M G fun ρ' => onv (ev ρ' last) fun u => onv (Jr u) fun e => K' e) fun e => Js C rest ((d, .bool e) :: ρ) M G K
def wpA (C : Cx P) : AT → Env → Aa → Own → Aa → Own → (Env → Aa → Own → Prop) → Prop
 | .fin, ρ, _, _, M, G, K => K ρ M G
 | .no, _, _, _, _, _, _ => True
 | .q l rest, ρ, Mk, Gk, M, G, K => Js C l ρ Mk Gk fun ρ' => wpA C rest ρ' Mk Gk M G K
 | .s _ d r re t more, ρ, Mk, Gk, M, G, K =>
  opW C ρ M G (fun v M' G' => if re = true then wpA C t (putE d v ρ) M' G' M' G' K else M.le M' ∧ (∀ p ∈ Gk, p ∈ G') ∧ wpA C t (putE d v ρ) Mk Gk M' G' K) r ∧ wpA C more ρ Mk Gk M G K
 | .br s yes nay, ρ, Mk, Gk, M, G, K => onv (get ρ s) fun v => onv (Jr v) fun c => (c = true → wpA C yes ρ Mk Gk M G K) ∧ (c = false → wpA C nay ρ Mk Gk M G K)
 | .sk _ _ rest, ρ, Mk, Gk, M, G, K => wpA C rest ρ Mk Gk M G K
abbrev bit (D i : Nat) : Bool := Nat.testBit D i
abbrev bset (D i : Nat) : Nat := D ||| (1 <<< i)
theorem A3 (D i : Nat) : bit (bset D i) = Kl (bit D) i := by
 funext j
 simp only [bit, bset, Kl, lD2, Nat.one_shiftLeft, lCj]
 by_cases h : j = i
 ·subst h; simp
 ·simp [h, Ne.symm h]
inductive CmpQL (P : Program) (ops : Array Oper) (nt : Nat) (Q : List Nat) : Option (Nat × Bool) → Nat → Nat → QL → Nat → Prop
 | nil {g : Option (Nat × Bool)} {D0 D : Nat} : CmpQL P ops nt Q g D0 D .nil D
 | op {g : Option (Nat × Bool)} {D0 D D' i : Nat} {o : Oper} {r : ROp} {rest : QL} (ho : ops[i]? = some o) (hg : o.guard = g) (hD : bit D i = false) (hdep : ∀ p, dep ops p i → bit D p = true)
   (hc : Cmp P o r) (hq : Ug Q r = true) (h : CmpQL P ops nt Q g D0 (bset D i) rest D') : CmpQL P ops nt Q g D0 D (.op i o.dst r rest) D'
 | g {g : Option (Nat × Bool)} {D0 D D1 D' m gi s d : Nat} {want : Bool} {og o : Oper} {body rest : QL} {x : Operand} {last : A} (hgo : ops[gi]? = some og) (hgs : og.dst = some s) (hgi : bit D gi = true)
   (hin : g.isSome = true → og.guard = g ∧ bit D0 gi = false) (hb : CmpQL P ops nt Q (some (gi, want)) D D body D1) (ho : ops[m]? = some o) (hg : o.guard = g) (hD : bit D1 m = false) (hdep : ∀ p, dep ops p m → bit D1 p = true)
   (hop : o.op = if want then .pick (.tmp s) x (.const (.bool false)) else .pick (.tmp s) (.const (.bool true)) x) (hx : cA x = some last) (hd : o.dst = some d)
   (h : CmpQL P ops nt Q g D0 (bset D1 m) rest D') : CmpQL P ops nt Q g D0 D (.g s want body m d last rest) D'
abbrev Gam := List (Nat × Option Bool)
def Dj1 : Option Bool → Value
 | none => undef
 | some b => .bool b
inductive CmpA (P : Program) (ops : Array Oper) (nt : Nat) (Q : List Nat) : Gam → Option Nat → Nat → AT → Prop
 | fin {Γ : Gam} {D : Nat} (hall : ∀ i, i < ops.size → bit D i = true) : CmpA P ops nt Q Γ none D .fin
 | q {Γ : Gam} {g : Option (Nat × Bool)} {D D1 : Nat} {l : QL} {rest : AT} (hg : ∀ p, g = some p → (p.1, some p.2) ∈ Γ) (hq : CmpQL P ops nt Q g D D l D1) (h : CmpA P ops nt Q Γ none D1 rest) : CmpA P ops nt Q Γ none D (.q l rest)
 | alts {Γ : Gam} {D : Nat} {t : AT} (hne : ∃ i, i < ops.size ∧ bit D i = false) (h : CmpA P ops nt Q Γ (some 0) D t) : CmpA P ops nt Q Γ none D t
 | no {Γ : Gam} {i D : Nat} (h : ops.size ≤ i) : CmpA P ops nt Q Γ (some i) D .no
 | pass {Γ : Gam} {i D : Nat} {t : AT} (h : bit D i = true ∨ ∃ p, dep ops p i ∧ bit D p = false) (hr : CmpA P ops nt Q Γ (some (i + 1)) D t) : CmpA P ops nt Q Γ (some i) D t
 | s {Γ : Gam} {i D : Nat} {o : Oper} {r : ROp} {re : Bool} {t more : AT} (ho : ops[i]? = some o) (hg : ∀ p, o.guard = some p → (p.1, some p.2) ∈ Γ) (hD : bit D i = false) (hc : Cmp P o r) (hre : re = true → ∀ j, bit D j = true → Bef ops j i)
   (ht : CmpA P ops nt Q Γ none (bset D i) t) (hm : CmpA P ops nt Q Γ (some (i + 1)) D more) : CmpA P ops nt Q Γ (some i) D (.s i o.dst r re t more)
 | br {Γ : Gam} {D gi s : Nat} {og : Oper} {yes nay : AT} (hgo : ops[gi]? = some og) (hgs : og.dst = some s) (hgD : bit D gi = true)
   (hy : CmpA P ops nt Q ((gi, some true) :: Γ) none D yes) (hn : CmpA P ops nt Q ((gi, some false) :: Γ) none D nay) : CmpA P ops nt Q Γ none D (.br s yes nay)
 | sk {Γ Γ' : Gam} {D i gi : Nat} {want : Bool} {x : Option Bool} {o : Oper} {rest : AT} (ho : ops[i]? = some o) (hg : o.guard = some (gi, want)) (hx : (gi, x) ∈ Γ) (hne : x ≠ some want) (hD : bit D i = false)
   (hdep : ∀ p, dep ops p i → bit D p = true) (hΓ : ∀ y ∈ Γ', y ∈ Γ ∨ y = (i, none) ∧ ∃ s, o.dst = some s) (h : CmpA P ops nt Q Γ' none (bset D i) rest) : CmpA P ops nt Q Γ none D (.sk i o.dst rest)
def QL.len : QL → Nat
 | .nil => 0
 | .op _ _ _ rest => rest.len + 1
 | .g _ _ body _ _ _ rest => body.len + 1 + rest.len
def AT.sz : AT → Nat
 | .fin => 0
 | .no => 0
 | .q l rest => l.len + rest.sz
 | .s _ _ _ _ t more => t.sz + 1 + more.sz
 | .br _ yes nay => yes.sz + nay.sz
 | .sk _ _ rest => rest.sz + 1
def Dz (ops : Array Oper) (D : Nat) : Prop := ∀ i j, bit D j = true → Bef ops i j → bit D i = true
theorem Bef.last {ops : Array Oper} {i j : Nat} (h : Bef ops i j) : ∃ k, dep ops k j ∧ (k = i ∨ Bef ops i k) := by
 cases h with
 | one h => exact ⟨i, h, .inl rfl⟩
 | @step k _ h hd => exact ⟨_, hd, .inr h⟩
theorem Dz.pre {ops : Array Oper} {D i : Nat} (h : Dz ops D) (hd : ∀ p, dep ops p i → bit D p = true) : ∀ p, Bef ops p i → bit D p = true := by
 intro p hb
 obtain ⟨k, hk, e | hb⟩ := hb.last
 ·subst e; exact hd k hk
 ·exact h p k (hd k hk) hb
theorem Dz.bset {ops : Array Oper} {D i : Nat} (h : Dz ops D) (hd : ∀ p, dep ops p i → bit D p = true) : Dz ops (bset D i) := by
 intro x j hj hb
 rw [A3] at hj ⊢
 rcases Fd hj with rfl | hj
 ·exact Br (h.pre hd x hb)
 ·exact Br (h x j hj hb)
def Ar4 (V : List Nat) (ops : Array Oper) (D : Nat) (ρ : Env) : Prop := ∀ t v, get ρ t = some v → t ∈ V ∨ ∃ u o, bit D u = true ∧ ops[u]? = some o ∧ o.dst = some t
theorem CmpQL.sub {ops : Array Oper} {nt : Nat} {Q : List Nat} {g : Option (Nat × Bool)} {D0 D D' : Nat} {l : QL} (h : CmpQL P ops nt Q g D0 D l D') : ∀ j, bit D j = true → bit D' j = true := by
 induction h with
 | nil => exact fun j h => h
 | op _ _ _ _ _ _ _ ih => intro j hj; exact ih j (by rw [A3]; exact Br hj)
 | g _ _ _ _ _ _ _ _ _ _ _ _ _ ih1 ih2 => intro j hj; exact ih2 j (by rw [A3]; exact Br (ih1 j hj))
theorem CmpQL.guarded {ops : Array Oper} {nt : Nat} {Q : List Nat} {g : Option (Nat × Bool)} {D0 D D' : Nat} {l : QL} (h : CmpQL P ops nt Q g D0 D l D') : g ≠ none → ∀ t o, bit D' t = true → bit D t = false → ops[t]? = some o → o.guard ≠ none := by
 induction h with
 | nil => intro _ t o h1 h2; rw [h1] at h2; cases h2
 | @op g D0 D D' i o r rest ho hg _ _ _ _ _ ih =>
  intro hn t o' h1 h2 a8
  by_cases e : t = i
  ·subst e; rw [ho] at a8; cases a8; rw [hg]; exact hn
  ·exact ih hn t o' h1 (by rw [A3]; simp [Kl, e, h2]) a8
 | @g g D0 D D1 D' m gi s d want og o body rest x last _ _ _ _ hb ho hg gz _ _ _ _ h ih1 ih2 =>
  intro hn t o' h1 h2 a8
  by_cases e : t = m
  ·subst e; rw [ho] at a8; cases a8; rw [hg]; exact hn
  ·cases h3 : bit D1 t with
   | true => exact ih1 (by simp) t o' h3 h2 a8
   | false => exact ih2 hn t o' h1 (by rw [A3]; simp [Kl, e, h3]) a8
theorem Dz.ql {ops : Array Oper} {nt : Nat} {Q : List Nat} {g : Option (Nat × Bool)} {D0 D D' : Nat} {l : QL} (h : CmpQL P ops nt Q g D0 D l D') : Dz ops D → Dz ops D' := by
 induction h with
 | nil => exact id
 | op _ _ _ hdep _ _ _ ih => intro hc; exact ih (hc.bset hdep)
 | g _ _ _ _ _ _ _ _ hdep _ _ _ _ ih1 ih2 => intro hc; exact ih2 ((ih1 hc).bset hdep)
section
variable {C : Cx P} {ops : Array Oper} {Q : List Nat} {Mk : Aa} {Gk : Own} {M : Aa} {G : Own} {KA : Act → Aa → Own → Prop}
theorem Kw {n i D : Nat} {o : Oper} {v : Value} {av : Act} (ho : ops[i]? = some o) (hD : bit D i = false) (hdep : ∀ p, dep ops p i → bit D p = true) (aS : Dz ops D) (hq : An8 C Mk Gk ops o av v)
  (h : VT C ops KA n (bit (bset D i)) Mk Gk (av.put o.dst v) M G) : VT C ops KA (n + 1) (bit D) Mk Gk av M G :=
 .inr (.inl ⟨i, o, v, ho, hD, aS.pre hdep, hq, by rw [A3] at h; exact h⟩)
theorem Dm0 (hp : Plan ops C.nt) {g : Option (Nat × Bool)} {D0 D D' : Nat} {l : QL} (h : CmpQL P ops C.nt Q g D0 D l D') :
  ∀ {n : Nat} {av : Act} {gi : Nat} {want : Bool} {og : Oper} {s : Nat} {v : Value} (_ : g = some (gi, want)) (_ : ops[gi]? = some og) (_ : og.dst = some s) (_ : bit D gi = true) (_ : av.tmps[s]? = some v) (_ : v ≠ .bool want) (_ : av.tmps.size = C.nt) (_ : Dz ops D)
   (_ : ∀ t o d, bit D t = true → bit D0 t = false → ops[t]? = some o → o.dst = some d → av.tmps[d]? = some undef)
   (_ : ∀ av' : Act, av'.tmps.size = C.nt → av'.defers = av.defers → (∀ e, (∀ t o, bit D' t = true → bit D t = false → ops[t]? = some o → o.dst ≠ some e) → av'.tmps[e]? = av.tmps[e]?) →
    (∀ t o d, bit D' t = true → bit D0 t = false → ops[t]? = some o → o.dst = some d → av'.tmps[d]? = some undef) → VT C ops KA n (bit D') Mk Gk av' M G),
   VT C ops KA (n + l.len) (bit D) Mk Gk av M G := by
 induction h with
 | nil =>
  intro n av gi want og s v hg hgo hgs hgD fJ hv aO aS ci hT
  exact hT av aO rfl (fun e _ => rfl) ci
 | @op g D0 D D' i o r rest ho dU hD hdep hc hq h ih =>
  intro n av gi want og s v hg hgo hgs hgD fJ hv aO aS ci hT
  have jB : ∀ a : Act, (∀ t ∈ o.looksAt ops, a.tmps[t]? = av.tmps[t]?) → Region.wanted o (yielded ops a.tmps) = false := by
   intro a ha
   rw [Dp ha]
   exact Hk (dU.trans hg) hgo hgs fJ hv
  have hne : i ≠ gi := by rintro rfl; rw [hD] at hgD; cases hgD
  have fQ : ∀ t o' e, ops[t]? = some o' → o'.dst = some e → t ≠ i → (av.put o.dst undef).tmps[e]? = av.tmps[e]? := by
   intro t o' e a8 bm hn
   exact Cc fun cG => hn (hp.one t i o' o e a8 ho bm cG)
  have cL : ∀ e, o.dst = some e → (av.put o.dst undef).tmps[e]? = some undef := by
   intro e he
   rw [he]; exact H4 (by rw [aO]; exact hp.dst i o e ho he)
  show VT C ops KA (n + (rest.len + 1)) (bit D) Mk Gk av M G
  rw [← lDa]
  refine Kw ho hD hdep aS (v := undef) (fun a w ha _ => ⟨fun hw => (by rw [jB a ha] at hw; cases hw), fun _ => rfl⟩) ?_
  refine ih hg hgo hgs (by rw [A3]; exact Br hgD) (by rw [fQ gi og s hgo hgs hne.symm]; exact fJ) hv (by rw [H3]; exact aO) (aS.bset hdep) ?_ ?_
  ·intro t o' d ht h0 a8 gM
   rw [A3] at ht
   by_cases e : t = i
   ·subst e; rw [ho] at a8; cases a8; exact cL d gM
   ·rw [fQ t o' d a8 gM e]
    exact ci t o' d ((Fd ht).resolve_left e) h0 a8 gM
  ·intro av' z1 z2 z3 z4
   refine hT av' z1 (z2.trans (B6 _ _ _)) ?_ z4
   intro e he
   rw [z3 e (fun t o' q1 q2 q3 => he t o' q1 (by rw [A3] at q2; exact (En q2).2) q3)]
   exact Cc fun cG => he i o (h.sub i (by rw [A3]; exact Dy)) hD ho cG
 | @g g D0 D D1 D' m gj s' d want' og' o body rest x last dV gw gP hin hb ho dU gz hdep hop hx cq h ih1 ih2 =>
  intro n av gi want og s v hg hgo hgs hgD fJ hv aO aS ci hT
  obtain ⟨mL, mM⟩ := hin (by simp [hg])
  have kO : av.tmps[s']? = some undef := ci gj og' s' gP mM dV gw
  have hP : Dz ops D1 := Dz.ql hb aS
  show VT C ops KA (n + (body.len + 1 + rest.len)) (bit D) Mk Gk av M G
  rw [show n + (body.len + 1 + rest.len) = (n + rest.len + 1) + body.len from by omega]
  refine ih1 rfl dV gw gP kO (by simp [undef]) aO aS ?_ ?_
  ·intro t o' e h1 h2; rw [h1] at h2; cases h2
  intro av1 z1 z2 z3 z4
  have keep : ∀ t o' e, ops[t]? = some o' → o'.dst = some e → ¬ (bit D1 t = true ∧ bit D t = false) → av1.tmps[e]? = av.tmps[e]? := by
   intro t o' e a8 bm hn
   refine z3 e fun t' o'' h1 h2 h3 h4 => hn ?_
   have := hp.one t' t o'' o' e h3 a8 h4 bm
   subst this
   exact ⟨h1, h2⟩
  have bz : av1.tmps[s]? = some v := by rw [keep gi og s hgo hgs (by rw [hgD]; simp)]; exact fJ
  have jB : ∀ a : Act, (∀ t ∈ o.looksAt ops, a.tmps[t]? = av1.tmps[t]?) → Region.wanted o (yielded ops a.tmps) = false := by
   intro a ha
   rw [Dp ha]
   exact Hk (dU.trans hg) hgo hgs bz hv
  have tg : gi ≠ m := by rintro rfl; rw [hb.sub _ hgD] at gz; cases gz
  have fQ : ∀ t o' e, ops[t]? = some o' → o'.dst = some e → t ≠ m → (av1.put o.dst undef).tmps[e]? = av1.tmps[e]? := by
   intro t o' e a8 bm hn
   exact Cc fun cG => hn (hp.one t m o' o e a8 ho bm cG)
  have cL : ∀ e, o.dst = some e → (av1.put o.dst undef).tmps[e]? = some undef := by
   intro e he
   rw [he]; exact H4 (by rw [z1]; exact hp.dst m o e ho he)
  refine Kw ho gz hdep hP (v := undef) (fun a w ha _ => ⟨fun hw => (by rw [jB a ha] at hw; cases hw), fun _ => rfl⟩) ?_
  refine ih2 hg hgo hgs (by rw [A3]; exact Br (hb.sub _ hgD)) (by rw [fQ gi og s hgo hgs tg]; exact bz) hv (by rw [H3]; exact z1) (hP.bset hdep) ?_ ?_
  ·intro t o' e ht h0 a8 gM
   rw [A3] at ht
   by_cases em : t = m
   ·subst em; rw [ho] at a8; cases a8; exact cL e gM
   ·rw [fQ t o' e a8 gM em]
    have gL := (Fd ht).resolve_left em
    cases gQ : bit D t with
    | true => rw [keep t o' e a8 gM (by rw [gQ]; simp)]; exact ci t o' e gQ h0 a8 gM
    | false => exact z4 t o' e gL gQ a8 gM
  ·intro av' y1 y2 y3 y4
   refine hT av' y1 (y2.trans ((B6 _ _ _).trans z2)) ?_ y4
   intro e he
   rw [y3 e (fun t o' q1 q2 q3 => he t o' q1 (by
    rw [A3] at q2
    have := (En q2).2
    cases gQ : bit D t with
    | false => rfl
    | true => rw [hb.sub t gQ] at this; cases this) q3)]
   rw [Cc fun cG => he m o (h.sub m (by rw [A3]; exact Dy)) (by
    cases gQ : bit D m with
    | false => rfl
    | true => rw [hb.sub m gQ] at gz; cases gz) ho cG]
   refine z3 e fun t o' q1 q2 q3 => he t o' (h.sub t (by rw [A3]; exact Br q1)) q2 q3
theorem Ar4.put {V : List Nat} {D i : Nat} {o : Oper} {ρ : Env} (h : Ar4 V ops D ρ) (ho : ops[i]? = some o) (v : Value) : Ar4 V ops (bset D i) (putE o.dst v ρ) := by
 have hm : ∀ t v, get ρ t = some v → t ∈ V ∨ ∃ u o, bit (bset D i) u = true ∧ ops[u]? = some o ∧ o.dst = some t := fun t v ht =>
  (h t v ht).imp id fun ⟨u, o', h1, h2, h3⟩ => ⟨u, o', by rw [A3]; exact Br h1, h2, h3⟩
 cases hd : o.dst with
 | none => exact hm
 | some d =>
  intro t u ht
  simp only [putE, get] at ht
  split at ht
  ·rename_i e; subst e; exact .inr ⟨i, o, by rw [A3]; exact Dy, ho, hd⟩
  ·exact hm t u ht
theorem Wq (hp : Plan ops C.nt) {V : List Nat} (hV : ∀ (t : Nat) (o : Oper) (d : Nat), ops[t]? = some o → o.dst = some d → o.guard ≠ none → d ∉ V) {g : Option (Nat × Bool)} {D0 D D' : Nat} {l : QL} (h : CmpQL P ops C.nt Q g D0 D l D') :
  ∀ {n : Nat} {av : Act} {ρ : Env} {K : Env → Prop} (_ : GOK ops g av) (_ : ∀ p, g = some p → bit D p.1 = true) (_ : Dz ops D) (_ : Ar4 V ops D ρ) (_ : Fc C.nt ρ av) (_ : Js C l ρ Mk Gk K)
   (_ : ∀ (av' : Act) (ρ' : Env), Ar4 V ops D' ρ' → Fc C.nt ρ' av' → av'.defers = av.defers → (∀ e, (∀ t o, bit D' t = true → bit D t = false → ops[t]? = some o → o.dst ≠ some e) → av'.tmps[e]? = av.tmps[e]?) → K ρ' → VT C ops KA n (bit D') Mk Gk av' M G),
   VT C ops KA (n + l.len) (bit D) Mk Gk av M G := by
 induction h with
 | nil =>
  intro n av ρ K hg hgD aS al hf hw hT
  exact hT av ρ al hf rfl (fun e _ => rfl) hw
 | @op g D0 D D' i o r rest ho dU hD hdep hc hq h ih =>
  intro n av ρ K hg hgD aS al hf hw hT
  obtain ⟨v, hk, cq⟩ := Bj4 (ops := ops) hc hq (hp.sel i o ho).1 hf hw
  have cx : ∀ a : Act, (∀ t ∈ o.looksAt ops, a.tmps[t]? = av.tmps[t]?) → Region.wanted o (yielded ops a.tmps) = true := fun a ha => by
   rw [Dp ha]; exact wanted_ok dU hg
  show VT C ops KA (n + (rest.len + 1)) (bit D) Mk Gk av M G
  rw [← lDa]
  refine Kw ho hD hdep aS (v := v) (fun a w ha hs => ⟨fun _ => cq a w ha hs, fun hw => (by rw [cx a ha] at hw; cases hw)⟩) ?_
  refine ih ?_ (fun p e => by rw [A3]; exact Br (hgD p e)) (aS.bset hdep) (al.put ho v) (hf.putE o.dst (fun e he => hp.dst i o e ho he) v) hk ?_
  ·intro gi want e
   obtain ⟨og, s, h1, h2, h3⟩ := hg gi want e
   refine ⟨og, s, h1, h2, ?_⟩
   rw [Cc ?_]
   ·exact h3
   ·intro cG
    have := hp.one i gi o og s ho h1 cG h2
    subst this
    have := hgD _ e
    simp only at this
    rw [hD] at this; cases this
  ·intro av' ρ' z1 z2 z3 z4 z5
   refine hT av' ρ' z1 z2 (z3.trans (B6 _ _ _)) ?_ z5
   intro e he
   rw [z4 e (fun t o' q1 q2 q3 => he t o' q1 (by rw [A3] at q2; exact (En q2).2) q3)]
   exact Cc fun cG => he i o (h.sub i (by rw [A3]; exact Dy)) hD ho cG
 | @g g D0 D D1 D' m gi s d want og o body rest x last hgo hgs gP hin hb ho dU gz hdep hop hx cq h ih1 ih2 =>
  intro n av ρ K hg hgD aS al hf hw hT
  obtain ⟨vs, c6, hw⟩ := Ab.1 hw
  obtain ⟨c, hc, e, bV, hk⟩ := Ab.1 hw
  have e0 := C3 hc
  subst e0
  have dW : av.tmps[s]? = some (.bool c) := hf.2 s _ c6
  have hP : Dz ops D1 := Dz.ql hb aS
  show VT C ops KA (n + (body.len + 1 + rest.len)) (bit D) Mk Gk av M G
  rw [show n + (body.len + 1 + rest.len) = (n + rest.len + 1) + body.len from by omega]
  have back : ∀ av1 : Act, av1.tmps.size = C.nt → (∀ e, (∀ t o, bit D1 t = true → bit D t = false → ops[t]? = some o → o.dst ≠ some e) → av1.tmps[e]? = av.tmps[e]?) → Fc C.nt ρ av1 ∧ GOK ops g av1 ∧ av1.tmps[s]? = some (.bool c) := by
   intro av1 aO bE
   have keep : ∀ t o' e, ops[t]? = some o' → o'.dst = some e → bit D t = true → av1.tmps[e]? = av.tmps[e]? := by
    intro t o' e a8 bm gQ
    refine bE e fun t' o'' h1 h2 h3 h4 => ?_
    have := hp.one t' t o'' o' e h3 a8 h4 bm
    subst this
    rw [gQ] at h2; cases h2
   refine ⟨⟨aO, fun t v ht => ?_⟩, ?_, ?_⟩
   ·rw [bE t ?_]
    ·exact hf.2 t v ht
    ·intro t' o' h1 h2 h3 h4
     rcases al t v ht with hv | ⟨u, ou, k1, k2, k3⟩
     ·exact hV t' o' t h3 h4 (hb.guarded (by simp) t' o' h1 h2 h3) hv
     ·have := hp.one t' u o' ou t h3 k2 h4 k3
      subst this
      rw [k1] at h2; cases h2
   ·intro gi' want' e'
    obtain ⟨og', s', h1, h2, h3⟩ := hg gi' want' e'
    exact ⟨og', s', h1, h2, by rw [keep gi' og' s' h1 h2 (hgD _ e')]; exact h3⟩
   ·rw [keep gi og s hgo hgs gP]; exact dW
  have pick : ∀ av1 : Act, Fc C.nt ρ av1 → GOK ops g av1 → av1.tmps[s]? = some (.bool c) → av1.defers = av.defers → (c = want → av1.eval x = .bool e) →
    (∀ e, (∀ t o, bit D1 t = true → bit D t = false → ops[t]? = some o → o.dst ≠ some e) → av1.tmps[e]? = av.tmps[e]?) → VT C ops KA (n + rest.len + 1) (bit D1) Mk Gk av1 M G := by
   intro av1 jC lk bz gO bK bE
   have cx : ∀ a : Act, (∀ t ∈ o.looksAt ops, a.tmps[t]? = av1.tmps[t]?) → Region.wanted o (yielded ops a.tmps) = true := fun a ha => by
    rw [Dp ha]; exact wanted_ok dU lk
   have eZ : ∀ w, (execOp av1.eval o).run P w = .ok (.value (.bool (if want then c && e else c || e))) w := by
    intro w
    have fL : av1.eval (.tmp s) = .bool c := by simp [Act.eval, lBz, bz]
    cases want <;> simp only [if_true, lC8, if_false] at hop ⊢ <;> simp only [execOp, hop, fL]
    ·cases c
     ·rw [bK rfl]; rfl
     ·rfl
    ·cases c
     ·rfl
     ·rw [bK rfl]; rfl
   refine Kw ho gz hdep hP (v := .bool (if want then c && e else c || e)) (fun a w ha hs => ⟨fun _ => .inl ⟨_, w, ?_, rfl, Ext.refl w⟩, fun hw => (by rw [cx a ha] at hw; cases hw)⟩) ?_
   ·rw [Jg (hp.sel m o ho).1 ha]; exact eZ w
   ·have gI : ∀ t o' e', ops[t]? = some o' → o'.dst = some e' → t ≠ m → (av1.put o.dst (.bool (if want then c && e else c || e))).tmps[e']? = av1.tmps[e']? := by
     intro t o' e' a8 bm hn
     exact Cc fun cG => hn (hp.one t m o' o e' a8 ho bm cG)
    refine ih2 (K := K) ?_ (fun p e => by rw [A3]; exact Br (hb.sub _ (hgD p e))) (hP.bset hdep) (ρ := (d, .bool (if want then c && e else c || e)) :: ρ) ?_ ?_ hk ?_
    ·intro gi' want' e'
     obtain ⟨og', s', h1, h2, h3⟩ := lk gi' want' e'
     refine ⟨og', s', h1, h2, ?_⟩
     rw [gI gi' og' s' h1 h2 ?_]
     ·exact h3
     ·rintro rfl
      have := hb.sub _ (hgD _ e')
      simp only at this
      rw [gz] at this; cases this
    ·have h1 : Ar4 V ops D1 ρ := fun t v ht => (al t v ht).imp id fun ⟨u, o', h1, h2, h3⟩ => ⟨u, o', hb.sub u h1, h2, h3⟩
     have := h1.put ho (.bool (if want then c && e else c || e))
     rw [cq] at this; exact this
    ·have := jC.putE o.dst (fun e he => hp.dst m o e ho he) (.bool (if want then c && e else c || e))
     rw [cq] at this ⊢; exact this
    ·intro av' ρ' z1 z2 z3 z4 z5
     refine hT av' ρ' z1 z2 (z3.trans ((B6 _ _ _).trans gO)) ?_ z5
     intro e' he
     rw [z4 e' (fun t o' q1 q2 q3 => he t o' q1 (by
      rw [A3] at q2
      have := (En q2).2
      cases gQ : bit D t with
      | false => rfl
      | true => rw [hb.sub t gQ] at this; cases this) q3)]
     rw [Cc fun cG => he m o (h.sub m (by rw [A3]; exact Dy)) (by
      cases gQ : bit D m with
      | false => rfl
      | true => rw [hb.sub m gQ] at gz; cases gz) ho cG]
     refine bE e' fun t o' q1 q2 q3 => he t o' (h.sub t (by rw [A3]; exact Br q1)) q2 q3
  by_cases eD : c = want
  ·have kQ : GOK ops (some (gi, want)) av := by
    intro gi' want' e'
    cases e'
    exact ⟨og, s, hgo, hgs, by rw [← eD]; exact dW⟩
   refine ih1 kQ (fun p e => by cases e; exact gP) aS al hf (bV eD) ?_
   intro av1 ρ1 y1 y2 y3 y4 y5
   obtain ⟨u, hu, y5⟩ := Ab.1 y5
   obtain ⟨e', he, y5⟩ := Ab.1 y5
   have e1 := C3 he
   subst e1
   subst y5
   obtain ⟨b1, b2, b3⟩ := back av1 y2.1 y4
   exact pick av1 b1 b2 b3 y3 (fun _ => Am y2 hx hu) y4
  ·refine Dm0 hp hb rfl hgo hgs gP dW (by simpa using eD) hf.1 aS (fun t o e h1 h2 => by rw [h1] at h2; cases h2) ?_
   intro av1 z1 z2 z3 _
   obtain ⟨b1, b2, b3⟩ := back av1 z1 z3
   exact pick av1 b1 b2 b3 z2 (fun h => absurd h eD) z3
def GAM (ops : Array Oper) (Γ : Gam) (D : Nat) (av : Act) : Prop := ∀ gi x, (gi, x) ∈ Γ → bit D gi = true ∧ ∃ og s, ops[gi]? = some og ∧ og.dst = some s ∧ av.tmps[s]? = some (Dj1 x)
theorem GAM.gok {Γ : Gam} {D : Nat} {av : Act} {g : Option (Nat × Bool)} (h : GAM ops Γ D av) (hg : ∀ p, g = some p → (p.1, some p.2) ∈ Γ) : GOK ops g av := by
 intro gi want e
 obtain ⟨_, og, s, h1, h2, h3⟩ := h gi (some want) (hg (gi, want) e)
 exact ⟨og, s, h1, h2, h3⟩
theorem GAM.keep (hp : Plan ops C.nt) {Γ : Gam} {D D1 : Nat} {av av' : Act} (h : GAM ops Γ D av) (hs : ∀ j, bit D j = true → bit D1 j = true)
  (hk : ∀ e, (∀ t o, bit D1 t = true → bit D t = false → ops[t]? = some o → o.dst ≠ some e) → av'.tmps[e]? = av.tmps[e]?) : GAM ops Γ D1 av' := by
 intro gi x hx
 obtain ⟨h0, og, s, h1, h2, h3⟩ := h gi x hx
 refine ⟨hs _ h0, og, s, h1, h2, ?_⟩
 rw [hk s ?_]
 ·exact h3
 ·intro t o q1 q2 q3 q4
  have := hp.one t gi o og s q3 h1 q4 h2
  subst this
  rw [h0] at q2; cases q2
theorem GAM.put (hp : Plan ops C.nt) {Γ : Gam} {D i : Nat} {o : Oper} {av : Act} {v : Value} (h : GAM ops Γ D av) (ho : ops[i]? = some o) (hD : bit D i = false) : GAM ops Γ (bset D i) (av.put o.dst v) := by
 refine h.keep hp (fun j hj => by rw [A3]; exact Br hj) fun e he => ?_
 exact Cc fun cG => he i o (by rw [A3]; exact Dy) hD ho cG
theorem Ae6 (hp : Plan ops C.nt) {V : List Nat} (hV : ∀ (t : Nat) (o : Oper) (d : Nat), ops[t]? = some o → o.dst = some d → o.guard ≠ none → d ∉ V) {K : Env → Aa → Own → Prop} {Γ : Gam} {mode : Option Nat} {D : Nat} {t : AT} (h : CmpA P ops C.nt Q Γ mode D t) :
  ∀ {av : Act} {ρ : Env} {Mk : Aa} {Gk : Own} {M : Aa} {G : Own} (_ : GAM ops Γ D av) (_ : Dz ops D) (_ : Ar4 V ops D ρ) (_ : Fc C.nt ρ av) (_ : wpA C t ρ Mk Gk M G K),
   match mode with
   | none => VT C ops (fun a M G => ∃ ρ', Fc C.nt ρ' a ∧ K ρ' M G) (t.sz + 1) (bit D) Mk Gk av M G
   | some i0 => ∀ i, i0 ≤ i → i < ops.size → bit D i = false → (∀ p, Bef ops p i → bit D p = true) → ∃ o, ops[i]? = some o ∧ Region.wanted o (yielded ops av.tmps) = true ∧
     ∀ w, C.St M G w → Ip P o av.eval w fun v w' => ∃ M' G' Mk' Gk', C.St M' G' w' ∧
      ((Mk' = Mk ∧ Gk' = Gk ∧ M.le M' ∧ ∀ p ∈ Gk, p ∈ G') ∨ (Mk' = M' ∧ Gk' = G' ∧ ∀ j, bit D j = true → Bef ops j i)) ∧ VT C ops (fun a M G => ∃ ρ', Fc C.nt ρ' a ∧ K ρ' M G) t.sz (Kl (bit D) i) Mk' Gk' (av.put o.dst v) M' G' := by
 induction h with
 | fin hall =>
  intro av ρ Mk Gk M G eO aS al hf hw
  exact .inl ⟨hall, ρ, hf, hw⟩
 | @q Γ g D D1 l rest hg hq h ih =>
  intro av ρ Mk Gk M G eO aS al hf hw
  show VT C ops _ (l.len + rest.sz + 1) (bit D) Mk Gk av M G
  rw [show l.len + rest.sz + 1 = (rest.sz + 1) + l.len from by omega]
  refine Wq hp hV hq (eO.gok hg) (fun p e => (eO _ _ (hg p e)).1) aS al hf hw ?_
  intro av' ρ' z1 z2 _ z4 z5
  exact ih (eO.keep hp hq.sub z4) (Dz.ql hq aS) z1 z2 z5
 | @alts Γ D t hne h ih =>
  intro av ρ Mk Gk M G eO aS al hf hw
  exact .inr (.inr ⟨hne, fun i hi hD hb => ih eO aS al hf hw i (lA8 _) hi hD hb⟩)
 | no h =>
  intro av ρ Mk Gk M G eO aS al hf hw i h1 h2
  omega
 | @pass Γ i0 D t h hr ih =>
  intro av ρ Mk Gk M G eO aS al hf hw i h1 h2 h3 h4
  by_cases e : i = i0
  ·subst e
   rcases h with h | ⟨p, hd, hD⟩
   ·rw [h] at h3; cases h3
   ·rw [h4 p (.one hd)] at hD; cases hD
  ·exact ih eO aS al hf hw i (by omega) h2 h3 h4
 | @s Γ i0 D o r re t more ho hg hD hc hre ht hm ih1 ih2 =>
  intro av ρ Mk Gk M G eO aS al hf hw i h1 h2 h3 h4
  obtain ⟨aV, dO⟩ := hw
  by_cases e : i = i0
  ·subst e
   refine ⟨o, ho, wanted_ok rfl (eO.gok hg), fun w hs => (Oi hc hf hs aV).mono ?_⟩
   rintro v w' ⟨M', G', ah, hk⟩
   have mP : Dz ops (bset D i) := fun x j hj hb => by
    rw [A3] at hj ⊢
    rcases Fd hj with rfl | hj
    ·exact Br (h4 x hb)
    ·exact Br (aS x j hj hb)
   have jk := al.put ho v
   have cv := hf.putE o.dst (fun e he => hp.dst i o e ho he) v
   have hQ := eO.put hp (v := v) ho hD
   split at hk
   ·rename_i hr
    refine ⟨M', G', M', G', ah, .inr ⟨rfl, rfl, hre hr⟩, ?_⟩
    have := ih1 (av := av.put o.dst v) (Mk := M') (Gk := G') (M := M') (G := G') hQ mP jk cv hk
    rw [← A3]
    exact VT.mono (by simp only [AT.sz]; omega) this
   ·obtain ⟨k1, k2, hk⟩ := hk
    refine ⟨M', G', Mk, Gk, ah, .inl ⟨rfl, rfl, k1, k2⟩, ?_⟩
    have := ih1 (av := av.put o.dst v) (Mk := Mk) (Gk := Gk) (M := M') (G := G') hQ mP jk cv hk
    rw [← A3]
    exact VT.mono (by simp only [AT.sz]; omega) this
  ·obtain ⟨o', bH, pS, cq⟩ := ih2 eO aS al hf dO i (by omega) h2 h3 h4
   refine ⟨o', bH, pS, fun w hs => (cq w hs).mono ?_⟩
   rintro v w' ⟨M', G', Mk', Gk', k1, k2, k3⟩
   exact ⟨M', G', Mk', Gk', k1, k2, VT.mono (by simp only [AT.sz]; omega) k3⟩
 | @br Γ D gi s og yes nay hgo hgs hgD hy hn ih1 ih2 =>
  intro av ρ Mk Gk M G eO aS al hf hw
  obtain ⟨vs, c6, hw⟩ := Ab.1 hw
  obtain ⟨c, hc, aV, dO⟩ := Ab.1 hw
  have e0 := C3 hc
  subst e0
  have dW : av.tmps[s]? = some (.bool c) := hf.2 s _ c6
  have hQ : GAM ops ((gi, some c) :: Γ) D av := by
   intro gj x hx
   rcases lBp.1 hx with e | hx
   ·cases e; exact ⟨hgD, og, s, hgo, hgs, dW⟩
   ·exact eO gj x hx
  cases c with
  | true => exact VT.mono (by simp only [AT.sz]; omega) (ih1 hQ aS al hf (aV rfl))
  | false => exact VT.mono (by simp only [AT.sz]; omega) (ih2 hQ aS al hf (dO rfl))
 | @sk Γ Γ' D i gi want x o rest ho hg hx hne hD hdep hΓ h ih =>
  intro av ρ Mk Gk M G eO aS al hf hw
  obtain ⟨hgD, og, s, hgo, hgs, fJ⟩ := eO gi x hx
  have hv : Dj1 x ≠ .bool want := by
   cases x with
   | none => simp [Dj1, undef]
   | some b => simp only [Dj1, ne_eq, Value.bool.injEq]; rintro rfl; exact hne rfl
  have jB : ∀ a : Act, (∀ t ∈ o.looksAt ops, a.tmps[t]? = av.tmps[t]?) → Region.wanted o (yielded ops a.tmps) = false := by
   intro a ha
   rw [Dp ha]
   exact Hk hg hgo hgs fJ hv
  have pT := eO.put hp (v := undef) ho hD
  have eA : Fc C.nt ρ (av.put o.dst undef) := by
   refine ⟨by rw [H3]; exact hf.1, fun t v ht => ?_⟩
   rw [Cc ?_]
   ·exact hf.2 t v ht
   ·intro cG
    rcases al t v ht with ti | ⟨u, ou, k1, k2, k3⟩
    ·exact hV i o t ho cG (by rw [hg]; simp) ti
    ·have := hp.one i u o ou t ho k2 cG k3
     subst this
     rw [k1] at hD; cases hD
  refine Kw ho hD hdep aS (v := undef) (fun a w ha _ => ⟨fun hw => (by rw [jB a ha] at hw; cases hw), fun _ => rfl⟩) ?_
  refine ih ?_ (aS.bset hdep) (fun t v ht => (al t v ht).imp id fun ⟨u, o', h1, h2, h3⟩ => ⟨u, o', by rw [A3]; exact Br h1, h2, h3⟩) eA hw
  intro gj y hy
  rcases hΓ _ hy with hy | ⟨e, s', ah⟩
  ·exact pT gj y hy
  ·cases e
   exact ⟨by rw [A3]; exact Dy, o, s', ho, ah, by rw [ah]; exact H4 (by rw [hf.1]; exact hp.dst i o s' ho ah)⟩
end
variable {P : Program}
inductive RCode where
 | skip
 | reg (sts : Sts)
 | any (t : AT)
 | seq (a b : RCode)
 | cond (c : A) (a b : RCode)
 | block (id : Nat) (c : RCode)
 | loop (c : RCode)
 | exit (id : Nat)
 | ret
 | rangeF (f : A) (ps : List Nat) (a b : RCode)
inductive RItem where
 | code (c : RCode)
 | inBlock (id : Nat)
 | inLoop (c : RCode)
 | begins
def Wb : List Nat → Env → Env
 | [], _ => []
 | i :: V, ρ => match get ρ i with
  | some v => (i, v) :: Wb V ρ
  | none => Wb V ρ
theorem N7 {V : List Nat} {ρ : Env} {t : Nat} {v : Value} (h : get (Wb V ρ) t = some v) : get ρ t = some v ∧ t ∈ V := by
 induction V with
 | nil => simp [Wb, get] at h
 | cons i V ih =>
  simp only [Wb] at h
  cases hi : get ρ i with
  | none => rw [hi] at h; exact ⟨(ih h).1, by simp [(ih h).2]⟩
  | some u =>
   rw [hi] at h
   simp only [get] at h
   split at h
   ·rename_i e; subst e; cases h; exact ⟨hi, by simp⟩
   ·exact ⟨(ih h).1, by simp [(ih h).2]⟩
inductive CmpC (P : Program) (nt : Nat) (V : List Nat) : Code → RCode → Prop
 | skip : CmpC P nt V .skip .skip
 | reg {id : Nat} {ops : Array Oper} {sts : Sts} (h : CmpS P ops nt none 0 0 ops.size sts) (hod : Ri ops) (hV : ∀ (t : Nat) (o : Oper) (d : Nat), ops[t]? = some o → o.dst = some d → o.guard ≠ none → d ∉ V) : CmpC P nt V (.region id ops false) (.reg sts)
 | any {id : Nat} {ops : Array Oper} {t : AT} {Q : List Nat} (hp : Plan ops nt) (h : CmpA P ops nt Q [] none 0 t) (hV : ∀ (t : Nat) (o : Oper) (d : Nat), ops[t]? = some o → o.dst = some d → o.guard ≠ none → d ∉ V) : CmpC P nt V (.region id ops true) (.any t)
 | seq {a b : Code} {a' b' : RCode} (ha : CmpC P nt V a a') (hb : CmpC P nt V b b') : CmpC P nt V (.seq a b) (.seq a' b')
 | cond {c : Operand} {c' : A} {a b : Code} {a' b' : RCode} (hc : cA c = some c') (ha : CmpC P nt V a a') (hb : CmpC P nt V b b') : CmpC P nt V (.cond c a b) (.cond c' a' b')
 | block {id : Nat} {c : Code} {c' : RCode} (h : CmpC P nt V c c') : CmpC P nt V (.block id c) (.block id c')
 | loop {c : Code} {c' : RCode} (h : CmpC P nt V c c') : CmpC P nt V (.loop c) (.loop c')
 | exit {id : Nat} : CmpC P nt V (.exit id) (.exit id)
 | ret : CmpC P nt V .ret .ret
 | rangeF {f : Operand} {f' : A} {ps : Array Tmp} {a b : Code} {a' b' : RCode} (hf : cA f = some f') (hps : ∀ t ∈ ps.toList, t < nt) (ha : CmpC P nt V a a') (hb : CmpC P nt V b b') : CmpC P nt V (.rangeFunc f ps a b) (.rangeF f' ps.toList a' b')
inductive CmpI (P : Program) (nt : Nat) (V : List Nat) : Item → RItem → Prop
 | code {c : Code} {c' : RCode} (h : CmpC P nt V c c') : CmpI P nt V (.code c) (.code c')
 | inBlock {id : Nat} : CmpI P nt V (.inBlock id) (.inBlock id)
 | inLoop {c : Code} {c' : RCode} (h : CmpC P nt V c c') : CmpI P nt V (.inLoop c) (.inLoop c')
 | begins : CmpI P nt V .beginRound .begins
inductive CmpK (P : Program) (nt : Nat) (V : List Nat) : List Item → List RItem → Prop
 | nil : CmpK P nt V [] []
 | cons {x : Item} {x' : RItem} {k : List Item} {k' : List RItem} (h : CmpI P nt V x x') (hk : CmpK P nt V k k') : CmpK P nt V (x :: k) (x' :: k')
def EV (C : Cx P) (V : List Nat) (k : List RItem) (ρ : Env) (M : Aa) (G : Own) : Prop :=
 ∀ k', CmpK P C.nt V k' k → ∀ a w, Fc C.nt ρ a → a.defers = C.ds → C.St M G w → ∀ cs, C.T cs (lone (C.b.atR a k') cs w)
section
variable {C : Cx P} {V : List Nat} {k : List RItem} {ρ : Env} {M : Aa} {G : Own}
theorem EV.weaken {ρ' : Env} {G' : Own} (h : EV C V k ρ' M G') (hρ : ∀ t v, get ρ' t = some v → get ρ t = some v) (hG : G'.Sublist G) : EV C V k ρ M G :=
 fun k' hk a w hf hd hs cs => h k' hk a w (hf.sub hρ) hd (hs.weaken hG) cs
theorem JF {G' : Own} (h : EV C V k ρ M G') (hG : G.Perm G') : EV C V k ρ M G :=
 fun k' hk a w hf hd hs cs => h k' hk a w hf hd (hs.perm hG) cs
theorem EV.freeze {G₁ G₂ : Own} (h : EV C V k ρ (M.add G₁) G₂) : EV C V k ρ M (G₁ ++ G₂) :=
 fun k' hk a w hf hd hs cs => h k' hk a w hf hd hs.freeze cs
theorem EV.skip (h : EV C V k ρ M G) : EV C V (.code .skip :: k) ρ M G := by
 intro k' hk a w hf hd hs cs
 cases hk with
 | cons hx hk => cases hx with
  | code hc => cases hc with
   | skip => exact C.back stepR_skip (h _ hk a w hf hd hs cs)
theorem EV.inBlock {id : Nat} (h : EV C V k ρ M G) : EV C V (.inBlock id :: k) ρ M G := by
 intro k' hk a w hf hd hs cs
 cases hk with
 | cons hx hk => cases hx with
  | inBlock => exact C.back stepR_inBlock (h _ hk a w hf hd hs cs)
theorem EV.seq {x y : RCode} (h : EV C V (.code x :: .code y :: k) ρ M G) : EV C V (.code (.seq x y) :: k) ρ M G := by
 intro k' hk a w hf hd hs cs
 cases hk with
 | cons hx hk => cases hx with
  | code hc => cases hc with
   | seq ha hb => exact C.back stepR_seq (h _ (.cons (.code ha) (.cons (.code hb) hk)) a w hf hd hs cs)
theorem EV.block {id : Nat} {c : RCode} (h : EV C V (.code c :: .inBlock id :: k) ρ M G) : EV C V (.code (.block id c) :: k) ρ M G := by
 intro k' hk a w hf hd hs cs
 cases hk with
 | cons hx hk => cases hx with
  | code hc => cases hc with
   | block h' => exact C.back stepR_block (h _ (.cons (.code h') (.cons .inBlock hk)) a w hf hd hs cs)
def Oj (id : Nat) : List RItem → Option (List RItem)
 | .inBlock id' :: k => if id' = id then some k else Oj id k
 | _ :: k => Oj id k
 | [] => none
theorem exitR_ok {nt : Nat} {id : Nat} : ∀ {k' : List Item} {k j : List RItem}, CmpK P nt V k' k → Oj id k = some j → ∃ j', exitTo id k' = some j' ∧ CmpK P nt V j' j
 | _, _, j, .nil, h => by simp [Oj] at h
 | _, _, j, .cons hx hk, h => by
  cases hx with
  | code hc => simp only [Oj] at h; obtain ⟨j', h1, h2⟩ := exitR_ok hk h; exact ⟨j', by simpa [exitTo] using h1, h2⟩
  | inLoop hc => simp only [Oj] at h; obtain ⟨j', h1, h2⟩ := exitR_ok hk h; exact ⟨j', by simpa [exitTo] using h1, h2⟩
  | begins => simp only [Oj] at h; obtain ⟨j', h1, h2⟩ := exitR_ok hk h; exact ⟨j', by simpa [exitTo] using h1, h2⟩
  | @inBlock id' =>
   simp only [Oj] at h
   split at h
   ·rename_i e; cases h; exact ⟨_, by simp [exitTo, e], hk⟩
   ·rename_i e
    obtain ⟨j', h1, h2⟩ := exitR_ok hk h
    exact ⟨j', by simpa [exitTo, e] using h1, h2⟩
theorem EV.exit {id : Nat} {j : List RItem} (hj : Oj id k = some j) (h : EV C V j ρ M G) : EV C V (.code (.exit id) :: k) ρ M G := by
 intro k' hk a w hf hd hs cs
 cases hk with
 | cons hx hk => cases hx with
  | code hc => cases hc with
   | exit =>
    obtain ⟨j', h1, h2⟩ := exitR_ok hk hj
    exact C.back (stepR_exit h1) (h _ h2 a w hf hd hs cs)
theorem EV.cond {c : A} {b : Bool} {x y : RCode} (hc : ev ρ c = some (.bool b)) (h1 : b = true → EV C V (.code x :: k) ρ M G) (h2 : b = false → EV C V (.code y :: k) ρ M G) : EV C V (.code (.cond c x y) :: k) ρ M G := by
 intro k' hk a w hf hd hs cs
 cases hk with
 | cons hx hk => cases hx with
  | code cJ => cases cJ with
   | cond kS ha hb =>
    refine C.back (stepR_cond (t := b) (Am hf kS hc)) ?_
    cases b with
    | true => exact h1 rfl _ (.cons (.code ha) hk) a w hf hd hs cs
    | false => exact h2 rfl _ (.cons (.code hb) hk) a w hf hd hs cs
theorem EV.inLoop {c : RCode} (h : EV C V (.code c :: .inLoop c :: k) ρ M G) : EV C V (.inLoop c :: k) ρ M G := by
 intro k' hk a w hf hd hs cs
 cases hk with
 | cons hx hk => cases hx with
  | inLoop hc => exact C.back stepR_inLoop (h _ (.cons (.code hc) (.cons (.inLoop hc) hk)) a w hf hd hs cs)
theorem EV.loop {α : Type} (st : α → Env × Aa × Own) (I : α → Prop) (μ : α → Nat) {c : RCode} (x : α) (hI : I x)
  (body : ∀ x, I x → (∀ x', I x' → μ x' < μ x → EV C V (.inLoop c :: k) (st x').1 (st x').2.1 (st x').2.2) → EV C V (.code c :: .inLoop c :: k) (st x).1 (st x).2.1 (st x).2.2) :
  EV C V (.code (.loop c) :: k) (st x).1 (st x).2.1 (st x).2.2 := by
 have key : ∀ n x, μ x = n → I x → EV C V (.code c :: .inLoop c :: k) (st x).1 (st x).2.1 (st x).2.2 := by
  intro n
  induction n using Nat.strongRecOn with
  | _ n ih =>
   intro x hn hx
   exact body x hx fun x' dj aU => EV.inLoop (ih (μ x') (hn ▸ aU) x' rfl dj)
 intro k' hk a w hf hd hs cs
 cases hk with
 | cons hx hk => cases hx with
  | code hc => cases hc with
   | loop cJ => exact C.back stepR_loop (key _ x rfl hI _ (.cons (.code cJ) (.cons (.inLoop cJ) hk)) a w hf hd hs cs)
theorem EV.reg {sts : Sts} (h : wpS C sts (Wb V ρ) M G fun ρ' M' G' => EV C V k ρ' M' G') : EV C V (.code (.reg sts) :: k) ρ M G := by
 intro k' hk a w hf hd hs cs
 cases hk with
 | cons hx hk => cases hx with
  | code hc => cases hc with
   | @reg id ops _ eB hod hV =>
    refine C.back stepR_region ?_
    have al : Dom V ops 0 (Wb V ρ) := fun t v ht => .inl (N7 ht).2
    have eA : Fc C.nt (Wb V ρ) a := hf.sub fun t v ht => (N7 ht).1
    have := Ae1 (C := C) (k := _) (cs := cs) hod eB (tail := []) (a := a) (w := w) (fun gi want e => by cases e) al (fun t o d _ _ h3 h4 h5 => hV t o d h3 h4 h5) eA hd hs h (by
     intro a' ρ' M' G' w' _ _ cv dM ah af _
     exact C.back stepR_region_end (af _ hk a' w' cv dM ah cs))
    rw [lFd]
    simpa using this
theorem EV.any {t : AT} (Gk : Own) (pR : Gk.Sublist G) (h : wpA C t (Wb V ρ) M Gk M G fun ρ' M' G' => EV C V k ρ' M' G') : EV C V (.code (.any t) :: k) ρ M G := by
 intro k' hk a w hf hd hs cs
 cases hk with
 | cons hx hk => cases hx with
  | code hc => cases hc with
   | @any id ops _ Q hp eB hV =>
    refine C.back stepR_region_draw ?_
    have dY : bit 0 = fun _ => false := by funext i; simp [bit]
    have al : Ar4 V ops 0 (Wb V ρ) := fun t v ht => .inl (N7 ht).2
    have eA : Fc C.nt (Wb V ρ) a := hf.sub fun t v ht => (N7 ht).1
    have aS : Dz ops 0 := fun i j hj => by rw [dY] at hj; cases hj
    have sS := Ae6 (C := C) hp hV eB (av := a) (fun _ _ h => by cases h) aS al eA h
    simp only [dY] at sS
    have e8 : ∀ (md : Region.Mode) (t : Nat), C.T cs (lone (C.b.atR a (.inRegion ops (Region.linearise md ops t) :: _)) cs { w with drawn := w.drawn + 1 }) := fun md t =>
     Ae5 hp pR hf.1 hd (hs.drew _ (Nat.le_succ _)) sS (fun a' M' G' w' _ dM ah ⟨ρ', cv, af⟩ => C.back stepR_region_end (af _ hk a' w' cv dM ah cs)) md t
    unfold Region.schedule
    split
    ·exact e8 _ _
    ·exact e8 _ _
end
inductive RRes where
 | tmp (t : Nat)
 | cellA (t sz : Nat)
 | cell1 (t : Nat)
def Am8 (ρ : Env) (H : Aa) : List RRes → (List Value → Prop) → Prop
 | [], K => K []
 | .tmp t :: l, K => onv (get ρ t) fun v => Am8 ρ H l fun vs => K (v :: vs)
 | .cellA t sz :: l, K => onv (get ρ t) fun v => onv (Wh v) fun p => ∃ cs, rd H p.1 p.2 sz cs ∧ Am8 ρ H l fun vs => K (.agg cs.toArray :: vs)
 | .cell1 t :: l, K => onv (get ρ t) fun v => onv (Wh v) fun p => ∃ u, rd H p.1 p.2 1 [u] ∧ Am8 ρ H l fun vs => K (u :: vs)
def Bj5 : List Value → Value
 | [v] => v
 | vs => .tuple vs.toArray
inductive CmpR (P : Program) : ResultVar → RRes → Prop
 | tmp {t : Nat} : CmpR P (.tmp t) (.tmp t)
 | cellA {t sz : Nat} {T : TypeId} (ha : Of P T = some true) (hs : (P.info? T).map (·.size) = some sz) : CmpR P (.cell t T) (.cellA t sz)
 | cell1 {t : Nat} {T : TypeId} (ha : Of P T = some false) : CmpR P (.cell t T) (.cell1 t)
inductive CmpRs (P : Program) : List ResultVar → List RRes → Prop
 | nil : CmpRs P [] []
 | cons {x : ResultVar} {y : RRes} {l : List ResultVar} {m : List RRes} (h : CmpR P x y) (t : CmpRs P l m) : CmpRs P (x :: l) (y :: m)
def Ar5 (fn : ResultVar) (tmps : Array Value) : Sem Value :=
 match fn with
 | .tmp t => pure (tmps.getD t undef)
 | .cell a t => do loadVar t (← asAddr (tmps.getD a undef))
theorem N8 {H : Aa} {nt : Nat} {ρ : Env} {a : Act} {w : World} (hf : Fc nt ρ a) (ag : ∀ b o, H b o → w.heap[b]? = some o) : ∀ {l : List ResultVar} {m : List RRes}, CmpRs P l m → ∀ {K : List Value → Prop}, Am8 ρ H m K →
  ∃ vs, (l.mapM fun x => Ar5 x a.tmps).run P w = .ok vs w ∧ K vs
 | _, _, .nil, K, h => ⟨[], by simp [Pure.pure, Sem.run], h⟩
 | _, _, .cons hx ht, K, h => by
  have cN : ∀ t v, get ρ t = some v → a.tmps.getD t undef = v := by
   intro t v ht
   have := hf.2 t v ht
   simp [lBz, this]
  cases hx with
  | tmp =>
   simp only [Am8] at h
   obtain ⟨v, hv, h⟩ := Ab.1 h
   obtain ⟨vs, h1, h2⟩ := N8 hf ag ht h
   refine ⟨v :: vs, ?_, h2⟩
   rw [lEe, Ad (a := v) (w' := w) (by simp [Ar5, cN _ _ hv, Pure.pure, Sem.run]), Ad h1]
   rfl
  | cellA ha hs =>
   simp only [Am8] at h
   obtain ⟨v, hv, hB⟩ := Ab.1 h
   obtain ⟨p, hp, c, hr, hC⟩ := Ab.1 hB
   have e1 := Cp hp
   subst e1
   obtain ⟨vs, h1, h2⟩ := N8 hf ag ht hC
   refine ⟨.agg c.toArray :: vs, ?_, h2⟩
   rw [lEe, Ad (a := .agg c.toArray) (w' := w) ?_, Ad h1]
   ·rfl
   ·simp only [Ar5, cN _ _ hv]
    rw [Ad (a := ⟨p.1, p.2, none⟩) (w' := w) rfl]
    unfold loadVar
    rw [Ad (Dw ha w)]
    simp only [if_true]
    rw [Ad (Bl hs w), Ad (H1 ag hr)]
    rfl
  | cell1 ha =>
   simp only [Am8] at h
   obtain ⟨v, hv, hB⟩ := Ab.1 h
   obtain ⟨p, hp, c, hr, hC⟩ := Ab.1 hB
   have e1 := Cp hp
   subst e1
   obtain ⟨vs, h1, h2⟩ := N8 hf ag ht hC
   refine ⟨c :: vs, ?_, h2⟩
   rw [lEe, Ad (a := c) (w' := w) ?_, Ad h1]
   ·rfl
   ·simp only [Ar5, cN _ _ hv]
    rw [Ad (a := ⟨p.1, p.2, none⟩) (w' := w) rfl]
    unfold loadVar
    rw [Ad (Dw ha w)]
    exact Sm (Ar3 ag hr)
theorem H5 {H : Aa} {nt : Nat} {ρ : Env} {a : Act} {w : World} {fn : Func} {m : List RRes} (hf : Fc nt ρ a) (ag : ∀ b o, H b o → w.heap[b]? = some o) (hr : CmpRs P fn.results.toList m) {Q : Value → Prop} (h : Am8 ρ H m fun vs => Q (Bj5 vs)) :
  ∃ v, (results fn a.tmps).run P w = .ok v w ∧ Q v := by
 obtain ⟨vs, h1, h2⟩ := N8 (P := P) hf ag hr h
 refine ⟨Bj5 vs, ?_, h2⟩
 have e : results fn a.tmps = (do let l ← fn.results.mapM fun x => Ar5 x a.tmps; pure (if h : l.size = 1 then l[0] else .tuple l)) := by
  unfold results Ar5
  congr
 rw [e, Array.mapM_eq_mapM_toList]
 have hm : ((List.toArray <$> (fn.results.toList.mapM fun x => Ar5 x a.tmps)) : Sem (Array Value)).run P w = .ok vs.toArray w := by
  show ((fn.results.toList.mapM fun x => Ar5 x a.tmps) >>= fun l => pure l.toArray : Sem (Array Value)).run P w = _
  rw [Ad h1]; rfl
 rw [Ad hm]
 cases vs with
 | nil => rfl
 | cons v vs =>
  cases vs with
  | nil => rfl
  | cons u vs => simp [Bj5, Pure.pure, Sem.run]
variable {P : Program}
def szP (P : Program) (t : TypeId) : Option Nat := (P.info? t).map (·.size)
def Aw2 (P : Program) (t : TypeId) : Option Value := (P.info? t).bind (·.zero)
def Dm1 (P : Program) (o : Oper) (op : BinOp) (t : TypeId) (x y : Operand) : Option ROp :=
 match P.underlying t with
 | some (.int _) => (cA x).bind fun x' => (cA y).bind fun y' => some (.bin op x' y')
 | some .string => (cA x).bind fun x' => (cA y).bind fun y' => some (.bin op x' y')
 | some .bool => (cA x).bind fun x' => (cA y).bind fun y' => match op with | .eql => some (.eqb false x' y') | .neq => some (.eqb true x' y') | _ => none
 | some (.pointer _) => match y with
  | .const (.pointer none) => (cA x).bind fun x' => match op with | .eql => some (.eqp false x') | .neq => some (.eqp true x') | _ => none
  | _ => some .bad
 | some (.slice _) => match y with
  | .const (.slice none 0 0) => (cA x).bind fun x' => match op with | .eql => some (.eqS false x') | .neq => some (.eqS true x') | _ => none
  | _ => some .bad
 | _ => match Bj3 P t with
  | some ks => (cA x).bind fun x' => (cA y).bind fun y' => match op with | .eql => some (.eqA false ks x' y') | .neq => some (.eqA true ks x' y') | _ => none
  | none => some .bad
theorem cBin_ok {o : Oper} {op : BinOp} {t u : TypeId} {x y : Operand} {r : ROp} (h : o.op = .binOp op t x y u) (hr : Dm1 P o op t x y = some r) : Cmp P o r := by
 unfold Dm1 at hr
 split at hr
 ·simp only [lA3] at hr
  obtain ⟨x', hx, y', hy, e⟩ := hr
  cases e
  exact .bin h hx hy
 ·simp only [lA3] at hr
  obtain ⟨x', hx, y', hy, e⟩ := hr
  cases e
  exact .bin h hx hy
 ·rename_i hu
  simp only [lA3] at hr
  obtain ⟨x', hx, y', hy, e⟩ := hr
  split at e <;> cases e
  ·exact .eqb (neg := false) h hu hx hy
  ·exact .eqb (neg := true) h hu hx hy
 ·rename_i hu
  split at hr
  ·simp only [lA3] at hr
   obtain ⟨x', hx, e⟩ := hr
   split at e <;> cases e
   ·exact .eqp (neg := false) h hu hx
   ·exact .eqp (neg := true) h hu hx
  ·cases hr; exact .bad
 ·rename_i hu
  split at hr
  ·simp only [lA3] at hr
   obtain ⟨x', hx, e⟩ := hr
   split at e <;> cases e
   ·exact .eqS (neg := false) h hu hx
   ·exact .eqS (neg := true) h hu hx
  ·cases hr; exact .bad
 ·split at hr
  ·rename_i ks he
   simp only [lA3] at hr
   obtain ⟨x', hx, y', hy, e⟩ := hr
   split at e <;> cases e
   ·exact .eqA (neg := false) h he hx hy
   ·exact .eqA (neg := true) h he hx hy
  ·cases hr; exact .bad
def Ae7 (P : Program) (s : TypeId) (x : Operand) (f : Nat) : Option ROp :=
 match P.underlying s with
 | some (.struct fs) => fs[f]?.bind fun fl => match szP P fl.type with
  | some (_ + 1) => (cA x).bind fun x' => some (.faddr fl.offset x')
  | _ => none
 | _ => none
theorem cFaddr_ok {o : Oper} {s : TypeId} {x : Operand} {f : Nat} {r : ROp} (h : o.op = .fieldAddr s x f) (hr : Ae7 P s x f = some r) : Cmp P o r := by
 unfold Ae7 at hr
 split at hr
 ·rename_i fs hu
  simp only [lA3] at hr
  obtain ⟨fl, hf, hr⟩ := hr
  split at hr
  ·rename_i n hs
   simp only [lA3] at hr
   obtain ⟨x', hx, e⟩ := hr
   cases e
   exact .faddr h hx hu hf hs
  ·cases hr
 ·cases hr
def Ae8 (P : Program) (s : TypeId) (x : Operand) (f : Nat) : Option ROp :=
 match P.underlying s with
 | some (.struct fs) => fs[f]?.bind fun fl => (cA x).bind fun x' => match Of P fl.type with
  | some true => (szP P fl.type).bind fun sz => some (.fieldA fl.offset sz x')
  | some false => some (.field1 fl.offset x')
  | none => none
 | _ => none
theorem cField_ok {o : Oper} {s : TypeId} {x : Operand} {f : Nat} {r : ROp} (h : o.op = .field s x f) (hr : Ae8 P s x f = some r) : Cmp P o r := by
 unfold Ae8 at hr
 split at hr
 ·rename_i fs hu
  simp only [lA3] at hr
  obtain ⟨fl, hf, x', hx, hr⟩ := hr
  split at hr
  ·rename_i ha
   simp only [lA3] at hr
   obtain ⟨sz, hs, e⟩ := hr
   cases e
   exact .fieldA h hx hu hf ha hs
  ·rename_i ha
   cases hr
   exact .field1 h hx hu hf ha
  ·cases hr
 ·cases hr
def Ae9 (P : Program) (t : TypeId) (x i : Operand) : Option ROp :=
 match P.underlying t with
 | some (.array n e) => (szP P e).bind fun sz => (cA x).bind fun x' => (cA i).bind fun i' => some (.iaddrA n sz x' i')
 | some (.slice e) => (szP P e).bind fun sz => (cA x).bind fun x' => (cA i).bind fun i' => some (.iaddrS sz x' i')
 | _ => none
theorem cIaddr_ok {o : Oper} {t : TypeId} {x i : Operand} {r : ROp} (h : o.op = .indexAddr t x i) (hr : Ae9 P t x i = some r) : Cmp P o r := by
 unfold Ae9 at hr
 split at hr
 ·rename_i hu
  simp only [lA3] at hr
  obtain ⟨sz, hs, x', hx, i', hi, e⟩ := hr
  cases e
  exact .iaddrA h hx hi hu hs
 ·rename_i hu
  simp only [lA3] at hr
  obtain ⟨sz, hs, x', hx, i', hi, e⟩ := hr
  cases e
  exact .iaddrS h hx hi hu hs
 ·cases hr
def Aw3 (P : Program) (t : TypeId) (x : Operand) : Option ROp :=
 (cA x).bind fun x' => match Of P t with
  | some true => (szP P t).bind fun sz => some (.loadA sz x')
  | some false => match P.underlying t with
   | some (.int k) => some (.loadI k x')
   | some .bool => some (.loadB x')
   | some (.slice _) => some (.loadS x')
   | _ => some (.loadX x')
  | none => none
theorem cLoad_ok {o : Oper} {t : TypeId} {x : Operand} {r : ROp} (h : o.op = .load t x) (hr : Aw3 P t x = some r) : Cmp P o r := by
 unfold Aw3 at hr
 simp only [lA3] at hr
 obtain ⟨x', hx, hr⟩ := hr
 split at hr
 ·rename_i ha
  simp only [lA3] at hr
  obtain ⟨sz, hs, e⟩ := hr
  cases e
  exact .loadA h hx ha hs
 ·rename_i ha
  split at hr <;> cases hr
  ·exact .loadI h hx ha
  ·exact .loadB h hx ha
  ·exact .loadS h hx ha
  ·exact .loadX h hx ha
 ·cases hr
def Af0 (P : Program) (t : TypeId) (parts : Array (Nat × Operand)) : Option ROp :=
 (Aw2 P t).bind fun z => match P.underlying t with
  | some (.struct fs) => if (fs.all fun f => (P.info? f.type).isSome) = true then (Ua P fs parts.toList).bind fun ps => some (.build z.cells.toList ps) else none
  | some (.array _ e) => (szP P e).bind fun sz => (Og sz parts.toList).bind fun ps => some (.build z.cells.toList ps)
  | _ => none
theorem cBuild_ok {o : Oper} {t : TypeId} {parts : Array (Nat × Operand)} {r : ROp} (h : o.op = .build t parts) (hr : Af0 P t parts = some r) : Cmp P o r := by
 unfold Af0 at hr
 simp only [lA3] at hr
 obtain ⟨z, hz, hr⟩ := hr
 split at hr
 ·rename_i fs hu
  split at hr
  ·rename_i hall
   simp only [lA3] at hr
   obtain ⟨ps, hp, e⟩ := hr
   cases e
   exact .buildS h hu hz hp hall
  ·cases hr
 ·rename_i hu
  simp only [lA3] at hr
  obtain ⟨sz, hs, ps, hp, e⟩ := hr
  cases e
  exact .buildA h hu hz hs hp
 ·cases hr
def Sp (P : Program) (t : TypeId) (n : Nat) (parts : Array (Nat × Operand)) : Option ROp :=
 match P.underlying t with
 | some (.slice e) => (Aw2 P e).bind fun z => (szP P e).bind fun sz => (Og sz parts.toList).bind fun ps =>
   if z.cells.size = sz ∧ n * sz ≤ 2 ^ 24 then some (.buildSl e n (List.replicate n z.cells.toList).flatten ps) else none
 | _ => none
theorem cBuildSl_ok {o : Oper} {t : TypeId} {n : Nat} {parts : Array (Nat × Operand)} {r : ROp} (h : o.op = .buildSlice t n parts) (hr : Sp P t n parts = some r) : Cmp P o r := by
 unfold Sp at hr
 split at hr
 ·rename_i hu
  simp only [lA3] at hr
  obtain ⟨z, hz, sz, hs, ps, hp, hr⟩ := hr
  split at hr
  ·rename_i hc
   cases hr
   exact .buildSl h hu hz hs hc.1 hc.2 hp
  ·cases hr
 ·cases hr
def Wr (P : Program) (t : TypeId) (x y : Operand) : Option ROp :=
 match P.underlying t with
 | some (.slice e) => (P.info? e).bind fun i => i.zero.bind fun z => (cA x).bind fun x' => (cA y).bind fun y' =>
   if z.cells.size = i.size ∧ 0 < i.size then some (.makeSl e i.size i.bytes z.cells.toList x' y') else none
 | _ => none
theorem cMakeSl_ok {o : Oper} {t : TypeId} {x y : Operand} {r : ROp} (h : o.op = .makeSlice t x y) (hr : Wr P t x y = some r) : Cmp P o r := by
 unfold Wr at hr
 split at hr
 ·rename_i hu
  simp only [lA3] at hr
  obtain ⟨i, hi, z, hz, x', hx, y', hy, hr⟩ := hr
  split at hr
  ·rename_i hc
   cases hr
   exact .makeSl h hx hy hu hi hz hc.1 hc.2
  ·cases hr
 ·cases hr
def Af1 (P : Program) (t : TypeId) (x : Operand) (lo hi mx : Option Operand) : Option ROp :=
 match P.underlying t with
 | some (.slice e) => (szP P e).bind fun sz => (cA x).bind fun x' => (cAo lo).bind fun lo' => (cAo hi).bind fun aC => (cAo mx).bind fun mx' => some (.slS sz x' lo' aC mx')
 | some (.array n e) => match mx with
  | none => (szP P e).bind fun sz => (cA x).bind fun x' => (cAo lo).bind fun lo' => (cAo hi).bind fun aC => some (.slA n sz x' lo' aC)
  | some _ => none
 | _ => none
theorem cSlice_ok {o : Oper} {t : TypeId} {x : Operand} {lo hi mx : Option Operand} {r : ROp} (h : o.op = .slice t x lo hi mx) (hr : Af1 P t x lo hi mx = some r) : Cmp P o r := by
 unfold Af1 at hr
 split at hr
 ·rename_i hu
  simp only [lA3] at hr
  obtain ⟨sz, hs, x', hx, lo', hlo, aC, hhi, mx', hmx, e⟩ := hr
  cases e
  exact .slS h hx hlo hhi hmx hu hs
 ·rename_i hu
  split at hr
  ·simp only [lA3] at hr
   obtain ⟨sz, hs, x', hx, lo', hlo, aC, hhi, e⟩ := hr
   cases e
   exact .slA h hx hlo hhi hu hs
  ·cases hr
 ·cases hr
def Dm2 (P : Program) (t : TypeId) (x i : Operand) : Option ROp :=
 match P.underlying t with
 | some (.array n e) => (cA x).bind fun x' => (cA i).bind fun i' => match Of P e with
  | some true => (szP P e).bind fun sz => some (.idxA n sz x' i')
  | some false => if szP P e = some 1 then some (.idx1 n x' i') else none
  | none => none
 | _ => some .bad
theorem cIdx_ok {o : Oper} {t : TypeId} {x i : Operand} {r : ROp} (h : o.op = .index t x i) (hr : Dm2 P t x i = some r) : Cmp P o r := by
 unfold Dm2 at hr
 split at hr
 ·rename_i hu
  simp only [lA3] at hr
  obtain ⟨x', hx, i', hi, hr⟩ := hr
  split at hr
  ·rename_i ha
   simp only [lA3] at hr
   obtain ⟨sz, hs, e⟩ := hr
   cases e
   exact .idxA h hx hi hu ha hs
  ·rename_i ha
   split at hr
   ·rename_i hs
    cases hr
    exact .idx1 h hx hi hu ha hs
   ·cases hr
  ·cases hr
 ·cases hr; exact .bad
def Aw4 (P : Program) (o : Oper) (c : Call) : Option ROp :=
 match c with
 | { callee := .value (.func f), args, .. } => (cAs args.toList).bind fun a => some (if An1 P f = true then .call f a else .ext f a)
 | { callee := .value x, args, .. } => (cA x).bind fun x' => (cAs args.toList).bind fun a => some (.callv x' a)
 | { callee := .builtin .len, args, argTypes } => match args.toList, argTypes.toList with
  | [x], [t] => (cA x).bind fun x' => match P.underlying t with
   | some (.slice _) => some (.len x')
   | some .string => some (.lenT x')
   | _ => some .bad
  | _, _ => none
 | { callee := .builtin .max, args, .. } => match args.toList with
  | [x, y] => (cA x).bind fun x' => (cA y).bind fun y' => some (.maxi x' y')
  | _ => some .bad
 | { callee := .builtin .min, args, .. } => match args.toList with
  | [x, y] => (cA x).bind fun x' => (cA y).bind fun y' => some (.mini x' y')
  | _ => some .bad
 | { callee := .builtin .cap, args, argTypes } => match args.toList, argTypes.toList with
  | [x], [t] => (cA x).bind fun x' => match P.underlying t with
   | some (.slice _) => some (.cap x')
   | _ => some .bad
  | _, _ => none
 | { callee := .builtin .copy, args, argTypes } => match args.toList, argTypes.toList with
  | [x, y], [t, _] => match P.underlying t with
   | some (.slice e) => (szP P e).bind fun sz => (cA x).bind fun x' => (cA y).bind fun y' => some (.copyO sz x' y')
   | _ => some .bad
  | _, _ => none
 | { callee := .builtin .clear, args, argTypes } => match args.toList, argTypes.toList with
  | [x], [t] => match P.underlying t with
   | some (.slice e) => ((P.info? e).bind (·.zero)).bind fun z => (cA x).bind fun x' => match z.cells.toList with
    | [z'] => if z'.oneCell' = true then some (.clearS z' x') else some .bad
    | _ => some .bad
   | _ => some .bad
  | _, _ => none
 | { callee := .builtin .append, args, argTypes } => match args.toList, argTypes.toList with
  | [x, y], [t, t'] => if t' = t then
    match P.underlying t with
    | some (.slice e) => (P.info? e).bind fun i => i.zero.bind fun z => (cA x).bind fun x' => (cA y).bind fun y' =>
      if z.cells.size = i.size ∧ 0 < i.size then some (.append e i.size i.bytes z.cells.toList x' y') else none
    | _ => none
   else match P.underlying t' with
    | some (.int _) => match P.underlying t with
     | some (.slice e) => (P.info? e).bind fun i => i.zero.bind fun z => (cA x).bind fun x' => (cA y).bind fun y' =>
      if z.cells.size = i.size ∧ 0 < i.size then some (.appendZ e i.size i.bytes z.cells.toList x' y') else none
     | _ => none
    | _ => some .bad
  | _, _ => none
 | _ => some .bad
theorem Bi6 {α : Type} {a : Array α} {x : α} (h : a.toList = [x]) : a = #[x] := by apply lF4; simpa using h
theorem Bi7 {α : Type} {a : Array α} {x y : α} (h : a.toList = [x, y]) : a = #[x, y] := by apply lF4; simpa using h
theorem cCall_ok {o : Oper} {c : Call} {r : ROp} (h : o.op = .call c) (hr : Aw4 P o c = some r) : Cmp P o r := by
 unfold Aw4 at hr
 split at hr
 ·simp only [lA3] at hr
  obtain ⟨a, ha, e⟩ := hr
  cases e
  split
  ·exact .call h ha
  ·exact .ext h ha
 ·simp only [lA3] at hr
  obtain ⟨x', hx, a, ha, e⟩ := hr
  cases e
  exact .callv h hx ha
 ·split at hr
  ·rename_i h1 h2
   have e1 := Bi6 h1
   have e2 := Bi6 h2
   subst e1 e2
   simp only [lA3] at hr
   obtain ⟨x', hx, hr⟩ := hr
   split at hr <;> cases hr
   ·rename_i hu; exact .len h hx hu
   ·rename_i hu; exact .lenT h hx hu
   ·exact .bad
  ·cases hr
 ·split at hr
  ·rename_i h1
   have e1 := Bi7 h1
   subst e1
   simp only [lA3] at hr
   obtain ⟨x', hx, y', hy, e⟩ := hr
   cases e
   exact .maxi h hx hy
  ·cases hr; exact .bad
 ·split at hr
  ·rename_i h1
   have e1 := Bi7 h1
   subst e1
   simp only [lA3] at hr
   obtain ⟨x', hx, y', hy, e⟩ := hr
   cases e
   exact .mini h hx hy
  ·cases hr; exact .bad
 ·split at hr
  ·rename_i h1 h2
   have e1 := Bi6 h1
   have e2 := Bi6 h2
   subst e1 e2
   simp only [lA3] at hr
   obtain ⟨x', hx, hr⟩ := hr
   split at hr <;> cases hr
   ·rename_i hu; exact .cap h hx hu
   ·exact .bad
  ·cases hr
 ·split at hr
  ·rename_i h1 h2
   have e1 := Bi7 h1
   have e2 := Bi7 h2
   subst e1 e2
   split at hr
   ·rename_i hu
    simp only [lA3] at hr
    obtain ⟨sz, hs, x', hx, y', hy, e⟩ := hr
    cases e
    exact .copyO h hx hy hu hs
   ·cases hr; exact .bad
  ·cases hr
 ·split at hr
  ·rename_i h1 h2
   have e1 := Bi6 h1
   have e2 := Bi6 h2
   subst e1 e2
   split at hr
   ·rename_i hu
    simp only [lA3] at hr
    obtain ⟨z, hz, x', hx, e⟩ := hr
    split at e
    ·rename_i hzc
     split at e
     ·rename_i dZ
      cases e
      exact .clearS h hx hu (lA3.2 hz) hzc dZ
     ·cases e; exact .bad
    ·cases e; exact .bad
   ·cases hr; exact .bad
  ·cases hr
 ·split at hr
  ·rename_i h1 h2
   have e1 := Bi7 h1
   have e2 := Bi7 h2
   subst e1 e2
   split at hr
   ·rename_i et
    subst et
    split at hr
    ·rename_i hu
     simp only [lA3] at hr
     obtain ⟨i, hi, z, hz, x', hx, y', hy, hr⟩ := hr
     split at hr
     ·rename_i hc
      cases hr
      exact .append h hx hy hu hi hz hc.1 hc.2
     ·cases hr
    ·cases hr
   ·split at hr
    ·rename_i hu'
     split at hr
     ·rename_i hu
      simp only [lA3] at hr
      obtain ⟨i, hi, z, hz, x', hx, y', hy, hr⟩ := hr
      split at hr
      ·rename_i hc
       cases hr
       exact .appendZ h hx hy hu hu' hi hz hc.1 hc.2
      ·cases hr
     ·cases hr
    ·cases hr; exact .bad
  ·cases hr
 ·cases hr; exact .bad
def Aw5 (P : Program) (o : Oper) : Option ROp :=
 match o.op with
 | .move x => (cA x).bind fun x' => some (.mv x')
 | .assign x => (cA x).bind fun x' => some (.mv x')
 | .pick c a b => (cA c).bind fun c' => (cA a).bind fun a' => (cA b).bind fun b' => some (.pick c' a' b')
 | .binOp op t x y _ => Dm1 P o op t x y
 | .unOp .not _ x => (cA x).bind fun x' => some (.notb x')
 | .convert src dst x => (cA x).bind fun x' => match P.underlying src, P.underlying dst with
  | some _, some (.int k) => some (.conv k x')
  | _, _ => some .bad
 | .fieldAddr s x f => Ae7 P s x f
 | .indexAddr t x i => Ae9 P t x i
 | .nilCheck x => (cA x).bind fun x' => some (.nilck x')
 | .extract x k => (cA x).bind fun x' => some (.extract k x')
 | .field s x f => Ae8 P s x f
 | .load t x => Aw3 P t x
 | .store t x v => (cA x).bind fun x' => (cA v).bind fun v' => (szP P t).bind fun sz => some (.store sz x' v')
 | .box T x => (cA x).bind fun x' => some (.box T x')
 | .alloc T => (Aw2 P T).bind fun z => some (.alloc T z.cells.toList)
 | .build t parts => Af0 P t parts
 | .buildSlice t n parts => Sp P t n parts
 | .makeFunc (.func f) first caps => (cAs first.toList).bind fun fs => (cAs caps.toList).bind fun cs => some (.mkfn f fs cs)
 | .makeSlice t x y => Wr P t x y
 | .slice t x lo hi mx => Af1 P t x lo hi mx
 | .call c => Aw4 P o c
 | .index t x i => Dm2 P t x i
 | _ => some .bad
theorem comp_ok {o : Oper} {r : ROp} (h : Aw5 P o = some r) : Cmp P o r := by
 unfold Aw5 at h
 split at h
 ·rename_i x hop; simp only [lA3] at h; obtain ⟨x', hx, e⟩ := h; cases e; exact .mv (.inl hop) hx
 ·rename_i x hop; simp only [lA3] at h; obtain ⟨x', hx, e⟩ := h; cases e; exact .mv (.inr hop) hx
 ·rename_i hop; simp only [lA3] at h; obtain ⟨c', hc, a', ha, b', hb, e⟩ := h; cases e; exact .pick hop hc ha hb
 ·rename_i hop; exact cBin_ok hop h
 ·rename_i hop; simp only [lA3] at h; obtain ⟨x', hx, e⟩ := h; cases e; exact .notb hop hx
 ·rename_i hop
  simp only [lA3] at h
  obtain ⟨x', hx, h⟩ := h
  split at h
  ·rename_i h1 h2; cases h; exact .conv hop hx h1 h2
  ·cases h; exact .bad
 ·rename_i hop; exact cFaddr_ok hop h
 ·rename_i hop; exact cIaddr_ok hop h
 ·rename_i hop; simp only [lA3] at h; obtain ⟨x', hx, e⟩ := h; cases e; exact .nilck hop hx
 ·rename_i hop; simp only [lA3] at h; obtain ⟨x', hx, e⟩ := h; cases e; exact .extract hop hx
 ·rename_i hop; exact cField_ok hop h
 ·rename_i hop; exact cLoad_ok hop h
 ·rename_i hop; simp only [lA3] at h; obtain ⟨x', hx, v', hv, sz, hs, e⟩ := h; cases e; exact .store hop hx hv hs
 ·rename_i hop; simp only [lA3] at h; obtain ⟨x', hx, e⟩ := h; cases e; exact .box hop hx
 ·rename_i hop; simp only [lA3] at h; obtain ⟨z, hz, e⟩ := h; cases e; exact .alloc hop hz
 ·rename_i hop; exact cBuild_ok hop h
 ·rename_i hop; exact cBuildSl_ok hop h
 ·rename_i hop; simp only [lA3] at h; obtain ⟨fs, hf, cs, hc, e⟩ := h; cases e; exact .mkfn hop hf hc
 ·rename_i hop; exact cMakeSl_ok hop h
 ·rename_i hop; exact cSlice_ok hop h
 ·rename_i hop; exact cCall_ok hop h
 ·rename_i hop; exact cIdx_ok hop h
 ·cases h; exact .bad
end Go.EV
