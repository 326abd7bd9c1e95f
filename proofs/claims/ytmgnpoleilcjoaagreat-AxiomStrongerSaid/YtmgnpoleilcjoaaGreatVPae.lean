/- The plain law of executions: which there are. An execution's outcome; a copy of an execution. A copy of an execution. All executions that may be. The events of a program that is fit; how many executions it has. The plain law of executions: the events of a program that is fit; how many outcomes there may be. slices.Compare of rows of numbers. The outcomes of all executions: which list it is. The list of a program's outcomes, reckoned. The calculus EV, part 21: a contract is exact in its worlds; a sort by the kit, as a contract. The calculus EV, part 22: slices.SortFunc by the kit, as a contract. slices.SortFunc of rows of numbers. slices.CompactFunc of rows of numbers. axiom.distinct: rows sorted, each once. The outcomes of all executions. Small functions of the laws: lists that are compared; the storing buffers. Small functions of the laws: lists in order, looked up; copies. The reference: Own, with what is owned. From a contract to a statement. What comes in, as it is read. Programs and lists that come in. -/
import Derived.Test.YtmgnpoleilcjoaaGreatVPad
import Derived.Test.YtmgnpoleilcjoaaGreatVPac
import Derived.Shelf.GgSortFunc.Insertion
import Derived.Shelf.SlSortCmp.NoneTotal
import Derived.Shelf.SlGeneric
import Derived.Ground.SlsfProg
import Derived.WalkKit
import Derived.ProofKit
import Derived.OpenShut
import Derived.ChangeStays
import Derived.ChangeBears
import Derived.HandedShaped
import Derived.Test.YtmgnpoleilcjoaaGreatRows
set_option maxRecDepth 8000
set_option linter.unusedSimpArgs false
set_option linter.unusedVariables false
set_option linter.unusedSectionVars false
namespace Go.EV
open Go.Proofs

/-! ### Picked numbers -/
theorem pickI_asc (n : Nat) (f : Nat → Bool) : (pickI n f).Pairwise (· < ·) := by
 unfold pickI
 rw [List.pairwise_map]
 refine List.Pairwise.imp (R := fun a b : Nat => a < b) (fun h => by omega) ?_
 exact List.Pairwise.filter _ List.pairwise_lt_range

theorem asc_num {l : List Int} (h : l.Pairwise (· < ·)) {i j : Nat} (hi : i < l.length) (hj : j < l.length) (e : numAt l i = numAt l j) : i = j := by
 have hp := List.pairwise_iff_getElem.1 h
 simp only [numAt, List.getElem?_eq_getElem hi, List.getElem?_eq_getElem hj, Option.getD_some] at e
 rcases Nat.lt_trichotomy i j with h1 | h1 | h1
 ·have := hp i j hi hj h1; omega
 ·exact h1
 ·have := hp j i hj hi h1; omega

theorem numAt_eq {l : List Int} {i : Nat} (hi : i < l.length) : numAt l i = l[i] := by simp [numAt, hi]
theorem mem_numAt {l : List Int} {x : Int} : x ∈ l ↔ ∃ i, i < l.length ∧ numAt l i = x := by
 constructor
 ·intro h
  obtain ⟨i, hi, rfl⟩ := List.getElem_of_mem h
  exact ⟨i, hi, numAt_eq hi⟩
 ·rintro ⟨i, hi, rfl⟩
  rw [numAt_eq hi]; exact List.getElem_mem hi

/-! ### Which events write -/
def dnAt (e : List Bool) (i : Nat) : Bool := e[i]?.getD false

theorem doneB_get (p : List Ev) (i : Nat) (hi : i < p.length) : ∀ m, m ≤ p.length → dnAt (doneB p m) i = (decide (i < m) && (decide ((evAt p i).op.kind = 1) || decide ((evAt p i).op.kind = 2)))
 | 0, _ => by simp [doneB, dnAt, hi]
 | m + 1, hm => by
  have ih := doneB_get p i hi m (by omega)
  unfold dnAt at ih ⊢
  rw [doneB, getD_set (by rw [doneB_len]; omega), ih]
  by_cases h : i = m
  ·subst h; simp
  ·have : decide (i < m + 1) = decide (i < m) := by rw [decide_eq_decide]; omega
   rw [if_neg h, this]

theorem mem_freeP {p : List Ev} {i : Nat} : (i : Int) ∈ freeP p ↔ i < p.length ∧ ((evAt p i).op.kind = 3 ∨ (evAt p i).op.kind = 4) := by
 rw [freeP, mem_pickI]
 constructor
 ·rintro ⟨j, h1, h2, h3⟩
  have : j = i := by omega
  subst this
  exact ⟨h1, by simpa using h2⟩
 ·rintro ⟨h1, h2⟩; exact ⟨i, h1, by simpa using h2, rfl⟩

theorem doneK_get (p : List Ev) (set i : Nat) (hi : i < p.length) : ∀ k, k ≤ (freeP p).length →
  (∀ j, j < k → numAt (freeP p) j = i → dnAt (doneK p set k) i = set.testBit j) ∧ ((∀ j, j < k → numAt (freeP p) j ≠ i) → dnAt (doneK p set k) i = (decide ((evAt p i).op.kind = 1) || decide ((evAt p i).op.kind = 2)))
 | 0, _ => ⟨fun j hj => by omega, fun _ => by rw [doneK, doneB_get p i hi _ (Nat.le_refl _)]; simp [hi]⟩
 | k + 1, hk => by
  obtain ⟨h1, h2⟩ := doneK_get p set i hi k (by omega)
  have hin : (numAt (freeP p) k) ∈ freeP p := mem_numAt.2 ⟨k, by omega, rfl⟩
  obtain ⟨w, hw1, _, hw2⟩ := mem_pickI.1 hin
  have hlen : (numAt (freeP p) k).toNat < (doneK p set k).length := by rw [doneK_len]; omega
  unfold dnAt at h1 h2 ⊢
  rw [doneK, getD_set hlen]
  constructor
  ·intro j hj he
   by_cases hjk : j = k
   ·subst hjk; rw [if_pos (by omega)]
   ·have hne : numAt (freeP p) j ≠ numAt (freeP p) k := fun e => hjk (asc_num (pickI_asc _ _) (show j < (freeP p).length by omega) (show k < (freeP p).length by omega) e)
    rw [if_neg (by omega)]
    exact h1 j (by omega) he
  ·intro hn
   have := hn k (by omega)
   rw [if_neg (by omega)]
   exact h2 fun j hj => hn j (by omega)

/-- Bits in a number. -/
def bitsN (f : Nat → Bool) : Nat → Nat
 | 0 => 0
 | k + 1 => bitsN f k ||| (if f k then 2 ^ k else 0)
theorem bitsN_lt (f : Nat → Bool) : ∀ k, bitsN f k < 2 ^ k
 | 0 => by simp [bitsN]
 | k + 1 => by
  have := bitsN_lt f k
  rw [bitsN]
  refine Nat.or_lt_two_pow (by rw [Nat.pow_succ]; omega) ?_
  split
  ·rw [Nat.pow_succ]; have := Nat.two_pow_pos k; omega
  ·exact Nat.two_pow_pos _
theorem bitsN_get (f : Nat → Bool) (j : Nat) : ∀ k, (bitsN f k).testBit j = (decide (j < k) && f j)
 | 0 => by simp [bitsN]
 | k + 1 => by
  rw [bitsN, Nat.testBit_or, bitsN_get f j k]
  by_cases h : j = k
  ·subst h
   cases f j <;> simp
  ·have h2 : decide (j < k + 1) = decide (j < k) := by rw [decide_eq_decide]; omega
   rw [h2]
   have h3 : (if f k then 2 ^ k else 0).testBit j = false := by
    split
    ·rw [Nat.testBit_two_pow]; simp; omega
    ·simp
   rw [h3, Bool.or_false]

theorem dnAt_ext {a b : List Bool} (hl : a.length = b.length) (h : ∀ i, i < a.length → dnAt a i = dnAt b i) : a = b := by
 refine List.ext_getElem hl fun i h1 h2 => ?_
 have := h i h1
 simpa [dnAt, h1, h2] using this

theorem mem_donesP {p : List Ev} {dn : List Bool} : dn ∈ donesP p ↔ dn.length = p.length ∧ ∀ i, i < p.length →
  (((evAt p i).op.kind = 1 ∨ (evAt p i).op.kind = 2) → dnAt dn i = true) ∧ (dnAt dn i = true → 1 ≤ (evAt p i).op.kind ∧ (evAt p i).op.kind ≤ 4) := by
 have hval : ∀ (set i : Nat), i < p.length → (∀ j, j < (freeP p).length → numAt (freeP p) j = i → dnAt (doneOf p set) i = set.testBit j) ∧ ((evAt p i).op.kind ≠ 3 → (evAt p i).op.kind ≠ 4 → dnAt (doneOf p set) i = (decide ((evAt p i).op.kind = 1) || decide ((evAt p i).op.kind = 2))) := by
  intro set i hi
  obtain ⟨h1, h2⟩ := doneK_get p set i hi _ (Nat.le_refl _)
  refine ⟨h1, fun k3 k4 => h2 fun j hj he => ?_⟩
  have : (i : Int) ∈ freeP p := mem_numAt.2 ⟨j, hj, he⟩
  rcases (mem_freeP.1 this).2 with h | h
  ·exact k3 h
  ·exact k4 h
 constructor
 ·intro h
  obtain ⟨set, hs, rfl⟩ := List.mem_map.1 h
  refine ⟨doneOf_len p set, fun i hi => ?_⟩
  obtain ⟨h1, h2⟩ := hval set i hi
  constructor
  ·rintro (hk | hk)
   ·rw [h2 (by omega) (by omega)]; simp [hk]
   ·rw [h2 (by omega) (by omega)]; simp [hk]
  ·intro hd
   by_cases k3 : (evAt p i).op.kind = 3
   ·omega
   ·by_cases k4 : (evAt p i).op.kind = 4
    ·omega
    ·rw [h2 k3 k4] at hd
     simp only [Bool.or_eq_true, decide_eq_true_eq] at hd
     omega
 ·rintro ⟨hl, h⟩
  refine List.mem_map.2 ⟨bitsN (fun j => dnAt dn (numAt (freeP p) j).toNat) (freeP p).length, List.mem_range.2 (bitsN_lt _ _), ?_⟩
  refine dnAt_ext (by rw [doneOf_len, hl]) fun i hi => ?_
  rw [doneOf_len] at hi
  obtain ⟨h1, h2⟩ := hval (bitsN (fun j => dnAt dn (numAt (freeP p) j).toNat) (freeP p).length) i hi
  by_cases hf : (i : Int) ∈ freeP p
  ·obtain ⟨j, hj, he⟩ := mem_numAt.1 hf
   rw [h1 j hj he, bitsN_get]
   simp [hj, he]
  ·have h34 : (evAt p i).op.kind ≠ 3 ∧ (evAt p i).op.kind ≠ 4 := ⟨fun e => hf (mem_freeP.2 ⟨hi, .inl e⟩), fun e => hf (mem_freeP.2 ⟨hi, .inr e⟩)⟩
   rw [h2 h34.1 h34.2]
   have := h i hi
   cases hd : dnAt dn i with
   | true =>
    have := this.2 hd
    simp only [Bool.or_eq_true, decide_eq_true_eq]; omega
   | false =>
    simp only [Bool.or_eq_false_iff, decide_eq_false_iff_not]
    refine ⟨fun e => ?_, fun e => ?_⟩
    ·rw [this.1 (.inl e)] at hd; cases hd
    ·rw [this.1 (.inr e)] at hd; cases hd

/-! ### Orders that keep each thread's -/
/-- Each thread's events stand in their order. -/
def Keeps (p : List Ev) (m : List Int) : Prop := m.Pairwise fun x y => thI p x = thI p y → x < y

theorem perm_pick {l : List Int} {i : Nat} (hi : i < l.length) : l.Perm (l[i] :: l.eraseIdx i) := by
 have h2 : l = l.take i ++ l[i] :: l.drop (i + 1) := by rw [List.getElem_cons_drop, List.take_append_drop]
 rw [List.eraseIdx_eq_take_drop_succ]
 conv => lhs; rw [h2]
 exact List.perm_middle

theorem mem_mergesN {p : List Ev} : ∀ (n : Nat) (l m : List Int), l.length = n → l.Pairwise (· < ·) → (m ∈ mergesN p n l ↔ m.Perm l ∧ Keeps p m)
 | 0, l, m, hl, _ => by
  have : l = [] := List.length_eq_zero_iff.1 hl
  subst this
  simp only [mergesN, List.mem_singleton, List.perm_nil]
  constructor
  ·rintro rfl; exact ⟨rfl, List.Pairwise.nil⟩
  ·exact fun h => h.1
 | n + 1, l, m, hl, ha => by
  have hp := List.pairwise_iff_getElem.1 ha
  simp only [mergesN, List.mem_flatMap, List.mem_range]
  constructor
  ·rintro ⟨i, hi, hm⟩
   have hil : i < l.length := by omega
   split at hm
   ·exact absurd hm List.not_mem_nil
   ·rename_i hb
    obtain ⟨m', hm', rfl⟩ := List.mem_map.1 hm
    obtain ⟨h1, h2⟩ := (mem_mergesN n (l.eraseIdx i) m' (by rw [List.length_eraseIdx_of_lt hil]; omega) (ha.sublist (List.eraseIdx_sublist ..))).1 hm'
    rw [numAt_eq hil]
    refine ⟨(List.Perm.cons _ h1).trans (perm_pick hil).symm, List.pairwise_cons.2 ⟨fun y hy hth => ?_, h2⟩⟩
    have hy2 : y ∈ l.eraseIdx i := h1.mem_iff.1 hy
    rw [List.eraseIdx_eq_take_drop_succ, List.mem_append] at hy2
    rcases hy2 with hy2 | hy2
    ·exfalso
     apply hb
     rw [blockedAt, List.any_eq_true]
     exact ⟨y, hy2, by rw [numAt_eq hil, decide_eq_true_eq]; exact hth.symm⟩
    ·obtain ⟨j, hj, rfl⟩ := List.getElem_of_mem hy2
     rw [List.getElem_drop]
     exact hp i _ hil _ (by omega)
  ·rintro ⟨h1, h2⟩
   rcases m with _ | ⟨x, m'⟩
   ·have := h1.length_eq; simp at this; omega
   ·have hx : x ∈ l := h1.mem_iff.1 (List.mem_cons_self ..)
    obtain ⟨i, hi, rfl⟩ := List.getElem_of_mem hx
    obtain ⟨h3, h4⟩ := List.pairwise_cons.1 h2
    have h5 : m'.Perm (l.eraseIdx i) := (h1.trans (perm_pick hi)).cons_inv
    refine ⟨i, by omega, ?_⟩
    rw [if_neg ?_]
    ·rw [numAt_eq hi]
     exact List.mem_map.2 ⟨m', (mem_mergesN n (l.eraseIdx i) m' (by rw [List.length_eraseIdx_of_lt hi]; omega) (ha.sublist (List.eraseIdx_sublist ..))).2 ⟨h5, h4⟩, rfl⟩
    ·intro hb
     rw [blockedAt, List.any_eq_true] at hb
     obtain ⟨z, hz, hth⟩ := hb
     rw [numAt_eq hi, decide_eq_true_eq] at hth
     have hzm : z ∈ m' := h5.mem_iff.2 (by rw [List.eraseIdx_eq_take_drop_succ, List.mem_append]; exact .inl hz)
     have := h3 z hzm hth.symm
     obtain ⟨j, hj, rfl⟩ := List.getElem_of_mem hz
     rw [List.length_take] at hj
     rw [List.getElem_take] at this
     have := hp j i (by omega) hi (by omega)
     omega

theorem mem_mergesP {p : List Ev} {l m : List Int} (ha : l.Pairwise (· < ·)) : m ∈ mergesP p l ↔ m.Perm l ∧ Keeps p m := mem_mergesN _ l m rfl ha

theorem writers_asc (p : List Ev) (dn : List Bool) (loc : Int) : (writersI p dn loc).Pairwise (· < ·) := pickI_asc _ _
theorem fences_asc (p : List Ev) : (fencesI p).Pairwise (· < ·) := pickI_asc _ _

theorem mem_ordersN {p : List Ev} {dn : List Bool} : ∀ (k : Nat) (loc : Int) (x : List (List Int)), x ∈ ordersN p dn k loc ↔ x.length = k ∧ ∀ j, j < k → (x[j]?.getD []) ∈ mergesP p (writersI p dn (loc + j))
 | 0, loc, x => by
  simp only [ordersN, List.mem_singleton]
  constructor
  ·rintro rfl; exact ⟨rfl, fun j hj => by omega⟩
  ·rintro ⟨h, _⟩; exact List.length_eq_zero_iff.1 h
 | k + 1, loc, x => by
  simp only [ordersN, List.mem_flatMap, List.mem_map]
  constructor
  ·rintro ⟨l, hl, y, hy, rfl⟩
   obtain ⟨h1, h2⟩ := (mem_ordersN k (loc + 1) y).1 hy
   refine ⟨by simp [h1], fun j hj => ?_⟩
   cases j with
   | zero => simpa using hl
   | succ j =>
    have := h2 j (by omega)
    simpa [Int.add_assoc, Int.add_comm 1] using this
  ·rintro ⟨h1, h2⟩
   rcases x with _ | ⟨l, y⟩
   ·simp at h1
   ·refine ⟨l, by simpa using h2 0 (by omega), y, (mem_ordersN k (loc + 1) y).2 ⟨by simpa using h1, fun j hj => ?_⟩, rfl⟩
    have := h2 (j + 1) (by omega)
    simpa [Int.add_assoc, Int.add_comm 1] using this

theorem mem_fromsN {p : List Ev} {dn : List Bool} {ord : List (List Int)} : ∀ (k i : Nat) (x : List Int), x ∈ fromsN p dn ord k i ↔ x.length = k ∧ ∀ j, j < k → numF x j ∈ choicesP p dn ord (i + j)
 | 0, i, x => by
  simp only [fromsN, List.mem_singleton]
  constructor
  ·rintro rfl; exact ⟨rfl, fun j hj => by omega⟩
  ·rintro ⟨h, _⟩; exact List.length_eq_zero_iff.1 h
 | k + 1, i, x => by
  simp only [fromsN, List.mem_flatMap, List.mem_map]
  constructor
  ·rintro ⟨w, hw, y, hy, rfl⟩
   obtain ⟨h1, h2⟩ := (mem_fromsN k (i + 1) y).1 hy
   refine ⟨by simp [h1], fun j hj => ?_⟩
   cases j with
   | zero => simpa [numF] using hw
   | succ j =>
    have := h2 j (by omega)
    simpa [numF, Nat.add_assoc, Nat.add_comm 1] using this
  ·rintro ⟨h1, h2⟩
   rcases x with _ | ⟨w, y⟩
   ·simp at h1
   ·refine ⟨w, by simpa [numF] using h2 0 (by omega), y, (mem_fromsN k (i + 1) y).2 ⟨by simpa using h1, fun j hj => ?_⟩, rfl⟩
    have := h2 (j + 1) (by omega)
    simpa [numF, Nat.add_assoc, Nat.add_comm 1] using this

/-! ### What fits -/
/-- The parts of an execution fit, as far as no word is asked. -/
structure Shape (p : List Ev) (e : Exec) : Prop where
 fl : e.frm.length = p.length
 dl : e.dn.length = p.length
 ol : e.ord.length = 3
 dn1 : ∀ i, i < p.length → ((evAt p i).op.kind = 1 ∨ (evAt p i).op.kind = 2) → dnAt e.dn i = true
 dn0 : ∀ i, i < p.length → dnAt e.dn i = true → 1 ≤ (evAt p i).op.kind ∧ (evAt p i).op.kind ≤ 4
 out : ∀ i, i < p.length → (evAt p i).reads = false → frmAt e i = -2
 src : ∀ i, i < p.length → (evAt p i).reads = true → frmAt e i = -1 ∨ ∃ w : Nat, frmAt e i = w ∧ w < p.length ∧ dnAt e.dn w = true ∧ (evAt p w).op.loc = (evAt p i).op.loc
 ord : ∀ k : Nat, k < 3 → (e.ord[k]?.getD []).Perm (writersI p e.dn k)
 fen : e.fen.Perm (fencesI p)

/-- The events that write are those that the words allow. -/
def Worded (p : List Ev) (e : Exec) : Prop := ∀ i, i < p.length →
 ((evAt p i).op.kind = 3 → (dnAt e.dn i = true ↔ (wordsP p e.frm).R i = (evAt p i).op.v)) ∧ ((evAt p i).op.kind = 4 → dnAt e.dn i = true → (wordsP p e.frm).R i = (evAt p i).op.v)

theorem mem_writersI {p : List Ev} {dn : List Bool} {k : Int} {x : Int} : x ∈ writersI p dn k ↔ ∃ i : Nat, x = i ∧ i < p.length ∧ (evAt p i).op.kind ≠ 5 ∧ dnAt dn i = true ∧ (evAt p i).op.loc = k := by
 rw [writersI, mem_pickI]
 simp only [Bool.and_eq_true, decide_eq_true_eq, dnAt]
 constructor
 ·rintro ⟨i, h1, ⟨⟨h2, h3⟩, h4⟩, h5⟩; exact ⟨i, h5, h1, h2, h3, h4⟩
 ·rintro ⟨i, h5, h1, h2, h3, h4⟩; exact ⟨i, h1, ⟨⟨h2, h3⟩, h4⟩, h5⟩

theorem Shape.xok {p : List Ev} {e : Exec} (h : Shape p e) (hn : e.fen = [] ∨ True) : XOk p e := by
 have hordl : ∀ l ∈ e.ord, InEv p l ∧ l.length ≤ p.length := by
  intro l hl
  obtain ⟨k, hk, rfl⟩ := List.getElem_of_mem hl
  have := h.ord k (by rw [← h.ol]; exact hk)
  rw [List.getElem?_eq_getElem hk, Option.getD_some] at this
  exact ⟨(writers_in p e.dn _).perm this, by rw [this.length_eq]; exact pickI_len _ _⟩
 refine ⟨h.fl, h.dl, h.ol, fun i hi => ?_, hordl, (fences_in p).perm h.fen, by rw [h.fen.length_eq]; exact pickI_len _ _⟩
 cases hr : (evAt p i).reads with
 | false =>
  have := h.out i hi hr
  unfold frmAt at this
  exact ⟨by omega, fun h => by cases h⟩
 | true =>
  rcases h.src i hi hr with h1 | ⟨w, h1, h2, _⟩
  ·unfold frmAt at h1; exact ⟨by omega, fun _ => by omega⟩
  ·unfold frmAt at h1; exact ⟨by omega, fun _ => by omega⟩

theorem Shape.fromOk {p : List Ev} {e : Exec} (h : Shape p e) : FromOk p e.frm := (h.xok (.inr trivial)).fromOk
theorem Shape.srcOk {p : List Ev} {e : Exec} (h : Shape p e) : SrcOk p e.frm := fun i w hi hr hw => by
 rcases h.src i hi hr with h1 | ⟨w', h1, h2, h3, _⟩
 ·unfold frmAt at h1; unfold numF at hw; omega
 ·have : w' = w := by unfold frmAt at h1; unfold numF at hw; omega
  subst this
  exact ⟨h2, h.dn0 w' h2 h3⟩

theorem Shape.words {p : List Ev} {e : Exec} (h : Shape p e) (hac : RfOk p e) : Words p e.frm (wordsP p e.frm).R (wordsP p e.frm).W := words_ok h.fromOk h.srcOk hac

/-! ### Without an order of the fences -/
theorem hb_less {p : List Ev} {e : Exec} {a b : Nat} (h : Hb p ⟨e.frm, e.dn, e.ord, []⟩ a b) : Hb p e a b := by
 refine TG.mono h fun x y hxy => ?_
 rcases hxy with hxy | ⟨j, hj, _⟩ | ⟨r, w, v, h1, h2, h3, h4, h5, h6⟩
 ·exact .inl hxy
 ·simp at hj
 ·refine .inr (.inr ⟨r, w, v, h1, h2, h3, ?_, h5, h6⟩)
  have key : ∀ {w v : Nat}, Back p ⟨e.frm, e.dn, e.ord, []⟩ w v → Back p e w v := by
   intro w v h
   induction h with
   | here => exact .here
   | on h _ ih => exact .on h ih
  exact key h4

theorem Cons.less {p : List Ev} {e : Exec} (h : Cons p e) : Cons p ⟨e.frm, e.dn, e.ord, []⟩ := by
 refine ⟨fun ⟨a, ha⟩ => h.round ⟨a, ha.mono fun x y hxy => ?_⟩, fun hc => h.cross ?_, h.next⟩
 ·rcases hxy with hxy | ⟨j, hj, _⟩ | hxy
  ·exact .inl hxy
  ·simp at hj
  ·exact .inr (.inr hxy)
 ·rcases hc with ⟨a, ha⟩ | ⟨a, b, h1, h2⟩
  ·exact .inl ⟨a, hb_less ha⟩
  ·refine .inr ⟨a, b, hb_less h1, TG.mono h2 fun x y hxy => ?_⟩
   exact hxy

theorem wordBad_iff {p : List Ev} {e : Exec} : (List.range p.length).any (wordBad p e) = false ↔ Worded p e := by
 unfold Worded
 rw [List.any_eq_false]
 simp only [List.mem_range]
 refine forall_congr' fun i => forall_congr' fun hi => ?_
 unfold wordBad
 show ¬ ((decide ((evAt p i).op.kind = 3) && xor (dnAt e.dn i) (decide ((wordsP p e.frm).R i = (evAt p i).op.v))) || (decide ((evAt p i).op.kind = 4) && (dnAt e.dn i) && decide ((wordsP p e.frm).R i ≠ (evAt p i).op.v))) = true ↔ _
 cases hd : dnAt e.dn i <;> by_cases hv : (wordsP p e.frm).R i = (evAt p i).op.v <;> by_cases h3 : (evAt p i).op.kind = 3 <;> by_cases h4 : (evAt p i).op.kind = 4 <;> simp [hv, h3, h4]

/-! ### All executions -/
theorem find_at {l : List Int} (hn : l.Nodup) {x : Int} {j : Nat} (hj : j < l.length) (e : l[j] = x) : l.findIdx (fun y => decide (x = y)) = j := by
 refine (List.findIdx_eq hj).2 ⟨by simp [e], fun k hk => ?_⟩
 rw [decide_eq_false_iff_not]
 intro h
 have := (List.pairwise_iff_getElem.1 (List.nodup_iff_pairwise_ne.1 hn)) k j (by omega) hj hk
 exact this (by rw [e, ← h])

theorem frontOf_at {l : List Int} (hn : l.Nodup) (hpos : ∀ x ∈ l, 0 ≤ x) {i j : Nat} (hj : j < l.length) (e : l[j] = i) : frontOf (-1 :: l) i = frontAt l j := by
 unfold frontOf
 have : (-1 :: l : List Int).findIdx (fun y => decide ((i : Int) = y)) = j + 1 := by
  refine find_at (x := (i : Int)) (List.nodup_cons.2 ⟨fun h => by have := hpos _ h; omega, hn⟩) (by simp; omega) (by simpa using e)
 rw [this, Nat.add_sub_cancel]
 cases j with
 | zero => rfl
 | succ j => simp [frontAt, numAt]

theorem asc_nodup {l : List Int} (h : l.Pairwise (· < ·)) : l.Nodup := by
 rw [List.nodup_iff_pairwise_ne]; exact h.imp fun h => by omega

theorem sb_hb {p : List Ev} (hm : Mono p) {e : Exec} : ∀ (d a : Nat), a + d + 1 < p.length → (evAt p a).th = (evAt p (a + d + 1)).th → Hb p e a (a + d + 1)
 | 0, a, h, ht => .one (.inl ⟨rfl, h, ht.symm⟩)
 | d + 1, a, h, ht => by
  have h1 := hm.between (a := a) (b := a + (d + 1) + 1) (x := a + d + 1) h (by omega) (by omega) ht
  exact (sb_hb hm d a (by omega) (by rw [h1]; exact ht)).trans (.one (.inl ⟨by omega, h, h1.symm⟩))

theorem sb_round {p : List Ev} (hm : Mono p) {e : Exec} : ∀ (d a : Nat), a + d + 1 < p.length → (evAt p a).th = (evAt p (a + d + 1)).th → TG (fun a b => Sb1 p a b ∨ Fo1 e.fen a b ∨ Rf e p.length a b) a (a + d + 1)
 | 0, a, h, ht => .one (.inl ⟨rfl, h, ht.symm⟩)
 | d + 1, a, h, ht => by
  have h1 := hm.between (a := a) (b := a + (d + 1) + 1) (x := a + d + 1) h (by omega) (by omega) ht
  exact (sb_round hm d a (by omega) (by rw [h1]; exact ht)).trans (.one (.inl ⟨by omega, h, h1.symm⟩))

theorem fo_round {p : List Ev} {e : Exec} : ∀ (d j a b : Nat), j + d + 1 < e.fen.length → (∀ k, k < e.fen.length → 0 ≤ numAt e.fen k) → numAt e.fen j = a → numAt e.fen (j + d + 1) = b → TG (fun a b => Sb1 p a b ∨ Fo1 e.fen a b ∨ Rf e p.length a b) a b
 | 0, j, a, b, h, _, ha, hb => .one (.inr (.inl ⟨j, h, ha, hb⟩))
 | d + 1, j, a, b, h, hp, ha, hb => by
  have h1 := hp (j + d + 1) (by omega)
  obtain ⟨c, hc⟩ : ∃ c : Nat, numAt e.fen (j + d + 1) = c := ⟨(numAt e.fen (j + d + 1)).toNat, by omega⟩
  exact (fo_round d j a c (by omega) hp ha hc).trans (.one (.inr (.inl ⟨j + d + 1, by omega, hc, by rw [← hb]; congr 1⟩)))

theorem exec_iff {p : List Ev} (hp : POk p) (hm : Mono p) {e : Exec} : e ∈ execsP p ↔ Shape p e ∧ Worded p e ∧ Cons p e := by
 constructor
 ·intro h
  have h0 := h
  simp only [execsP, execsD, execsO, List.mem_flatMap] at h
  obtain ⟨dn, hd, ord, ho, frm, hf, h⟩ := h
  unfold execsF at h
  split at h
  ·rename_i hpos
   obtain ⟨h, hb⟩ := List.mem_filter.1 h
   obtain ⟨fen, hn, rfl⟩ := List.mem_map.1 h
   have hx := exec_ok hp hd ho hf (merges_fen hn)
   obtain ⟨d1, d2⟩ := mem_donesP.1 hd
   obtain ⟨o1, o2⟩ := (mem_ordersN 3 0 ord).1 ho
   obtain ⟨f1, f2⟩ := (mem_fromsN _ _ frm).1 hf
   have hord : ∀ k : Nat, k < 3 → (ord[k]?.getD []).Perm (writersI p dn k) := fun k hk => by
    have := mergesP_perm (o2 k hk)
    rwa [Int.zero_add] at this
   unfold possibleP at hpos
   simp only [Bool.and_eq_true, Bool.not_eq_true', decide_eq_true_eq] at hpos hb
   have hw : Worded p ⟨frm, dn, ord, []⟩ := wordBad_iff.1 hpos.1
   have hc := (brokenP_zero hp hm hx).1 hb
   refine ⟨⟨f1, d1, o1, fun i hi => (d2 i hi).1, fun i hi => (d2 i hi).2, fun i hi hr => ?_, fun i hi hr => ?_, hord, mergesP_perm hn⟩, hw, hc⟩
   ·have := f2 i hi
    rw [Nat.zero_add, choicesP, if_pos hr, List.mem_singleton] at this
    exact this
   ·have h1 := f2 i hi
    rw [Nat.zero_add, choicesP, if_neg (by rw [hr]; simp)] at h1
    have hloc := hp.loc i hi
    have hsrc : ∀ x ∈ srcL p ord i, x = -1 ∨ ∃ w : Nat, x = w ∧ w < p.length ∧ dnAt dn w = true ∧ (evAt p w).op.loc = (evAt p i).op.loc := by
     intro x hx
     rcases List.mem_cons.1 hx with h | h
     ·exact .inl h
     ·have h3 := (hord (evAt p i).op.loc.toNat (by omega)).mem_iff.1 h
      obtain ⟨w, q1, q2, _, q3, q4⟩ := mem_writersI.1 h3
      exact .inr ⟨w, q1, q2, q3, by omega⟩
    split at h1
    ·rw [List.mem_singleton] at h1
     show numF frm i = -1 ∨ _
     show _ ∨ ∃ w : Nat, numF frm i = w ∧ _
     rw [h1]
     unfold frontOf numAt
     rcases hq : (srcL p ord i)[(srcL p ord i).findIdx (fun y => decide ((i : Int) = y)) - 1]? with _ | y
     · -- there is one
      exfalso
      have := List.getElem?_eq_none_iff.1 hq
      have h2 := List.findIdx_le_length (p := fun y => decide ((i : Int) = y)) (xs := srcL p ord i)
      have h3 : 0 < (srcL p ord i).length := by simp [srcL]
      have h4 : (srcL p ord i).findIdx (fun y => decide ((i : Int) = y)) ≠ 0 := by
       intro h0
       simp [srcL, List.findIdx_cons] at h0
      omega
     ·exact hsrc y (List.mem_of_getElem? hq)
    ·exact hsrc _ h1
  ·exact absurd h List.not_mem_nil
 ·rintro ⟨hs, hw, hc⟩
  have hx := hs.xok (.inr trivial)
  obtain ⟨frm, dn, ord, fen⟩ := e
  have hac : RfOk p ⟨frm, dn, ord, fen⟩ := Round.rfOk hc.round
  simp only [execsP, execsD, execsO, List.mem_flatMap]
  have hdn : dn ∈ donesP p := mem_donesP.2 ⟨hs.dl, fun i hi => ⟨hs.dn1 i hi, hs.dn0 i hi⟩⟩
  have hord : ∀ k : Nat, k < 3 → (ord[k]?.getD []).Perm (writersI p dn k) := hs.ord
  have hmem : ∀ k : Nat, k < 3 → (ord[k]?.getD []) ∈ ord := fun k hk => by
   have : k < ord.length := by have : ord.length = 3 := hs.ol; omega
   rw [List.getElem?_eq_getElem this, Option.getD_some]; exact List.getElem_mem _
  have hkeep : ∀ k : Nat, k < 3 → Keeps p (ord[k]?.getD []) := by
   intro k hk
   have hperm := hord k hk
   have hml := hmem k hk
   generalize ord[k]?.getD [] = l at hperm hml
   refine List.pairwise_iff_getElem.2 fun i j hi hj hij hth => ?_
   apply Decidable.byContradiction; intro hlt
   have mi := mem_writersI.1 (hperm.mem_iff.1 (List.getElem_mem hi))
   have mj := mem_writersI.1 (hperm.mem_iff.1 (List.getElem_mem hj))
   obtain ⟨a, ea, la, _⟩ := mi
   obtain ⟨b, eb, lb, _⟩ := mj
   have hne : a ≠ b := by
    intro e
    have hnd : l.Nodup := (hperm.nodup_iff).2 (asc_nodup (writers_asc p dn k))
    exact (List.pairwise_iff_getElem.1 (List.nodup_iff_pairwise_ne.1 hnd)) i j hi hj hij (by rw [ea, eb, e])
   rw [ea, eb] at hlt hth
   simp only [thI, Int.toNat_natCast] at hth
   have hba : b < a := by omega
   refine hc.cross (.inr ⟨b, a, ?_, .one (.inl ⟨l, hml, i, j, hij, hj, by rw [numAt_eq hi, ea], by rw [numAt_eq hj, eb]⟩)⟩)
   have := sb_hb hm (e := ⟨frm, dn, ord, fen⟩) (a - b - 1) b (by omega) (by rw [show b + (a - b - 1) + 1 = a by omega]; exact hth.symm)
   rwa [show b + (a - b - 1) + 1 = a by omega] at this
  have hordm : ord ∈ ordersP p dn := (mem_ordersN 3 0 ord).2 ⟨hs.ol, fun j hj => by
   rw [Int.zero_add]; exact (mem_mergesP (writers_asc _ _ _)).2 ⟨hord j hj, hkeep j hj⟩⟩
  have hfrm : frm ∈ fromsP p dn ord := by
   refine (mem_fromsN _ _ frm).2 ⟨hs.fl, fun i hi => ?_⟩
   rw [Nat.zero_add, choicesP]
   cases hr : (evAt p i).reads with
   | false => rw [if_pos rfl, List.mem_singleton]; exact hs.out i hi hr
   | true =>
    rw [if_neg (by simp)]
    have hloc := hp.loc i hi
    have hk3 : (evAt p i).op.loc.toNat < 3 := by omega
    have hperm := hord _ hk3
    have hml := hmem _ hk3
    split
    ·rename_i hd
     rw [List.mem_singleton]
     have hki := hs.dn0 i hi hd
     have hin : (i : Int) ∈ ord[(evAt p i).op.loc.toNat]?.getD [] := hperm.mem_iff.2 (mem_writersI.2 ⟨i, rfl, hi, by omega, hd, by omega⟩)
     obtain ⟨j, hj, hje⟩ := List.getElem_of_mem hin
     have hnx := hc.next _ hml j hj
     rw [numAt_eq hj, hje, Int.toNat_natCast] at hnx
     have := hnx hr
     show frmAt ⟨frm, dn, ord, fen⟩ i = _
     rw [this, srcL, frontOf_at ((hperm.nodup_iff).2 (asc_nodup (writers_asc _ _ _))) (fun x hx => by
      obtain ⟨w, hw, _⟩ := mem_writersI.1 (hperm.mem_iff.1 hx); omega) hj hje]
    ·rcases hs.src i hi hr with h | ⟨w, h1, h2, h3, h4⟩
     ·exact List.mem_cons.2 (.inl h)
     ·refine List.mem_cons.2 (.inr (hperm.mem_iff.2 (mem_writersI.2 ⟨w, h1, h2, ?_, h3, by omega⟩)))
      have := hs.dn0 w h2 h3; omega
  have hfk : Keeps p fen := by
   have hperm : fen.Perm (fencesI p) := hs.fen
   refine List.pairwise_iff_getElem.2 fun i j hi hj hij hth => ?_
   apply Decidable.byContradiction; intro hlt
   have hfin : InEv p fen := hx.fin.1
   have hin := fun k (hk : k < fen.length) => hfin.num hk
   have h1 := hin i hi
   have h2 := hin j hj
   obtain ⟨a, ea⟩ : ∃ a : Nat, numAt fen i = a := ⟨(numAt fen i).toNat, by omega⟩
   obtain ⟨b, eb⟩ : ∃ b : Nat, numAt fen j = b := ⟨(numAt fen j).toNat, by omega⟩
   rw [← numAt_eq hi, ← numAt_eq hj, ea, eb] at hlt hth
   simp only [thI, Int.toNat_natCast] at hth
   have hne : a ≠ b := by
    intro e
    have hnd : fen.Nodup := (hperm.nodup_iff).2 (asc_nodup (fences_asc p))
    exact (List.pairwise_iff_getElem.1 (List.nodup_iff_pairwise_ne.1 hnd)) i j hi hj hij (by rw [← numAt_eq hi, ← numAt_eq hj, ea, eb, e])
   have hba : b < a := by omega
   have g1 := fo_round (p := p) (e := ⟨frm, dn, ord, fen⟩) (j - i - 1) i a b (show i + (j - i - 1) + 1 < fen.length by omega) (fun k hk => (hin k hk).1) ea (by rw [show i + (j - i - 1) + 1 = j by omega]; exact eb)
   have g2 := sb_round hm (e := ⟨frm, dn, ord, fen⟩) (a - b - 1) b (by omega) (by rw [show b + (a - b - 1) + 1 = a by omega]; exact hth.symm)
   rw [show b + (a - b - 1) + 1 = a by omega] at g2
   exact hc.round ⟨a, g1.trans g2⟩
  have hfen : fen ∈ mergesP p (fencesI p) := (mem_mergesP (fences_asc p)).2 ⟨hs.fen, hfk⟩
  refine ⟨dn, hdn, ord, hordm, frm, hfrm, ?_⟩
  unfold execsF
  have hpos : possibleP p ⟨frm, dn, ord, []⟩ = true := by
   unfold possibleP
   rw [Bool.and_eq_true, Bool.not_eq_true', decide_eq_true_eq]
   refine ⟨wordBad_iff.2 hw, ?_⟩
   have hx0 : XOk p ⟨frm, dn, ord, []⟩ := ⟨hx.fl, hx.dl, hx.ol, hx.fr, hx.oin, fun x h => (nomatch h), Nat.zero_le _⟩
   exact (brokenP_zero hp hm hx0).2 hc.less
  rw [if_pos hpos]
  exact List.mem_filter.2 ⟨List.mem_map.2 ⟨fen, hfen, rfl⟩, decide_eq_true ((brokenP_zero hp hm hx).2 hc)⟩

end Go.EV

namespace Go.EV
open Go.Proofs

def outReads (p : List Ev) (w : Wd) : Nat → List Int
 | 0 => []
 | i + 1 => outReads p w i ++ if (evAt p i).reads then [w.r[i]?.getD 0] else []
def lastOf (w : Wd) (l : List Int) : Int := if l.length = 0 then 0 else w.w[(numAt l (l.length - 1)).toNat]?.getD 0
def outcomeP (p : List Ev) (e : Exec) : List Int := outReads p (wordsP p e.frm) p.length ++ e.ord.map (lastOf (wordsP p e.frm))

theorem outReads_len (p : List Ev) (w : Wd) : ∀ i, (outReads p w i).length ≤ i
 | 0 => Nat.le_refl _
 | i + 1 => by
  have := outReads_len p w i
  simp only [outReads, List.length_append]
  split <;> simp <;> omega

section
variable {M : PHeap}

set_option maxHeartbeats 4000000 in
theorem ax_outcome_c (p : List Ev) (s : Value) (hs : Sl M 6 encEv s p) (hp : POk p) (e : Exec) (v : Value) (hv : IsX M v e) (hx : XOk p e) :
  Con Tryz.prog 35 #[s, v] M [] (Ints (outcomeP p e)) := by
 have hs0 := hs
 have hb := hp.len
 obtain ⟨a, c, rfl, hrd⟩ := hs
 obtain ⟨f, d, o, n, rfl, hf, hd, ho, hn⟩ := hv
 have hf0 := hf
 obtain ⟨oa, oc, ovs, rfl, hol, hro, hko⟩ := ho
 have hol3 := hx.ol
 obtain ⟨ob, oo, rfl, hato⟩ := SlSlC.at hro hol hko (by omega)
 refine Con.enter Q28_ok (args := [.slice a p.length c, .agg #[f, d, .slice (some ⟨ob, oo, none⟩) e.ord.length oc, n]]) (by simp [Q28]) fun w0 => ?_
 simp only [Q28, argE]
 repeat' first
   | refine EV.seq ?_
   | (refine EV.reg ?_; (conv => (arg 2; whnf)); (refine nx ?_; try with_reducible exact ⟨⟩))
   | ((first | with_reducible intro b | refine xrA rfl ?_ | fail); try (refine nx ?_; try with_reducible exact ⟨⟩))
   | fail
 rename Nat => xb
 refine Con.callS (G1 := []) (ax_words_c p _ hs0 (by omega) e.frm _ _ _ _ hf0 hx.fromOk) ?_
 rintro v M1 G1 hM1 ⟨rv, wv, kv, rfl, hr, hw, -⟩
 obtain ⟨ra, rc, rfl, hrr⟩ := hr
 obtain ⟨wa, wc, rfl, hww⟩ := hw
 have hrl : (wordsP p e.frm).r.length = p.length := (wdIter_len p e.frm _).r
 have hwl : (wordsP p e.frm).w.length = p.length := (wdIter_len p e.frm _).w
 have houtd : outcomeP p e = outReads p (wordsP p e.frm) p.length ++ e.ord.map (lastOf (wordsP p e.frm)) := rfl
 generalize wordsP p e.frm = W at *
 simp only [wpS, wpA, wpQL, push_cast, Int.cast_ofNat_Int, reduceIte, Nat.reduceEqDiff, reduceCtorEq, Nat.reduceAdd, Nat.reduceSub, Nat.reduceMul, Int.reduceToNat, Nat.reduceLeDiff]
 repeat' first
   | refine EV.seq ?_
   | refine EV.block ?_
   | (refine EV.reg ?_; (conv => (arg 2; whnf)); (refine nx ?_; try with_reducible exact ⟨⟩))
   | fail
 refine EV.toS (ρ' := [(0, .slice a p.length c), (3, pv xb 0), (5, .slice ra W.r.length rc), (6, .slice wa W.w.length wc), (8, osv none 0), (21, .slice a p.length c), (22, vi p.length), (23, vi (0 : Nat))]) (G' := [(xb, Cl 45 [f, d, .slice (some ⟨ob, oo, none⟩) e.ord.length oc, n])]) ?_ ?env0
 case env0 =>
  repeat' first
   | (refine List.forall_mem_cons.2 (And.intro ?_ ?_))
   | (intro _ hnil; cases hnil; done)
   | rfl
   | fail
 refine EV.loopTo (fun x : Nat × Vec => ([(0, .slice a p.length c), (3, pv xb 0), (5, .slice ra W.r.length rc), (6, .slice wa W.w.length wc), (8, osv x.2 (outReads p W x.1).length), (21, .slice a p.length c), (22, vi p.length), (23, vi x.1)], M1, (xb, Cl 45 [f, d, .slice (some ⟨ob, oo, none⟩) e.ord.length oc, n]) :: osg 3 x.2 ((outReads p W x.1).map vi)))
  (fun x => x.1 ≤ p.length ∧ osok 1 x.2 (outReads p W x.1).length ((outReads p W x.1).map vi)) (fun x => p.length - x.1) (0, none) rfl ⟨Nat.zero_le _, rfl, rfl⟩ ?env1 (by simp [osg]) ?_
 case env1 =>
  repeat' first
   | (refine List.forall_mem_cons.2 (And.intro ?_ ?_))
   | (intro _ hnil; cases hnil; done)
   | rfl
   | fail
 rintro ⟨i, ov⟩ ⟨hi, hov⟩ ih
 dsimp only at hi hov ih ⊢
 repeat' first
   | refine EV.seq ?_
   | refine EV.skip ?_
   | refine EV.block ?_
   | (refine EV.reg ?_; (conv => (arg 2; whnf)); (refine nx ?_; try with_reducible exact ⟨⟩))
   | (refine EV.condX rfl (fun h => ?_) (fun h => ?_) <;> try exact dead h)
   | (refine EV.exit rfl ?_)
   | (refine xsA rfl ?_; try (refine nx ?_; try with_reducible exact ⟨⟩))
   | fail
 ·have hi' : i < p.length := by omega
  obtain ⟨pb, po, rfl, hat⟩ := Sl.at (enc := encEv) (fun _ => rfl) (by decide) hrd (by omega)
  obtain ⟨rb, ro, rfl, hatr⟩ := Sl.at (sz := 1) (enc := ei) (fun _ => rfl) (by decide) hrr (by omega)
  have hpi := (Sl.evAt hat i hi').mono hM1
  have hri : rd M1 rb (ro + i) 1 [vi (W.r[i]?.getD 0)] := rd_num hatr i (by omega)
  have hrI : (i : Int) < W.r.length := by omega
  have hln := outReads_len p W i
  have hstep : outReads p W (i + 1) = outReads p W i ++ if (evAt p i).reads then [W.r[i]?.getD 0] else [] := rfl
  repeat' first
    | refine EV.seq ?_
    | refine EV.skip ?_
    | refine EV.inBlock ?_
    | (refine EV.reg ?_; (conv => (arg 2; whnf)); (refine nx ?_; try with_reducible exact ⟨⟩))
    | (refine ConQ.call (ax_reads_q (evAt p i)) ?_; try (refine nx ?_; try with_reducible exact ⟨⟩))
    | (refine EV.condX rfl (fun h => ?_) (fun h => ?_) <;> try exact dead h)
    | (with_reducible intro b; try (refine nx ?_; try with_reducible exact ⟨⟩))
    | (refine And.intro (by omega) ?_)
    | ((first | refine Exists.intro _ (And.intro (rd_M (by assumption)) ?_) | refine xrA rfl ?_ | fail); try (refine nx ?_; try with_reducible exact ⟨⟩))
    | (refine xw ?_; (refine nx ?_; try with_reducible exact ⟨⟩))
    | fail
  ·rw [if_pos (by assumption)] at hstep
   refine ⟨[vi (W.r[i]?.getD 0)], Or.inr ⟨b, 0, rfl, rd_own' 0 rfl rfl (by simp)⟩, by simp [ok1_cons, ok1_nil, Value.oneCell'], Or.inl ⟨ov, _, rfl, _, hov, _, PullL.p, ?_, ?_, ?_⟩⟩
   ·simp only [maxLen]; omega
   ·omega
   intro o2 ho2 _
   simp only [wpS, wpA, wpQL, push_cast, Int.cast_ofNat_Int, reduceIte, Nat.reduceEqDiff, reduceCtorEq, Nat.reduceAdd, Nat.reduceSub, Nat.reduceMul, Int.reduceToNat, Nat.reduceLeDiff]
   repeat' first
     | refine EV.inBlock ?_
     | (refine EV.reg ?_; (conv => (arg 2; whnf)); (refine nx ?_; try with_reducible exact ⟨⟩))
     | fail
   have ih3 := ih (i + 1, o2) ⟨by dsimp only; omega, by rw [hstep, List.length_append, List.map_append]; exact ho2⟩ (by dsimp only; omega)
   dsimp only at ih3
   rw [hstep, List.length_append, List.map_append, show List.map vi [W.r[i]?.getD 0] = [vi (W.r[i]?.getD 0)] from rfl] at ih3
   refine EV.toS ih3 ?_
   repeat' first
    | (refine List.forall_mem_cons.2 (And.intro ?_ ?_))
    | (intro _ hnil; cases hnil; done)
    | rfl
    | (refine env_w64 rfl (by first | rfl | (push_cast; first | rfl | omega)) (by omega) (by omega); done)
    | fail
  ·rw [if_neg (by simp_all), List.append_nil] at hstep
   have ih3 := ih (i + 1, ov) ⟨by dsimp only; omega, by rw [hstep]; exact hov⟩ (by dsimp only; omega)
   dsimp only at ih3
   rw [hstep] at ih3
   refine EV.toS ih3 ?_
   repeat' first
    | (refine List.forall_mem_cons.2 (And.intro ?_ ?_))
    | (intro _ hnil; cases hnil; done)
    | rfl
    | (refine env_w64 rfl (by first | rfl | (push_cast; first | rfl | omega)) (by omega) (by omega); done)
    | fail
 ·have hie : i = p.length := by omega
  subst hie
  clear ih
  repeat' first
    | fail
  have hln0 := outReads_len p W p.length
  generalize hR : outReads p W p.length = R at *
  refine EV.loopTo (fun x : Nat × Vec => ([(3, pv xb 0), (6, .slice wa W.w.length wc), (8, osv x.2 (R ++ (e.ord.take x.1).map (lastOf W)).length), (39, .slice (some ⟨ob, oo, none⟩) e.ord.length oc), (40, vi e.ord.length), (41, vi x.1)], M1, (xb, Cl 45 [f, d, .slice (some ⟨ob, oo, none⟩) e.ord.length oc, n]) :: osg 3 x.2 ((R ++ (e.ord.take x.1).map (lastOf W)).map vi)))
   (fun x => x.1 ≤ e.ord.length ∧ osok 1 x.2 (R ++ (e.ord.take x.1).map (lastOf W)).length ((R ++ (e.ord.take x.1).map (lastOf W)).map vi)) (fun x => e.ord.length - x.1) (0, ov) rfl ⟨Nat.zero_le _, by simpa using hov⟩ ?env2 (by simp) ?_
  case env2 =>
   simp only [List.take_zero, List.map_nil, List.append_nil]
   repeat' first
    | (refine List.forall_mem_cons.2 (And.intro ?_ ?_))
    | (intro _ hnil; cases hnil; done)
    | rfl
    | fail
  rintro ⟨k, o1⟩ ⟨hk, ho1⟩ ih
  dsimp only at hk ho1 ih ⊢
  repeat' first
    | refine EV.seq ?_
    | refine EV.skip ?_
    | refine EV.block ?_
    | (refine EV.reg ?_; (conv => (arg 2; whnf)); (refine nx ?_; try with_reducible exact ⟨⟩))
    | (refine EV.condX rfl (fun h => ?_) (fun h => ?_) <;> try exact dead h)
    | (refine EV.exit rfl ?_)
    | (refine And.intro (by omega) ?_)
    | fail
  ·have hk' : k < e.ord.length := by omega
   obtain ⟨la, lc, hr1, hlc, hr2⟩ := hato k hk'
   have hr1 := hr1.mono hM1
   have hr2 := hr2.mono hM1
   rw [Nat.mul_one] at hr1
   obtain ⟨hin, hln⟩ := hx.oin _ (List.getElem_mem hk')
   have hsx : R ++ (e.ord.take (k + 1)).map (lastOf W) = (R ++ (e.ord.take k).map (lastOf W)) ++ [lastOf W e.ord[k]] := by
    rw [List.take_succ_eq_append_getElem hk', List.map_append, List.append_assoc]; rfl
   have hsl : (R ++ (e.ord.take k).map (lastOf W)).length ≤ 35 := by simp; omega
   have ih3 := fun o2 h => ih (k + 1, o2) ⟨by dsimp only; omega, h⟩ (by dsimp only; omega)
   dsimp only at ih3
   rw [hsx, List.length_append, List.map_append] at ih3
   have hlo : lastOf W e.ord[k] = if e.ord[k].length = 0 then 0 else W.w[(numAt e.ord[k] (e.ord[k].length - 1)).toNat]?.getD 0 := rfl
   generalize R ++ (e.ord.take k).map (lastOf W) = Q at *
   generalize e.ord[k] = l at *
   clear ih
   repeat' first
     | (refine Exists.intro _ (Exists.intro _ (Exists.intro _ (And.intro (rd_M (by assumption)) ?_))); try (refine nx ?_; try with_reducible exact ⟨⟩))
     | fail
   refine EV.seq ?_
   repeat' first
     | (refine EV.reg ?_; (conv => (arg 2; whnf)); (refine nx ?_; try with_reducible exact ⟨⟩))
     | fail
   refine EV.seq (EV.thru (fun ρ' M' G' => M' = M1 ∧ (∀ q ∈ [(3, pv xb 0), (6, .slice wa W.w.length wc), (8, osv o1 Q.length), (13, vi (lastOf W l)), (39, .slice (some ⟨ob, oo, none⟩) e.ord.length oc), (40, vi e.ord.length), (41, vi k)], get ρ' q.1 = some q.2) ∧
    G' = (xb, Cl 45 [f, d, .slice (some ⟨ob, oo, none⟩) e.ord.length oc, n]) :: osg 3 o1 (Q.map vi)) ?_ ?_)
   ·intro k' key
    clear ih3
    rw [hlo] at key
    by_cases hl0 : l.length = 0
    ·rw [if_pos hl0] at key
     repeat' first
       | refine EV.seq ?_
       | refine EV.skip ?_
       | (refine EV.reg ?_; (conv => (arg 2; whnf)); (refine nx ?_; try with_reducible exact ⟨⟩))
       | (refine EV.condX rfl (fun h => ?_) (fun h => ?_) <;> try exact dead h)
       | fail
     refine EV.reS (key _ _ _ ⟨rfl, ?_, rfl⟩)
     repeat' first
      | (refine List.forall_mem_cons.2 (And.intro ?_ ?_))
      | (intro _ hnil; cases hnil; done)
      | rfl
      | fail
    ·rw [if_neg hl0] at key
     obtain ⟨lb, lo, rfl, hatl⟩ := Sl.at (sz := 1) (enc := ei) (fun _ => rfl) (by decide) hr2 (by omega)
     have hll := rd_num hatl (l.length - 1) (by omega)
     have hlin := numAt_in hin (k := l.length - 1) (by omega)
     have hp0 : 0 < p.length := by omega
     obtain ⟨wb, wo, rfl, hatw⟩ := Sl.at (sz := 1) (enc := ei) (fun _ => rfl) (by decide) hww (by omega)
     have hwr := rd_num hatw (numAt l (l.length - 1)).toNat (by omega)
     simp only [numAt] at hwr
     change rd M1 wb _ 1 [vi (W.w[(numAt l (l.length - 1)).toNat]?.getD 0)] at hwr
     have hwI : numAt l (l.length - 1) < (W.w.length : Int) := by omega
     have hw1 : IntKind.i64.wrap ((l.length : Int) - 1) = ((l.length - 1 : Nat) : Int) := (w64 (by omega) (by omega)).trans (by omega)
     have hw2 : (((l.length - 1 : Nat) : Int)) < (l.length : Int) := by omega
     clear hatl hatw
     repeat' first
       | refine EV.seq ?_
       | (refine EV.reg ?_; (conv => (arg 2; whnf)); simp only [wpS, wpA, wpQL, push_cast, Int.cast_ofNat_Int, reduceIte, Nat.reduceEqDiff, reduceCtorEq, Nat.reduceAdd, Nat.reduceSub, Nat.reduceMul, Int.reduceToNat, Nat.reduceLeDiff, hw1])
       | (refine EV.condX rfl (fun h => ?_) (fun h => ?_) <;> try exact dead h)
       | (refine And.intro (by omega) ?_)
       | (refine Exists.intro _ (And.intro (rd_M (by assumption)) ?_); try simp only [wpS, wpA, wpQL, push_cast, Int.cast_ofNat_Int, reduceIte, Nat.reduceEqDiff, reduceCtorEq, Nat.reduceAdd, Nat.reduceSub, Nat.reduceMul, Int.reduceToNat, Nat.reduceLeDiff, hw1])
       | fail
     refine EV.reS (key _ _ _ ⟨rfl, ?_, rfl⟩)
     repeat' first
      | (refine List.forall_mem_cons.2 (And.intro ?_ ?_))
      | (intro _ hnil; cases hnil; done)
      | rfl
      | fail
   rintro ρ2 M2 G2 ⟨rfl, hq, rfl⟩
   refine EV.to ?_ hq (List.Sublist.refl _)
   clear hq hlo
   generalize lastOf W l = lw at *
   repeat' first
     | (refine EV.reg ?_; (conv => (arg 2; whnf)); (refine nx ?_; try with_reducible exact ⟨⟩))
     | (with_reducible intro b; try (refine nx ?_; try with_reducible exact ⟨⟩))
     | fail
   refine ⟨[vi lw], Or.inr ⟨b, 0, rfl, rd_own' 0 rfl rfl (by simp)⟩, by simp [ok1_cons, ok1_nil, Value.oneCell'], Or.inl ⟨o1, _, rfl, _, ho1, _, PullL.p, ?_, ?_, ?_⟩⟩
   ·simp only [maxLen]; omega
   ·omega
   intro o2 ho2 _
   simp only [wpS, wpA, wpQL, push_cast, Int.cast_ofNat_Int, reduceIte, Nat.reduceEqDiff, reduceCtorEq, Nat.reduceAdd, Nat.reduceSub, Nat.reduceMul, Int.reduceToNat, Nat.reduceLeDiff]
   repeat' first
     | refine EV.inBlock ?_
     | (refine EV.reg ?_; (conv => (arg 2; whnf)); (refine nx ?_; try with_reducible exact ⟨⟩))
     | fail
   have ih4 := ih3 o2 ho2
   rw [show List.map vi [lw] = [vi lw] from rfl] at ih4
   refine EV.toS ih4 ?_
   repeat' first
    | (refine List.forall_mem_cons.2 (And.intro ?_ ?_))
    | (intro _ hnil; cases hnil; done)
    | rfl
    | (refine env_w64 rfl (by first | rfl | (push_cast; first | rfl | omega)) (by omega) (by omega); done)
    | fail
  ·have hke : k = e.ord.length := by omega
   subst hke
   rw [List.take_length] at ho1 ⊢
   refine EV.toS (ρ' := [(4, osv o1 (R ++ e.ord.map (lastOf W)).length)]) (G' := osg 3 o1 ((R ++ e.ord.map (lastOf W)).map vi)) ?_ ?env3
   case env3 =>
    repeat' first
     | (refine List.forall_mem_cons.2 (And.intro ?_ ?_))
     | (intro _ hnil; cases hnil; done)
     | rfl
     | fail
   refine EV.ret Q28_ok ?_
   simp only [wpS, wpA, wpQL, push_cast, Int.cast_ofNat_Int, reduceIte, Nat.reduceEqDiff, reduceCtorEq, Nat.reduceAdd, Nat.reduceSub, Nat.reduceMul, Int.reduceToNat, Nat.reduceLeDiff, Q28]
   rw [houtd]
   exact ⟨o1, rfl, ho1, rfl⟩

end
end Go.EV

namespace Go.EV
open Go.Proofs

theorem Sl_osvI {M : PHeap} {G : Own} {T : TypeId} {ov : Vec} {xs : List Int} (hok : osok 1 ov xs.length (xs.map vi)) (hG : ∀ q ∈ osg T ov (xs.map vi), q ∈ G) : Sl (M.add G) 1 ei (osv ov xs.length) xs :=
 ⟨oad ov, ocap ov, rfl, by rw [flatMap_ei]; exact rd_osg hok hG⟩
theorem Sl_osvB {M : PHeap} {G : Own} {T : TypeId} {ov : Vec} {xs : List Bool} (hok : osok 1 ov xs.length (xs.map vb)) (hG : ∀ q ∈ osg T ov (xs.map vb), q ∈ G) : Sl (M.add G) 1 eb (osv ov xs.length) xs :=
 ⟨oad ov, ocap ov, rfl, by rw [flatMap_eb]; exact rd_osg hok hG⟩

section
variable {M : PHeap}

set_option maxHeartbeats 4000000 in
theorem ax_copy_c (e : Exec) (v : Value) (hv : IsX M v e) (h1 : e.frm.length < 1000) (h2 : e.dn.length < 1000) (h3 : e.ord.length < 1000) (h4 : e.fen.length < 1000) (h5 : ∀ l ∈ e.ord, l.length < 1000) :
  Con Tryz.prog 84 #[v] M [] fun v M' _ => IsX M' v e := by
 obtain ⟨f, d, o, n, rfl, hf, hd, ho, hn⟩ := hv
 have hf0 := hf
 have hd0 := hd
 have hn0 := hn
 obtain ⟨fa, fc, rfl, hrf⟩ := hf
 obtain ⟨da, dc, rfl, hrd⟩ := hd
 obtain ⟨na, nc, rfl, hrn⟩ := hn
 obtain ⟨oa, oc, ovs, rfl, hol, hro, hko⟩ := ho
 refine Con.enter Q0_ok (args := [.agg #[.slice fa e.frm.length fc, .slice da e.dn.length dc, .slice oa e.ord.length oc, .slice na e.fen.length nc]]) (by simp [Q0]) fun w0 => ?_
 simp only [Q0, argE]
 refine EV.seq (EV.reg ?_)
 simp only [wpS, wpA, wpQL, push_cast, Int.cast_ofNat_Int, reduceIte, Nat.reduceEqDiff, reduceCtorEq, Nat.reduceAdd, Nat.reduceSub, Nat.reduceMul, Int.reduceToNat, Nat.reduceLeDiff, Q0_0]
 intro xb rb
 refine EV.seq (EV.thru (fun ρ' M' G' => ∃ cb fv dv nv, M.le M' ∧ Sl M' 1 ei fv e.frm ∧ Sl M' 1 eb dv e.dn ∧ Sl M' 1 ei nv e.fen ∧ get ρ' 1 = some (pv xb 0) ∧ get ρ' 2 = some (pv rb 0) ∧ get ρ' 3 = some (pv cb 0) ∧
  G' = [(cb, Cl 45 [fv, dv, .slice none 0 0, nv]), (rb, Cl 45 [.slice none 0 0, .slice none 0 0, .slice none 0 0, .slice none 0 0]), (xb, Cl 45 [.slice fa e.frm.length fc, .slice da e.dn.length dc, .slice oa e.ord.length oc, .slice na e.fen.length nc])]) ?_ ?_)
 ·intro k' key
  have hcf := fun G => sl_Clone_c (M := M.add G) e.frm _ (hf0.mono (PHeap.le_add _ _)) (by omega)
  have hcd := fun G => sl_CloneB_c (M := M.add G) e.dn _ (hd0.mono (PHeap.le_add _ _)) (by omega)
  have hcn := fun G => sl_Clone_c (M := M.add G) e.fen _ (hn0.mono (PHeap.le_add _ _)) (by omega)
  refine EV.any (t := Q0_1) [(xb, Cl 45 [.slice fa e.frm.length fc, .slice da e.dn.length dc, .slice oa e.ord.length oc, .slice na e.fen.length nc])] (by simp) ?_
  simp only [norm_cons, norm_nil, get_cons, get_nil, reduceIte, Nat.reduceEqDiff]
  repeat' first
    | ((first | refine wQ_op (by first | with_reducible assumption | rfl) (fun lq hlq => ?_) | refine wQ_nil (by first | with_reducible assumption | rfl) ?_ | fail); try (refine nz ?_; try with_reducible exact ⟨⟩))
    | refine wA_q (by first | with_reducible assumption | rfl) (fun lq tq hlq htq => ?_)
    | ((with_reducible refine Con.callN (hcf _) ?_) ;  rintro v1 M1 G1 ⟨o1, rfl, ho1, rfl⟩; try (refine nz ?_; try with_reducible exact ⟨⟩))
    | ((with_reducible refine Con.callN (hcd _) ?_) ;  rintro v2 M2 G2 ⟨o2, rfl, ho2, rfl⟩; try (refine nz ?_; try with_reducible exact ⟨⟩))
    | ((with_reducible refine Con.callN (hcn _) ?_) ;  rintro v3 M3 G3 ⟨o3, rfl, ho3, rfl⟩; try (refine nz ?_; try with_reducible exact ⟨⟩))
    | (refine wA_s (by first | with_reducible assumption | rfl) (fun tq htq => ?_) (fun tq htq => ?_) <;> try (refine nz ?_; try with_reducible exact ⟨⟩))
    | (refine wA_sT (by first | with_reducible assumption | rfl) (fun tq htq => ?_) (fun tq htq => ?_) <;> try (refine nz ?_; try with_reducible exact ⟨⟩))
    | exact wA_no (by first | with_reducible assumption | rfl)
    | refine wA_fin (by first | with_reducible assumption | rfl) ?_
    | ((first | with_reducible intro b | refine xsA rfl ?_ | refine xw ?_ | refine And.intro (PHeap.le_refl _) (And.intro (mem_of_sub ?_) ?_); focus ((repeat' first | exact List.Sublist.refl _ | exact List.nil_sublist _ | exact List.sublist_append_left _ _ | refine List.Sublist.cons_cons _ ?_ | refine List.Sublist.append_left ?_ _ | refine List.sublist_append_of_sublist_right ?_ | refine List.Sublist.cons _ ?_); done) | fail); try (refine nz ?_; try with_reducible exact ⟨⟩))
    | fail
  all_goals
   refine EV.keepS [(b, Cl 45 [osv o1 e.frm.length, osv o2 e.dn.length, .slice none 0 0, osv o3 e.fen.length]), (rb, Cl 45 [.slice none 0 0, .slice none 0 0, .slice none 0 0, .slice none 0 0]), (xb, Cl 45 [.slice fa e.frm.length fc, .slice da e.dn.length dc, .slice oa e.ord.length oc, .slice na e.fen.length nc])] ?_
   generalize hR : M.add _ = N
   have hMN : M.le N := hR ▸ PHeap.le_add _ _
   have q1 : Sl N 1 ei (osv o1 e.frm.length) e.frm := hR ▸ Sl_osvI (T := 3) ho1 (fun q hq => by simp [hq])
   have q2 : Sl N 1 eb (osv o2 e.dn.length) e.dn := hR ▸ Sl_osvB (T := 4) ho2 (fun q hq => by simp [hq])
   have q3 : Sl N 1 ei (osv o3 e.fen.length) e.fen := hR ▸ Sl_osvI (T := 3) ho3 (fun q hq => by simp [hq])
   exact key _ _ _ ⟨b, _, _, _, hMN, q1, q2, q3, rfl, rfl, rfl, rfl⟩
 rintro ρ2 M2 G2 ⟨cb, fv, dv, nv, hM2, q1, q2, q3, e1, e2, e3, rfl⟩
 obtain ⟨f2, fc2, rfl, hf2⟩ := q1
 obtain ⟨d2, dc2, rfl, hd2⟩ := q2
 obtain ⟨n2, nc2, rfl, hn2⟩ := q3
 refine EV.to (ρ' := [(1, pv xb 0), (2, pv rb 0), (3, pv cb 0)]) ?_ (by simp only [List.forall_mem_cons]; exact ⟨e1, e2, e3, fun _ h => nomatch h⟩) (List.Sublist.refl _)
 clear e1 e2 e3
 repeat' first
   | refine EV.seq ?_
   | refine EV.block ?_
   | (refine EV.reg ?_; (conv => (arg 2; whnf)); (refine nx ?_; try with_reducible exact ⟨⟩))
   | (refine xsA rfl ?_; try (refine nx ?_; try with_reducible exact ⟨⟩))
   | fail
 refine EV.loopTo (fun x : Nat × PHeap × Vec × List Value => ([(1, pv xb 0), (2, pv rb 0), (3, pv cb 0), (17, .slice oa e.ord.length oc), (18, vi e.ord.length), (19, vi x.1)], x.2.1,
   (cb, Cl 45 [.slice f2 e.frm.length fc2, .slice d2 e.dn.length dc2, osv x.2.2.1 x.1, .slice n2 e.fen.length nc2]) :: (rb, Cl 45 [.slice none 0 0, .slice none 0 0, .slice none 0 0, .slice none 0 0]) :: osg 34 x.2.2.1 x.2.2.2))
  (fun x => x.1 ≤ e.ord.length ∧ M2.le x.2.1 ∧ osok 1 x.2.2.1 x.1 x.2.2.2 ∧ x.2.2.2.length = x.1 ∧ ∀ j (h : j < x.2.2.2.length) (h' : j < e.ord.length), SlC x.2.1 1 ei x.2.2.2[j] e.ord[j]) (fun x => e.ord.length - x.1) (0, M2, none, []) rfl ⟨Nat.zero_le _, PHeap.le_refl _, ⟨rfl, rfl⟩, rfl, fun j h => absurd h (Nat.not_lt_zero _)⟩ ?env1 (List.Sublist.cons_cons _ (List.Sublist.cons_cons _ (List.nil_sublist _))) ?_
 case env1 =>
  repeat' first
   | (refine List.forall_mem_cons.2 (And.intro ?_ ?_))
   | (intro _ hnil; cases hnil; done)
   | rfl
   | fail
 rintro ⟨k, Mk, ov, vs⟩ ⟨hk, hMk, hov, hvl, hvs⟩ ih
 dsimp only at hk hMk hov hvl hvs ih ⊢
 repeat' first
   | refine EV.seq ?_
   | refine EV.skip ?_
   | refine EV.block ?_
   | (refine EV.reg ?_; (conv => (arg 2; whnf)); (refine nx ?_; try with_reducible exact ⟨⟩))
   | (refine EV.condX rfl (fun h => ?_) (fun h => ?_) <;> try exact dead h)
   | (refine EV.exit rfl ?_)
   | (refine xrA rfl ?_; try (refine nx ?_; try with_reducible exact ⟨⟩))
   | (refine xw ?_; (refine nx ?_; try with_reducible exact ⟨⟩))
   | fail
 ·have hk' : k < e.ord.length := by omega
  obtain ⟨ob, oo, rfl, hato⟩ := SlSlC.at hro hol hko (by omega)
  obtain ⟨la, lc, hr1, hlc, hr2⟩ := hato k hk'
  have hr1 := hr1.mono (PHeap.le_trans hM2 hMk)
  have hr2 := hr2.mono (PHeap.le_trans hM2 hMk)
  rw [Nat.mul_one] at hr1
  have hl5 := h5 _ (List.getElem_mem hk')
  repeat' first
    | (refine And.intro (by omega) ?_)
    | (refine Exists.intro _ (Exists.intro _ (Exists.intro _ (And.intro (rd_M (by assumption)) ?_))); try (refine nx ?_; try with_reducible exact ⟨⟩))
    | fail
  have hcl := fun G => sl_Clone_c (M := Mk.add G) e.ord[k] (.slice la e.ord[k].length lc) (⟨la, lc, rfl, hr2.mono (PHeap.le_add _ _)⟩) (by omega)
  refine EV.any (t := Q0_5) [(cb, Cl 45 [.slice f2 e.frm.length fc2, .slice d2 e.dn.length dc2, osv ov k, .slice n2 e.fen.length nc2])] (by simp) ?_
  simp only [norm_cons, norm_nil, get_cons, get_nil, reduceIte, Nat.reduceEqDiff]
  repeat' first
    | ((first | refine wQ_op (by first | with_reducible assumption | rfl) (fun lq hlq => ?_) | refine wQ_nil (by first | with_reducible assumption | rfl) ?_ | fail); try (refine nz ?_; try with_reducible exact ⟨⟩))
    | refine wA_q (by first | with_reducible assumption | rfl) (fun lq tq hlq htq => ?_)
    | ((with_reducible refine Con.callN (hcl _) ?_) ;  rintro v1 M1 G1 ⟨o1, rfl, ho1, rfl⟩; try (refine nz ?_; try with_reducible exact ⟨⟩))
    | (refine wA_s (by first | with_reducible assumption | rfl) (fun tq htq => ?_) (fun tq htq => ?_) <;> try (refine nz ?_; try with_reducible exact ⟨⟩))
    | (refine wA_sT (by first | with_reducible assumption | rfl) (fun tq htq => ?_) (fun tq htq => ?_) <;> try (refine nz ?_; try with_reducible exact ⟨⟩))
    | exact wA_no (by first | with_reducible assumption | rfl)
    | ((first | with_reducible intro b | refine xsA rfl ?_ | refine And.intro (PHeap.le_refl _) (And.intro (mem_of_sub ?_) ?_); focus ((repeat' first | exact List.Sublist.refl _ | exact List.nil_sublist _ | exact List.sublist_append_left _ _ | refine List.Sublist.cons_cons _ ?_ | refine List.Sublist.append_left ?_ _ | refine List.sublist_append_of_sublist_right ?_ | refine List.Sublist.cons _ ?_); done) | fail); try (refine nz ?_; try with_reducible exact ⟨⟩))
    | fail
  refine ⟨[osv o1 e.ord[k].length], Or.inr ⟨_, 0, rfl, rd_at (T := 34) (cs := [osv o1 e.ord[k].length]) (by simp) rfl (by simp)⟩, by simp [ok1_cons, ok1_nil, Value.oneCell'], Or.inl ⟨ov, _, rfl, _, hov, _, PullL.p, by simp only [maxLen]; omega, by omega, fun o2 ho2 _ => ?_⟩⟩
  repeat' first
    | ((first | refine wQ_op (by first | with_reducible assumption | rfl) (fun lq hlq => ?_) | refine wQ_nil (by first | with_reducible assumption | rfl) ?_ | fail); try (refine nz ?_; try with_reducible exact ⟨⟩))
    | refine wA_q (by first | with_reducible assumption | rfl) (fun lq tq hlq htq => ?_)
    | (refine wA_sT (by first | with_reducible assumption | rfl) (fun tq htq => ?_) (fun tq htq => ?_) <;> try (refine nz ?_; try with_reducible exact ⟨⟩))
    | exact wA_no (by first | with_reducible assumption | rfl)
    | refine wA_fin (by first | with_reducible assumption | rfl) ?_
    | (refine xw ?_; try (refine nz ?_; try with_reducible exact ⟨⟩))
    | fail
  refine EV.keepS ((cb, Cl 45 [.slice f2 e.frm.length fc2, .slice d2 e.dn.length dc2, osv o2 (k + 1), .slice n2 e.fen.length nc2]) :: (rb, Cl 45 [.slice none 0 0, .slice none 0 0, .slice none 0 0, .slice none 0 0]) :: osg 34 o2 (vs ++ [osv o1 e.ord[k].length])) ?_
  generalize hR : Mk.add _ = N
  have hMN : Mk.le N := hR ▸ PHeap.le_add _ _
  have hnew : SlC N 1 ei (osv o1 e.ord[k].length) e.ord[k] := hR ▸ SlC_osv (T := 3) ho1 rfl (fun q hq => by simp [hq])
  clear hR
  have ih3 := ih (k + 1, N, o2, vs ++ [osv o1 e.ord[k].length]) ⟨by dsimp only; omega, PHeap.le_trans hMk hMN, ho2, by simp [hvl], fun j hj hj2 => ?_⟩ (by dsimp only; omega)
  ·dsimp only at ih3
   repeat' first
     | refine EV.inBlock ?_
     | (refine EV.reg ?_; (conv => (arg 2; whnf)); (refine nx ?_; try with_reducible exact ⟨⟩))
     | fail
   refine EV.toS ih3 ?_
   repeat' first
    | (refine List.forall_mem_cons.2 (And.intro ?_ ?_))
    | (intro _ hnil; cases hnil; done)
    | rfl
    | (refine env_w64 rfl (by first | rfl | (push_cast; first | rfl | omega)) (by omega) (by omega); done)
    | fail
  ·dsimp only at hj ⊢
   by_cases hjv : j < vs.length
   ·rw [List.getElem_append_left hjv]; exact (hvs j hjv hj2).mono hMN
   ·have : j = k := by simp at hj; omega
    subst this
    rw [List.getElem_append_right (by omega)]
    simp only [hvl, Nat.sub_self, List.getElem_cons_zero]; exact hnew
 ·have hke : k = e.ord.length := by omega
  subst hke
  repeat' first
    | fail
  refine EV.keepS [(rb, Cl 45 [.slice f2 e.frm.length fc2, .slice d2 e.dn.length dc2, osv ov e.ord.length, .slice n2 e.fen.length nc2])] ?_
  generalize hR : Mk.add _ = N
  have hMN : Mk.le N := hR ▸ PHeap.le_add _ _
  have hro : rdS N 1 (oad ov) e.ord.length vs := hR ▸ rd_osg (T := 34) hov (fun q hq => by simp [hq])
  clear hR
  have hle := PHeap.le_trans hMk hMN
  refine EV.ret Q0_ok ?_
  simp only [wpS, wpA, wpQL, push_cast, Int.cast_ofNat_Int, reduceIte, Nat.reduceEqDiff, reduceCtorEq, Nat.reduceAdd, Nat.reduceSub, Nat.reduceMul, Int.reduceToNat, Nat.reduceLeDiff, Q0]
  refine ⟨_, rd_own' 0 rfl rfl (by simp), ?_⟩
  exact ⟨_, _, _, _, rfl, ⟨_, _, rfl, hf2.mono hle⟩, ⟨_, _, rfl, hd2.mono hle⟩, ⟨_, _, vs, rfl, hvl, hro, fun j a b => (hvs j a b).mono hMN⟩, ⟨_, _, rfl, hn2.mono hle⟩⟩

end
end Go.EV

namespace Go.EV
open Go.Proofs

section
variable {P : Program}
/-- An iterator; what holds at a jump must last. -/
def IterM {α : Type} (P : Program) (g : FuncId) (first caps : Array Value) (M : PHeap) (L : List α) (El : α → Value → PHeap → Prop) : Prop :=
 ∀ (l : Nat) (I : List α → PHeap → Own → Prop) (S : PHeap → Own → Prop) (M1 : PHeap) (G : Own), M.le M1 →
  (∀ xs M2 M3 G2, M2.le M3 → I xs M2 G2 → I xs M3 G2) →
  (∀ M2 M3 G2, M2.le M3 → S M2 G2 → S M3 G2) →
  (∀ xs x, x ∈ L → ∀ M2 G2 v, M1.le M2 → I xs M2 G2 → El x v M2 → YCon P l #[v] M2 G2 fun b M3 G3 => (b = .bool true ∧ I (xs ++ [x]) M3 G3) ∨ (b = .bool false ∧ S M3 G3)) →
  ∀ xs, I xs M1 G → Con P g (first ++ #[yv l] ++ caps) M1 G fun _ M' G' => I (xs ++ L) M' G' ∨ S M' G'
theorem IterM.mono {α : Type} {g : FuncId} {first caps : Array Value} {M M' : PHeap} {L : List α} {El : α → Value → PHeap → Prop} (h : IterM P g first caps M L El) (hM : M.le M') : IterM P g first caps M' L El :=
 fun l I S M1 G hle => h l I S M1 G (PHeap.le_trans hM hle)
variable {α : Type} {C : Cx P} {V : List Nat} {k : List RItem} {ρ : Env} {M : PHeap} {G : Own} {f : A} {ps : List Nat} {asg bd : RCode} {fv : Value} {g : FuncId} {first caps : Array Value}

/-- The same, where what holds at a jump is kept: the rounds of a loop over an iterator: I: what holds between the rounds. -/
theorem iter_roundsM {L : List α} {El : α → Value → PHeap → Prop} (hit : IterM P g first caps M L El) (I : List α → PHeap → Own → Prop) (S : Code → PHeap → Own → Prop)
  {l : Nat} {r : Loop} {fn : FuncId} {nt t : Nat} (hr : LoopIs P V r fn nt [t] asg bd ρ)
  (hmono : ∀ xs M2 M3 G2, M2.le M3 → I xs M2 G2 → I xs M3 G2)
  (hSm : ∀ c M2 M3 G2, M2.le M3 → S c M2 G2 → S c M3 G2)
  (hbody : ∀ xs x v M2 G2 w0 F, x ∈ L → M.le M2 → I xs M2 G2 → El x v M2 → EV (Cx.rnd P l r fn nt w0 F M2 (I (xs ++ [x])) S) V [.code asg, .begins, .code bd] ((t, v) :: ρ) M2 ((l, Obj.loop r) :: G2))
  {G0 : Own} (hI : I [] M G0) :
  Con P g (first ++ #[yv l] ++ caps) M ((l, Obj.loop r) :: G0) fun _ M' G' => (∃ G1, G'.Perm ((l, Obj.loop r) :: G1) ∧ I L M' G1) ∨ (∃ c G1, G'.Perm ((l, Obj.loop { r with state := .done, pending := some c }) :: G1) ∧ S c M' G1) := by
 have := hit l (fun xs M2 G2 => ∃ G1, G2.Perm ((l, Obj.loop r) :: G1) ∧ I xs M2 G1) (fun M2 G2 => ∃ c G1, G2.Perm ((l, Obj.loop { r with state := .done, pending := some c }) :: G1) ∧ S c M2 G1) M ((l, Obj.loop r) :: G0) (PHeap.le_refl _)
  (fun xs M2 M3 G2 hle ⟨G1, h1, h2⟩ => ⟨G1, h1, hmono _ _ _ _ hle h2⟩) (fun M2 M3 G2 hle ⟨c, G1, h1, h2⟩ => ⟨c, G1, h1, hSm _ _ _ _ hle h2⟩) ?_ [] ⟨G0, List.Perm.refl _, hI⟩
 ·exact this
 ·rintro xs x hx M2 G2 v hM2 ⟨G1, hp, h2⟩ hv
  have hy : YCon P l [v].toArray M2 ((l, Obj.loop r) :: G1) (RoundΦ l r (I (xs ++ [x])) S) :=
   YCon.enter (List.mem_cons_self ..) hr rfl fun w0 => hbody xs x v M2 G1 w0 _ hx hM2 h2 hv
  intro w hs
  obtain ⟨r', e1, e2, e3⟩ := hy w (by
   have hs' := hs.perm hp
   have : St w ((((l, Obj.loop r) :: G1)).map (·.1)) M2 M2 ((l, Obj.loop r) :: G1) w := St.enter hs'.agree hs'.own hs'.sep hs'.nodup
   exact this)
  refine ⟨r', e1, e2, e3.mono ?_⟩
  rintro b w' ⟨M', G', k1, k2⟩
  refine ⟨M', G', ?_, ?_⟩
  ·have hmem : ∀ b, b ∈ (((l, Obj.loop r) :: G1).map (·.1)) ↔ b ∈ G2.map (·.1) := fun b => ((hp.map (·.1)).mem_iff).symm
   exact ⟨k1.os, k1.tape, k1.output, k1.size, fun b hb hf => k1.frame b hb (fun h => hf ((hmem b).1 h)), k1.agree, k1.own, k1.sep, fun p hp' => (k1.new p hp').imp (hmem _).1 id, k1.nodup, k1.base,
    fun b o hm => (k1.fresh b o hm).imp id fun h => h.imp (hmem _).1 id⟩
  ·rcases k2 with ⟨rfl, G3, h3, h4⟩ | ⟨rfl, c, G3, h3, h4⟩
   ·exact .inl ⟨rfl, G3, h3, h4⟩
   ·exact .inr ⟨rfl, c, G3, h3, h4⟩

/-- A loop over an iterator, in a function's activation: I: what holds between the rounds; S: what holds where a round jumps out. -/
theorem EV.overM {L : List α} {El : α → Value → PHeap → Prop} (hro : C.b.roundOf = none) (hfv : ev ρ f = some fv) (hfn : fn? fv = some (g, first, caps)) (hit : IterM P g first caps M L El)
  (I : Nat → List α → PHeap → Own → Prop) (S : Nat → Code → PHeap → Own → Prop) {t : Nat}
  (hmono : ∀ d xs M2 M3 G2, M2.le M3 → I d xs M2 G2 → I d xs M3 G2)
  (hSm : ∀ d c M2 M3 G2, M2.le M3 → S d c M2 G2 → S d c M3 G2)
  (hI : ∀ d, I d [] M ((d, Obj.deferred (some [])) :: G))
  (hbody : ∀ l d (r : Loop), r.state = .ready → r.pending = none → ∀ xs x v M2 G2 w0 F, x ∈ L → M.le M2 → I d xs M2 G2 → El x v M2 →
   EV (Cx.rnd P l r C.b.fn C.nt w0 F M2 (I d (xs ++ [x])) (S d)) V [.code asg, .begins, .code bd] ((t, v) :: ρ) M2 ((l, Obj.loop r) :: G2))
  (hend : ∀ d M' G', M.le M' → I d L M' G' → EV (C.marks [d]) V k ρ M' G')
  (hjump : ∀ d c M' G', M.le M' → S d c M' G' → AfterW (C.marks [d]) V k ρ c M' G') :
  EV C V (.code (.rangeF f [t] asg bd) :: k) ρ M G := by
 refine EV.rangeF hro hfv hfn fun l d r hr h1 h2 => ?_
 refine Con.callA (G2 := []) (iter_roundsM hit (I d) (S d) hr (hmono d) (hSm d) (fun xs x v M2 G2 w0 F => hbody l d r h1 h2 xs x v M2 G2 w0 F) (hI d)) (by simp) ?_
 rintro v M' G' hM' (⟨G1, hp, h3⟩ | ⟨c, G1, hp, h3⟩)
 ·refine ⟨r, G1, by simpa using hp, by rw [h1]; simp, ?_⟩
  rw [h2]; exact hend d M' G1 hM' h3
 ·refine ⟨_, G1, by simpa using hp, by simp, ?_⟩
  have := hjump d c M' G1 hM' h3
  cases c <;> first | exact this | exact this.elim

end

def ElX (x : Exec) (v : Value) (M : PHeap) : Prop := IsX M v x

section
variable {M : PHeap}

theorem ax_execs_S1_q (p : List Ev) {pb po pc b1 : Nat} (h1 : rd M b1 0 1 [.slice (some ⟨pb, po, none⟩) p.length pc]) (i : Nat) (hi : i < p.length) (hp : rd M pb (po + i * 6) 6 (encEv (evAt p i))) :
  ConQ Tryz.prog 75 #[vi i, pv b1 0] M (vb (evAt p i).strong) := by
 have hi' : (i : Int) < p.length := by omega
 refine Con.enter Q17_ok (args := [vi i, pv b1 0]) (by simp [Q17]) fun w0 => ?_
 simp only [Q17, argE]
 repeat' first
   | refine EV.seq ?_
   | (refine EV.reg ?_; (conv => (arg 2; whnf)); (refine nx ?_; try with_reducible exact ⟨⟩))
   | (refine ConQ.call (ax_strong_q (evAt p i)) ?_; try (refine nx ?_; try with_reducible exact ⟨⟩))
   | (refine And.intro (by omega) ?_)
   | ((first | refine Exists.intro _ (And.intro (rd_M (by assumption)) ?_) | refine Exists.intro _ (Exists.intro _ (Exists.intro _ (And.intro (rd_M (by assumption)) ?_))) | fail); try (refine nx ?_; try with_reducible exact ⟨⟩))
   | fail
 refine EV.ret Q17_ok ?_
 simp only [wpS, wpA, wpQL, push_cast, Int.cast_ofNat_Int, reduceIte, Nat.reduceEqDiff, reduceCtorEq, Nat.reduceAdd, Nat.reduceSub, Nat.reduceMul, Int.reduceToNat, Nat.reduceLeDiff, Q17]

theorem exec_len {p : List Ev} {e : Exec} (hp : POk p) (hx : XOk p e) : e.frm.length < 1000 ∧ e.dn.length < 1000 ∧ e.ord.length < 1000 ∧ e.fen.length < 1000 ∧ ∀ l ∈ e.ord, l.length < 1000 := by
 have := hp.len
 refine ⟨by rw [hx.fl]; omega, by rw [hx.dl]; omega, by rw [hx.ol]; omega, by have := hx.fin.2; omega, fun l hl => by have := (hx.oin l hl).2; omega⟩

set_option maxHeartbeats 4000000 in
theorem ax_execs_it (p : List Ev) (hp : POk p) {ps ss : Value} {pb sb : Nat} (hps : Sl M 6 encEv ps p) (hss : SlC M 1 ei ss (fencesI p)) (h1 : rd M pb 0 1 [ps]) (h2 : rd M sb 0 1 [ss]) :
  IterM Tryz.prog 77 #[] #[pv pb 0, pv sb 0] M (execsP p) ElX := by
 have hpl := hp.len
 intro ly I S M1 G hM hmono hSm hy xs hI
 have h1' := h1.mono hM
 have h2' := h2.mono hM
 have hps1 := hps.mono hM
 have hss1 := hss.mono hM
 obtain ⟨ea, ec, rfl, hpr⟩ := hps
 obtain ⟨sa, sc, rfl, hsc, hsr⟩ := hss
 refine Con.enter Q18_ok (args := [yv ly, pv pb 0, pv sb 0]) (by simp [Q18]) fun w0 => ?_
 simp only [Q18, argE]
 refine EV.seq (EV.reg ?_)
 simp only [wpS, wpA, wpQL, push_cast, Int.cast_ofNat_Int, reduceIte, Nat.reduceEqDiff, reduceCtorEq, Nat.reduceAdd, Nat.reduceSub, Nat.reduceMul, Int.reduceToNat, Nat.reduceLeDiff, Q18_0]
 intro yb
 refine EV.frz [(yb, Cl 124 [yv ly])] ?_
 generalize hR : M1.add _ = N
 have hMN : M1.le N := hR ▸ PHeap.le_add _ _
 have hyN : rd N yb 0 1 [yv ly] := hR ▸ rd_own' 0 rfl rfl (by simp)
 clear hR
 have h1N := h1'.mono hMN
 have h2N := h2'.mono hMN
 have hpsN := hps1.mono hMN
 have hssN := hss1.mono hMN
 have hIN := hmono _ _ _ _ hMN hI
 repeat' first
   | refine EV.seq ?_
   | (refine EV.reg ?_; (conv => (arg 2; whnf)); (refine nx ?_; try with_reducible exact ⟨⟩))
   | (refine Exists.intro _ (Exists.intro _ (Exists.intro _ (And.intro (rd_M (by assumption)) ?_))); try (refine nx ?_; try with_reducible exact ⟨⟩))
   | fail
 refine Con.callS (G1 := []) (ax_dones_c p hpl hpsN) ?_
 rintro v M2 G2 hM2 ⟨g2, caps2, rfl, hit2⟩
 repeat' first
   | refine EV.block ?_
   | fail
 refine EV.toS (ρ' := [(0, yv ly), (1, pv pb 0), (2, pv sb 0), (3, pv yb 0), (9, .func (.func g2) #[] caps2)]) (G' := G) ?_ ?env1
 case env1 =>
  repeat' first
   | (refine List.forall_mem_cons.2 (And.intro ?_ ?_))
   | (intro _ hnil; cases hnil; done)
   | rfl
   | fail
 have hLs : execsP p = (donesP p).flatMap (execsD p) := rfl
 refine EV.over rfl rfl rfl hit2 (fun d ls M G' => ∃ G0, G'.Perm ((d, Obj.deferred (some [])) :: G0) ∧ I (xs ++ ls.flatMap (execsD p)) M G0)
  (fun d c M G' => c = .ret ∧ ∃ G0, G'.Perm ((d, Obj.deferred (some [])) :: G0) ∧ S M G0) ?_ ?_ ?_ ?_ ?_
 ·rintro d ls M4 M5 G4 hle ⟨G0, hp, hI0⟩
  exact ⟨G0, hp, hmono _ _ _ _ hle hI0⟩
 ·intro d
  exact ⟨G, List.Perm.refl _, by simpa using hmono _ _ _ _ hM2 hIN⟩
 ·intro l1 d r1 hr1 hr1' ls dn v M4 G4 w1 F1 hdn hM4 ⟨G0, hp4, hI4⟩ hel
  refine EV.permG ?_ (List.Perm.cons _ hp4)
  have hdl : dn.length = p.length := by
   obtain ⟨set, _, rfl⟩ := List.mem_map.1 hdn; exact doneOf_len p set
  have hel0 := hel.sl
  obtain ⟨da, dc, rfl, hdc, hdr⟩ := hel
  refine EV.reg (sts := Q18_2) ?_
  simp only [wpS, wpA, wpQL, push_cast, Int.cast_ofNat_Int, reduceIte, Nat.reduceEqDiff, reduceCtorEq, Nat.reduceAdd, Nat.reduceSub, Nat.reduceMul, Int.reduceToNat, Nat.reduceLeDiff, Q18_2]
  intro db
  repeat' first
    | (refine xw ?_; (refine nx ?_; try with_reducible exact ⟨⟩))
    | fail
  refine EV.frz [(db, Cl 35 [.slice da dn.length dc])] ?_
  generalize hR : M4.add _ = N4
  have hMN4 : M4.le N4 := hR ▸ PHeap.le_add _ _
  have hdb : rd N4 db 0 1 [.slice da dn.length dc] := hR ▸ rd_own' 0 rfl rfl (by simp)
  clear hR
  refine EV.rbegin hr1 ?_
  have hN4 := PHeap.le_trans hM2 (PHeap.le_trans hM4 hMN4)
  have h1q := h1N.mono hN4
  have h2q := h2N.mono hN4
  have hyq := hyN.mono hN4
  have hpsq := hpsN.mono hN4
  have hssq := hssN.mono hN4
  have hIq := hmono _ _ _ _ hMN4 hI4
  have hdsq := hel0.mono hMN4
  have hMq := PHeap.le_trans hMN hN4
  clear h1N h2N hyN h1' h2' hps1 hss1
  repeat' first
    | refine EV.seq ?_
    | refine EV.block ?_
    | (refine EV.reg ?_; (conv => (arg 2; whnf)); (refine nx ?_; try with_reducible exact ⟨⟩))
    | (refine Exists.intro _ (Exists.intro _ (Exists.intro _ (And.intro (rd_M (by assumption)) ?_))); try (refine nx ?_; try with_reducible exact ⟨⟩))
    | fail
  refine Con.callS (G1 := []) (ax_orders_c p dn hpl hdl 3 0 rfl (Int.le_refl _) N4 _ _ hpsq hdsq) ?_
  rintro v5 M5 G5 hM5 ⟨g5, caps5, rfl, hit5⟩
  repeat' first
    | refine EV.block ?_
    | fail
  refine EV.toS (ρ' := [(0, yv ly), (1, pv pb 0), (2, pv sb 0), (3, pv yb 0), (4, pv db 0), (13, .func (.func g5) #[] caps5)]) (G' := (l1, Obj.loop { r1 with state := .busy }) :: (d, Obj.deferred (some [])) :: G0) ?_ ?env2
  case env2 =>
   repeat' first
    | (refine List.forall_mem_cons.2 (And.intro ?_ ?_))
    | (intro _ hnil; cases hnil; done)
    | rfl
    | fail
  generalize hbase : xs ++ ls.flatMap (execsD p) = ys at *
  have hLo : execsD p dn = (ordersN p dn 3 0).flatMap (execsO p dn) := rfl
  refine EV.overI (l0 := l1) (r0 := { r1 with state := .busy }) rfl (by simp) rfl rfl hit5 (fun zs M G' => ∃ G1, G'.Perm ((l1, Obj.loop { r1 with state := .busy }) :: (d, Obj.deferred (some [])) :: G1) ∧ I (ys ++ zs.flatMap (execsO p dn)) M G1)
   (fun c M G' => c = .ret ∧ ∃ G1, G'.Perm ((l1, Obj.loop { r1 with state := .busy }) :: (d, Obj.deferred (some [])) :: G1) ∧ S M G1) ?_ ?_ ?_ ?_ ?_
  ·rintro zs M6 M7 G6 hle ⟨G1, hp, hI0⟩
   exact ⟨G1, hp, hmono _ _ _ _ hle hI0⟩
  ·exact ⟨G0, List.Perm.refl _, by simpa using hmono _ _ _ _ hM5 hIq⟩
  ·intro l2 r2 hr2 hr2' zs ord v M6 G6 w2 F2 hord hM6 ⟨G1, hp6, hI6⟩ helo
   refine EV.permG ?_ (List.Perm.cons _ hp6)
   obtain ⟨hoo, hoin⟩ := ordersP_ok hp hdl hord
   have helo0 := helo
   obtain ⟨oa, oc, ovs, rfl, hol, hor, hos⟩ := helo
   refine EV.reg (sts := Q18_4) ?_
   simp only [wpS, wpA, wpQL, push_cast, Int.cast_ofNat_Int, reduceIte, Nat.reduceEqDiff, reduceCtorEq, Nat.reduceAdd, Nat.reduceSub, Nat.reduceMul, Int.reduceToNat, Nat.reduceLeDiff, Q18_4]
   intro ob
   repeat' first
     | (refine xw ?_; (refine nx ?_; try with_reducible exact ⟨⟩))
     | fail
   refine EV.frz [(ob, Cl 26 [.slice oa ord.length oc])] ?_
   generalize hR : M6.add _ = N6
   have hMN6 : M6.le N6 := hR ▸ PHeap.le_add _ _
   have hob : rd N6 ob 0 1 [.slice oa ord.length oc] := hR ▸ rd_own' 0 rfl rfl (by simp)
   clear hR
   refine EV.rbegin hr2 ?_
   have hN6 := PHeap.le_trans hM5 (PHeap.le_trans hM6 hMN6)
   have h1r := h1q.mono hN6
   have h2r := h2q.mono hN6
   have hyr := hyq.mono hN6
   have hpsr := hpsq.mono hN6
   have hssr := hssq.mono hN6
   have hIr := hmono _ _ _ _ hMN6 hI6
   have hdsr := hdsq.mono hN6
   have hdbr := hdb.mono hN6
   have hosr : SlSlC N6 1 ei (.slice oa ord.length oc) ord := SlSlC.mono hMN6 helo0
   have hMr := PHeap.le_trans hMq hN6
   clear h1q h2q hyq
   repeat' first
     | refine EV.seq ?_
     | refine EV.block ?_
     | (refine EV.reg ?_; (conv => (arg 2; whnf)); (refine nx ?_; try with_reducible exact ⟨⟩))
     | (refine Exists.intro _ (Exists.intro _ (Exists.intro _ (And.intro (rd_M (by assumption)) ?_))); try (refine nx ?_; try with_reducible exact ⟨⟩))
     | fail
   refine Con.callS (G1 := []) (ax_froms_c hp hdl hoo hpsr hdsr hosr) ?_
   rintro v7 M7 G7 hM7 ⟨g7, caps7, rfl, hit7⟩
   repeat' first
     | refine EV.block ?_
     | fail
   refine EV.toS (ρ' := [(0, yv ly), (1, pv pb 0), (2, pv sb 0), (3, pv yb 0), (4, pv db 0), (5, pv ob 0), (18, .func (.func g7) #[] caps7)]) (G' := (l2, Obj.loop { r2 with state := .busy }) :: (l1, Obj.loop { r1 with state := .busy }) :: (d, Obj.deferred (some [])) :: G1) ?_ ?env3
   case env3 =>
    repeat' first
     | (refine List.forall_mem_cons.2 (And.intro ?_ ?_))
     | (intro _ hnil; cases hnil; done)
     | rfl
     | fail
   generalize hbase2 : ys ++ zs.flatMap (execsO p dn) = us at *
   refine EV.overI (l0 := l2) (r0 := { r2 with state := .busy }) rfl (by simp) rfl rfl hit7 (fun qs M G' => ∃ G2, G'.Perm ((l2, Obj.loop { r2 with state := .busy }) :: (l1, Obj.loop { r1 with state := .busy }) :: (d, Obj.deferred (some [])) :: G2) ∧ I (us ++ qs.flatMap (execsF p dn ord)) M G2)
    (fun c M G' => c = .ret ∧ ∃ G2, G'.Perm ((l2, Obj.loop { r2 with state := .busy }) :: (l1, Obj.loop { r1 with state := .busy }) :: (d, Obj.deferred (some [])) :: G2) ∧ S M G2) ?_ ?_ ?_ ?_ ?_
   ·rintro qs M8 M9 G8 hle ⟨G2, hp, hI0⟩
    exact ⟨G2, hp, hmono _ _ _ _ hle hI0⟩
   ·exact ⟨G1, List.Perm.refl _, by simpa using hmono _ _ _ _ hM7 hIr⟩
   ·intro l3 r3 hr3 hr3' qs frm v M8 G8 w3 F3 hfrm hM8 ⟨G2, hp8, hI8⟩ helf
    refine EV.permG ?_ (List.Perm.cons _ hp8)
    have helf0 := helf.sl
    obtain ⟨fa, fc, rfl, hfc, hfr⟩ := helf
    have hx0 : ∀ fen : List Int, InEv p fen ∧ fen.length ≤ p.length → XOk p ⟨frm, dn, ord, fen⟩ := fun fen hn => exec_ok hp hdn hord hfrm hn
    have hnil : XOk p ⟨frm, dn, ord, []⟩ := hx0 [] ⟨fun x h => (nomatch h), Nat.zero_le _⟩
    refine EV.reg (sts := Q18_6) ?_
    simp only [wpS, wpA, wpQL, push_cast, Int.cast_ofNat_Int, reduceIte, Nat.reduceEqDiff, reduceCtorEq, Nat.reduceAdd, Nat.reduceSub, Nat.reduceMul, Int.reduceToNat, Nat.reduceLeDiff, Q18_6]
    refine EV.rbegin hr3 ?_
    have hN8 := PHeap.le_trans hM7 hM8
    have h1s := h1r.mono hN8
    have h2s := h2r.mono hN8
    have hys := hyr.mono hN8
    have hpss := hpsr.mono hN8
    have hsss := hssr.mono hN8
    have hdbs := hdbr.mono hN8
    have hobs := hob.mono hN8
    have hdss := hdsr.mono hN8
    have hoss : SlSlC M8 1 ei (.slice oa ord.length oc) ord := SlSlC.mono hN8 hosr
    have hMs := PHeap.le_trans hMr hN8
    clear h1r h2r hyr
    have hXs : ∀ M', M8.le M' → ∀ (n : Value) (fen : List Int), Sl M' 1 ei n fen → IsX M' (.agg #[.slice fa frm.length fc, .slice da dn.length dc, .slice oa ord.length oc, n]) ⟨frm, dn, ord, fen⟩ :=
     fun M' hM' n fen hn => ⟨_, _, _, _, rfl, helf0.mono hM', hdss.mono hM', SlSlC.mono hM' hoss, hn⟩
    have hps0 := fun G => ax_possible_q (M := M8.add G) p _ (hpss.mono (PHeap.le_add _ _)) hp ⟨frm, dn, ord, []⟩ _ (hXs _ (PHeap.le_add _ _) (.slice none 0 0) [] ⟨none, 0, rfl, .inl ⟨rfl, rfl⟩⟩) hnil
    repeat' first
      | refine EV.seq ?_
      | refine EV.skip ?_
      | refine EV.block ?_
      | (refine EV.reg ?_; (conv => (arg 2; whnf)); (refine nx ?_; try with_reducible exact ⟨⟩))
      | (refine ConQ.call (hps0 _) ?_; try (refine nx ?_; try with_reducible exact ⟨⟩))
      | (refine EV.condX rfl (fun h => ?_) (fun h => ?_) <;> try exact dead h)
      | (refine EV.exit rfl ?_)
      | ((first | with_reducible intro b | refine Exists.intro _ (Exists.intro _ (Exists.intro _ (And.intro (rd_M (by assumption)) ?_))) | refine xrA rfl ?_ | fail); try (refine nx ?_; try with_reducible exact ⟨⟩))
      | (refine xw ?_; (refine nx ?_; try with_reducible exact ⟨⟩))
      | fail
    ·have hF : execsF p dn ord frm = [] := by rw [execsF, if_neg (by simp [h])]
     refine EV.keepS ((l3, Obj.loop { r3 with state := .busy }) :: (l2, Obj.loop { r2 with state := .busy }) :: (l1, Obj.loop { r1 with state := .busy }) :: (d, Obj.deferred (some [])) :: G2) ?_
     refine EV.rend hr3 hr3' (List.Perm.refl _) ⟨G2, List.Perm.refl _, ?_⟩
     rw [List.flatMap_append, List.flatMap_singleton, hF, List.append_nil]
     exact hmono _ _ _ _ (PHeap.le_add _ _) hI8
    ·have hF : execsF p dn ord frm = ((mergesP p (fencesI p)).map fun f => (⟨frm, dn, ord, f⟩ : Exec)).filter fun e => decide (brokenP p e = 0) := by rw [execsF, if_pos h]
     have hfl : (fencesI p).length ≤ p.length := pickI_len _ _
     refine Con.callS (G1 := []) (ax_merges_c p (by omega) hpss hsss (fences_in p) (by omega)) ?_
     rintro v9 M9 G9 hM9 ⟨g9, caps9, rfl, hit9⟩
     repeat' first
       | refine EV.block ?_
       | fail
     refine EV.toS (ρ' := [(0, yv ly), (1, pv pb 0), (2, pv sb 0), (3, pv yb 0), (4, pv db 0), (5, pv ob 0), (7, pv b 0), (30, .func (.func g9) #[] caps9)]) (G' := (b, Cl 45 [.slice fa frm.length fc, .slice da dn.length dc, .slice oa ord.length oc, .slice none 0 0]) :: (l3, Obj.loop { r3 with state := .busy }) :: (l2, Obj.loop { r2 with state := .busy }) :: (l1, Obj.loop { r1 with state := .busy }) :: (d, Obj.deferred (some [])) :: G2) ?_ ?env4
     case env4 =>
      repeat' first
       | (refine List.forall_mem_cons.2 (And.intro ?_ ?_))
       | (intro _ hnil; cases hnil; done)
       | rfl
       | fail
     generalize hbase3 : us ++ qs.flatMap (execsF p dn ord) = ts at *
     refine EV.overI (l0 := l3) (r0 := { r3 with state := .busy }) rfl (by simp) rfl rfl hit9 (fun ns M G' => ∃ fv G3, G'.Perm ((b, Cl 45 [.slice fa frm.length fc, .slice da dn.length dc, .slice oa ord.length oc, fv]) :: (l3, Obj.loop { r3 with state := .busy }) :: (l2, Obj.loop { r2 with state := .busy }) :: (l1, Obj.loop { r1 with state := .busy }) :: (d, Obj.deferred (some [])) :: G3) ∧ I (ts ++ (ns.map fun f => (⟨frm, dn, ord, f⟩ : Exec)).filter fun e => decide (brokenP p e = 0)) M G3)
      (fun c M G' => c = .ret ∧ ∃ fv G3, G'.Perm ((b, Cl 45 [.slice fa frm.length fc, .slice da dn.length dc, .slice oa ord.length oc, fv]) :: (l3, Obj.loop { r3 with state := .busy }) :: (l2, Obj.loop { r2 with state := .busy }) :: (l1, Obj.loop { r1 with state := .busy }) :: (d, Obj.deferred (some [])) :: G3) ∧ S M G3) ?_ ?_ ?_ ?_ ?_
     ·rintro ns M10 M11 G10 hle ⟨fv, G3, hp, hI0⟩
      exact ⟨fv, G3, hp, hmono _ _ _ _ hle hI0⟩
     ·exact ⟨_, G2, List.Perm.refl _, by simpa using hmono _ _ _ _ hM9 hI8⟩
     ·intro l4 r4 hr4 hr4' ns fen v M10 G10 w4 F4 hfen hM10 ⟨fv, G3, hp10, hI10⟩ heln
      refine EV.permG ?_ (List.Perm.cons _ hp10)
      have heln0 := heln.sl
      obtain ⟨na, nc, rfl, hnc, hnr⟩ := heln
      have hMx := PHeap.le_trans hM9 hM10
      have hxx : XOk p ⟨frm, dn, ord, fen⟩ := hx0 fen (merges_fen hfen)
      have hX := fun M' (hM' : M10.le M') => hXs M' (PHeap.le_trans hMx hM') (.slice na fen.length nc) fen (heln0.mono hM')
      have hbr := fun G => ax_broken_q (M := M10.add G) p _ (hpss.mono (PHeap.le_trans hMx (PHeap.le_add _ _))) hp ⟨frm, dn, ord, fen⟩ _ (hX _ (PHeap.le_add _ _)) hxx
      obtain ⟨c1, c2, c3, c4, c5⟩ := exec_len hp hxx
      have hcp := ax_copy_c (M := M10) ⟨frm, dn, ord, fen⟩ _ (hX _ (PHeap.le_refl _)) c1 c2 c3 c4 c5
      have h1z := h1s.mono hMx
      have hyz := hys.mono hMx
      repeat' first
        | (refine EV.reg ?_; (conv => (arg 2; whnf)); (refine nx ?_; try with_reducible exact ⟨⟩))
        | (refine xw ?_; (refine nx ?_; try with_reducible exact ⟨⟩))
        | fail
      refine EV.rbegin hr4 ?_
      refine EV.block (EV.seq ?_)
      refine EV.any (t := Q18_11) [(b, Cl 45 [.slice fa frm.length fc, .slice da dn.length dc, .slice oa ord.length oc, .slice na fen.length nc])] (List.Sublist.cons _ (List.Sublist.cons_cons _ (List.nil_sublist _))) ?_
      simp only [norm_cons, norm_nil, get_cons, get_nil, reduceIte, Nat.reduceEqDiff]
      by_cases hb : brokenP p ⟨frm, dn, ord, fen⟩ = 0
      ·have hb0 : decide (brokenP p ⟨frm, dn, ord, fen⟩ = 0) = true := decide_eq_true hb
       repeat' first
         | ((first | refine wQ_op (by first | with_reducible assumption | rfl) (fun lq hlq => ?_) | refine wQ_nil (by first | with_reducible assumption | rfl) ?_ | fail); try simp only [push_cast, Int.cast_ofNat_Int, reduceIte, Nat.reduceEqDiff, reduceCtorEq, Nat.reduceAdd, Nat.reduceSub, Nat.reduceMul, Int.reduceToNat, Nat.reduceLeDiff, hb0])
         | refine wA_q (by first | with_reducible assumption | rfl) (fun lq tq hlq htq => ?_)
         | (refine Exists.intro _ (And.intro (hbr _) ?_); try simp only [push_cast, Int.cast_ofNat_Int, reduceIte, Nat.reduceEqDiff, reduceCtorEq, Nat.reduceAdd, Nat.reduceSub, Nat.reduceMul, Int.reduceToNat, Nat.reduceLeDiff, hb0])
         | (refine wA_s (by first | with_reducible assumption | rfl) (fun tq htq => ?_) (fun tq htq => ?_) <;> try simp only [push_cast, Int.cast_ofNat_Int, reduceIte, Nat.reduceEqDiff, reduceCtorEq, Nat.reduceAdd, Nat.reduceSub, Nat.reduceMul, Int.reduceToNat, Nat.reduceLeDiff, hb0])
         | exact wA_no (by first | with_reducible assumption | rfl)
         | ((refine wA_br (by first | with_reducible assumption | rfl) rfl (fun tq htq h => ?_) (fun tq htq h => ?_)) <;> try (exfalso; simp at h; done))
         | ((first | refine Exists.intro _ (And.intro (rd_M (by assumption)) ?_) | refine Exists.intro _ (Exists.intro _ (Exists.intro _ (And.intro (rd_M (by assumption)) ?_))) | refine xrA rfl ?_ | fail); try simp only [push_cast, Int.cast_ofNat_Int, reduceIte, Nat.reduceEqDiff, reduceCtorEq, Nat.reduceAdd, Nat.reduceSub, Nat.reduceMul, Int.reduceToNat, Nat.reduceLeDiff, hb0])
         | fail
       refine Con.callS (G1 := []) hcp ?_
       rintro v11 M11 G11 hM11 hv11
       repeat' first
         | (refine And.intro (by omega) ?_)
         | fail
       refine ⟨fun q hq => by simp only [List.mem_singleton] at hq; simp [hq], ?_⟩
       repeat' first
         | (refine wQ_nil (by first | with_reducible assumption | rfl) ?_; try simp only [push_cast, Int.cast_ofNat_Int, reduceIte, Nat.reduceEqDiff, reduceCtorEq, Nat.reduceAdd, Nat.reduceSub, Nat.reduceMul, Int.reduceToNat, Nat.reduceLeDiff, hb0])
         | refine wA_q (by first | with_reducible assumption | rfl) (fun lq tq hlq htq => ?_)
         | (refine wA_sT (by first | with_reducible assumption | rfl) (fun tq htq => ?_) (fun tq htq => ?_) <;> try simp only [push_cast, Int.cast_ofNat_Int, reduceIte, Nat.reduceEqDiff, reduceCtorEq, Nat.reduceAdd, Nat.reduceSub, Nat.reduceMul, Int.reduceToNat, Nat.reduceLeDiff, hb0])
         | exact wA_no (by first | with_reducible assumption | rfl)
         | fail
       refine YieldW.frzS G11 ?_
       have hmem : (⟨frm, dn, ord, fen⟩ : Exec) ∈ execsP p :=
        List.mem_flatMap.2 ⟨dn, hdn, List.mem_flatMap.2 ⟨ord, hord, List.mem_flatMap.2 ⟨frm, hfrm, by rw [hF]; exact List.mem_filter.2 ⟨List.mem_map.2 ⟨fen, hfen, rfl⟩, hb0⟩⟩⟩⟩
       refine YCon.callS (hy _ _ hmem _ G3 _ (PHeap.le_trans hMs (PHeap.le_trans hMx (PHeap.le_trans hM11 (PHeap.le_add _ _)))) (hmono _ _ _ _ (PHeap.le_trans hM11 (PHeap.le_add _ _)) hI10) (IsX.mono (PHeap.le_add _ _) hv11)) ?_
       rintro v12 M12 G12 hM12 (⟨rfl, hI12⟩ | ⟨rfl, hS12⟩)
       ·repeat' first
         | ((first | refine wQ_op (by first | with_reducible assumption | rfl) (fun lq hlq => ?_) | refine wQ_nil (by first | with_reducible assumption | rfl) ?_ | fail); try simp only [push_cast, Int.cast_ofNat_Int, reduceIte, Nat.reduceEqDiff, reduceCtorEq, Nat.reduceAdd, Nat.reduceSub, Nat.reduceMul, Int.reduceToNat, Nat.reduceLeDiff, Bool.not_true])
         | refine wA_q (by first | with_reducible assumption | rfl) (fun lq tq hlq htq => ?_)
         | refine wA_fin (by first | with_reducible assumption | rfl) ?_
         | ((refine wQ_g (by first | with_reducible assumption | rfl) rfl ?_ (fun lq hlq hc => ?_) (fun lq hlq => ?_); rotate_left) <;> (try (exfalso; simp at hc; done)) <;> try simp only [push_cast, Int.cast_ofNat_Int, reduceIte, Nat.reduceEqDiff, reduceCtorEq, Nat.reduceAdd, Nat.reduceSub, Nat.reduceMul, Int.reduceToNat, Nat.reduceLeDiff, Bool.not_true])
         | with_reducible rfl
         | fail
        repeat' first
          | refine EV.skip ?_
          | refine EV.inBlock ?_
          | (refine EV.condX rfl (fun h => ?_) (fun h => ?_) <;> try exact dead h)
          | fail
        refine EV.rend hr4 hr4' (List.Perm.refl _) ⟨_, G12, List.Perm.refl _, ?_⟩
        rw [List.map_append, List.filter_append, List.map_singleton, List.filter_cons, List.filter_nil, hb0, if_pos rfl, ← List.append_assoc]; exact hI12
       ·repeat' first
         | ((first | refine wQ_op (by first | with_reducible assumption | rfl) (fun lq hlq => ?_) | refine wQ_nil (by first | with_reducible assumption | rfl) ?_ | fail); try simp only [push_cast, Int.cast_ofNat_Int, reduceIte, Nat.reduceEqDiff, reduceCtorEq, Nat.reduceAdd, Nat.reduceSub, Nat.reduceMul, Int.reduceToNat, Nat.reduceLeDiff, Bool.not_false])
         | refine wA_q (by first | with_reducible assumption | rfl) (fun lq tq hlq htq => ?_)
         | refine wA_fin (by first | with_reducible assumption | rfl) ?_
         | ((refine wQ_g (by first | with_reducible assumption | rfl) rfl ?_ (fun lq hlq hc => ?_) (fun lq hlq => ?_); rotate_left) <;> (try (exfalso; simp at hc; done)) <;> try simp only [push_cast, Int.cast_ofNat_Int, reduceIte, Nat.reduceEqDiff, reduceCtorEq, Nat.reduceAdd, Nat.reduceSub, Nat.reduceMul, Int.reduceToNat, Nat.reduceLeDiff, Bool.not_false])
         | with_reducible rfl
         | fail
        repeat' first
          | (refine EV.condX rfl (fun h => ?_) (fun h => ?_) <;> try exact dead h)
          | fail
        exact EV.rret (List.Perm.refl _) ⟨rfl, _, G12, List.Perm.refl _, hS12⟩
      ·have hb0 : decide (brokenP p ⟨frm, dn, ord, fen⟩ = 0) = false := decide_eq_false hb
       repeat' first
         | ((first | refine wQ_op (by first | with_reducible assumption | rfl) (fun lq hlq => ?_) | refine wQ_nil (by first | with_reducible assumption | rfl) ?_ | fail); try simp only [push_cast, Int.cast_ofNat_Int, reduceIte, Nat.reduceEqDiff, reduceCtorEq, Nat.reduceAdd, Nat.reduceSub, Nat.reduceMul, Int.reduceToNat, Nat.reduceLeDiff, hb0])
         | refine wA_q (by first | with_reducible assumption | rfl) (fun lq tq hlq htq => ?_)
         | (refine Exists.intro _ (And.intro (hbr _) ?_); try simp only [push_cast, Int.cast_ofNat_Int, reduceIte, Nat.reduceEqDiff, reduceCtorEq, Nat.reduceAdd, Nat.reduceSub, Nat.reduceMul, Int.reduceToNat, Nat.reduceLeDiff, hb0])
         | refine wA_fin (by first | with_reducible assumption | rfl) ?_
         | refine wA_sk (by first | with_reducible assumption | rfl) (fun tq htq => ?_)
         | ((refine wA_br (by first | with_reducible assumption | rfl) rfl (fun tq htq h => ?_) (fun tq htq h => ?_)) <;> try (exfalso; simp at h; done))
         | ((refine wQ_g (by first | with_reducible assumption | rfl) rfl ?_ (fun lq hlq hc => ?_) (fun lq hlq => ?_); rotate_left) <;> (try (exfalso; simp at hc; done)) <;> try simp only [push_cast, Int.cast_ofNat_Int, reduceIte, Nat.reduceEqDiff, reduceCtorEq, Nat.reduceAdd, Nat.reduceSub, Nat.reduceMul, Int.reduceToNat, Nat.reduceLeDiff, hb0])
         | ((first | refine Exists.intro _ (Exists.intro _ (Exists.intro _ (And.intro (rd_M (by assumption)) ?_))) | refine xrA rfl ?_ | fail); try simp only [push_cast, Int.cast_ofNat_Int, reduceIte, Nat.reduceEqDiff, reduceCtorEq, Nat.reduceAdd, Nat.reduceSub, Nat.reduceMul, Int.reduceToNat, Nat.reduceLeDiff, hb0])
         | exact false
         | fail
       repeat' first
         | refine EV.skip ?_
         | refine EV.inBlock ?_
         | (refine EV.condX rfl (fun h => ?_) (fun h => ?_) <;> try exact dead h)
         | fail
       refine EV.rend hr4 hr4' (List.Perm.refl _) ⟨_, G3, List.Perm.refl _, ?_⟩
       rw [List.map_append, List.filter_append, List.map_singleton, List.filter_cons, List.filter_nil, hb0, if_neg (by decide), List.append_nil]; exact hI10
     ·rintro M10 G10 hM10 ⟨fv, G3, hp10, hI10⟩
      repeat' first
        | refine EV.inBlock ?_
        | fail
      refine EV.permG ?_ hp10
      refine EV.keepS ((l3, Obj.loop { r3 with state := .busy }) :: (l2, Obj.loop { r2 with state := .busy }) :: (l1, Obj.loop { r1 with state := .busy }) :: (d, Obj.deferred (some [])) :: G3) ?_
      refine EV.rend hr3 hr3' (List.Perm.refl _) ⟨G3, List.Perm.refl _, ?_⟩
      rw [List.flatMap_append, List.flatMap_singleton, ← List.append_assoc, hbase3, hF]
      exact hmono _ _ _ _ (PHeap.le_add _ _) hI10
     ·rintro c M10 G10 hM10 ⟨rfl, fv, G3, hp10, hS10⟩
      refine EV.permG ?_ hp10
      refine EV.keepS ((l3, Obj.loop { r3 with state := .busy }) :: (l2, Obj.loop { r2 with state := .busy }) :: (l1, Obj.loop { r1 with state := .busy }) :: (d, Obj.deferred (some [])) :: G3) ?_
      exact EV.rret (List.Perm.refl _) ⟨rfl, G3, List.Perm.refl _, hSm _ _ _ (PHeap.le_add _ _) hS10⟩
   ·rintro M8 G8 hM8 ⟨G2, hp8, hI8⟩
    repeat' first
      | refine EV.inBlock ?_
      | fail
    refine EV.rend hr2 hr2' hp8 ⟨G2, List.Perm.refl _, ?_⟩
    rw [List.flatMap_append, List.flatMap_singleton, ← List.append_assoc, hbase2]; exact hI8
   ·rintro c M8 G8 hM8 ⟨rfl, G2, hp8, hS8⟩
    exact EV.rret hp8 ⟨rfl, G2, List.Perm.refl _, hS8⟩
  ·rintro M6 G6 hM6 ⟨G1, hp6, hI6⟩
   repeat' first
     | refine EV.inBlock ?_
     | fail
   refine EV.rend hr1 hr1' hp6 ⟨G1, List.Perm.refl _, ?_⟩
   rw [List.flatMap_append, List.flatMap_singleton, ← List.append_assoc, hbase]; exact hI6
  ·rintro c M6 G6 hM6 ⟨rfl, G1, hp6, hS6⟩
   exact EV.rret hp6 ⟨rfl, G1, List.Perm.refl _, hS6⟩
 ·rintro d M4 G4 hM4 ⟨G0, hp4, hI4⟩
  refine EV.inBlock ?_
  refine EV.doneM Q18_ok (ms := [d]) (by simpa [msOwn] using hp4) ?_
  simp only [wpS, wpA, wpQL, push_cast, Int.cast_ofNat_Int, reduceIte, Nat.reduceEqDiff, reduceCtorEq, Nat.reduceAdd, Nat.reduceSub, Nat.reduceMul, Int.reduceToNat, Nat.reduceLeDiff, Q18]
  left; rw [hLs]; exact hI4
 ·rintro d c M4 G4 hM4 ⟨rfl, G0, hp4, hS4⟩
  refine EV.retM Q18_ok (ms := [d]) (by simpa [msOwn] using hp4) ?_
  simp only [wpS, wpA, wpQL, push_cast, Int.cast_ofNat_Int, reduceIte, Nat.reduceEqDiff, reduceCtorEq, Nat.reduceAdd, Nat.reduceSub, Nat.reduceMul, Int.reduceToNat, Nat.reduceLeDiff, Q18]
  right; exact hS4

/-- What hands back an iterator, whose jumps must last. -/
def ItsM {α : Type} (L : List α) (El : α → Value → PHeap → Prop) (v : Value) (M : PHeap) (_ : Own) : Prop := ∃ g caps, v = .func (.func g) #[] caps ∧ IterM Tryz.prog g #[] caps M L El

set_option maxHeartbeats 4000000 in
theorem ax_execs_c (p : List Ev) (hp : POk p) {ps : Value} (hps : Sl M 6 encEv ps p) : Con Tryz.prog 34 #[ps] M [] (ItsM (execsP p) ElX) := by
 have hpl := hp.len
 refine Con.enter Q16_ok (args := [ps]) (by simp [Q16]) fun w0 => ?_
 simp only [Q16, argE]
 have hps0 := hps
 obtain ⟨ea, ec, rfl, hpr⟩ := hps
 refine EV.seq (EV.reg ?_)
 simp only [wpS, wpA, wpQL, push_cast, Int.cast_ofNat_Int, reduceIte, Nat.reduceEqDiff, reduceCtorEq, Nat.reduceAdd, Nat.reduceSub, Nat.reduceMul, Int.reduceToNat, Nat.reduceLeDiff, Q16_0]
 intro pb
 refine EV.frz [(pb, Cl 74 [.slice ea p.length ec])] ?_
 generalize hR : M.add _ = N
 have hMN : M.le N := hR ▸ PHeap.le_add _ _
 have hpb : rd N pb 0 1 [.slice ea p.length ec] := hR ▸ rd_own' 0 rfl rfl (by simp)
 clear hR
 repeat' first
   | refine EV.seq ?_
   | (refine EV.reg ?_; (conv => (arg 2; whnf)); (refine nx ?_; try with_reducible exact ⟨⟩))
   | (refine Exists.intro _ (Exists.intro _ (Exists.intro _ (And.intro (rd_M (by assumption)) ?_))); try (refine nx ?_; try with_reducible exact ⟨⟩))
   | fail
 refine Con.callS (G1 := []) (ax_pick_c p _ ⟨ea, ec, rfl, hpr.mono hMN⟩ (by omega) _ _ (fun i => (evAt p i).strong) ?_) ?_
 ·intro M' hM' i hi
  obtain ⟨eb1, eo, rfl, hat⟩ := Sl.at (enc := encEv) (fun _ => rfl) (by decide) hpr (by omega)
  exact ax_execs_S1_q p (hpb.mono hM') i hi ((Sl.evAt hat i hi).mono (PHeap.le_trans hMN hM'))
 rintro v M2 G2 hM2 ⟨of, rfl, hof, rfl⟩
 repeat' first
   | refine EV.seq ?_
   | (refine EV.reg ?_; (conv => (arg 2; whnf)); (refine nx ?_; try with_reducible exact ⟨⟩))
   | (with_reducible intro b; try (refine nx ?_; try with_reducible exact ⟨⟩))
   | (refine xw ?_; (refine nx ?_; try with_reducible exact ⟨⟩))
   | fail
 refine EV.keepS [] ?_
 generalize hR : M2.add _ = N2
 have hMN2 : M2.le N2 := hR ▸ PHeap.le_add _ _
 refine EV.ret Q16_ok ?_
 simp only [wpS, wpA, wpQL, push_cast, Int.cast_ofNat_Int, reduceIte, Nat.reduceEqDiff, reduceCtorEq, Nat.reduceAdd, Nat.reduceSub, Nat.reduceMul, Int.reduceToNat, Nat.reduceLeDiff, Q16]
 refine ⟨_, _, rfl, ax_execs_it p hp (hps0.mono (PHeap.le_trans hMN (PHeap.le_trans hM2 hMN2))) (hR ▸ SlC_osv (T := 3) hof rfl (fun q hq => by simp [hq])) (hpb.mono (PHeap.le_trans hM2 hMN2)) (hR ▸ rd_own' 0 rfl rfl (by simp))⟩

end
end Go.EV

namespace Go.EV
open Go.Proofs

theorem evsGo_mem : ∀ (l : List (List OpV)) (n : Nat) (e : Ev), e ∈ evsGo n l → e.op ∈ l.flatten
 | [], _, e, h => by simp [evsGo] at h
 | t :: l, n, e, h => by
  simp only [evsGo, List.mem_append, List.mem_map] at h
  rcases h with ⟨o, ho, rfl⟩ | h
  ·exact List.mem_flatten.2 ⟨t, List.mem_cons_self .., ho⟩
  ·obtain ⟨l', h1, h2⟩ := List.mem_flatten.1 (evsGo_mem l (n + 1) e h)
   exact List.mem_flatten.2 ⟨l', List.mem_cons_of_mem _ h1, h2⟩

theorem expOp_ok {o : OpV} (h : okOp o = true) : ∀ x ∈ expOp o, isOrderP x.ord = true ∧ 0 ≤ x.loc ∧ x.loc < 3 := by
 obtain ⟨q1, q2, q3⟩ := (okOp_iff o).1 h
 have hl : 0 ≤ o.loc ∧ o.loc < 3 := by
  simp only [fitsP, Bool.and_eq_true, decide_eq_true_eq] at q3; exact q3.1
 have ho : isOrderP o.ord = true := by
  simp only [mayR, Bool.and_eq_true] at q1; exact q1.2
 intro x hx
 unfold expOp at hx
 split at hx
 ·simp only [List.mem_singleton] at hx; subst hx; exact ⟨ho, hl⟩
 ·simp only [List.mem_cons, List.not_mem_nil, or_false] at hx
  rcases hx with rfl | rfl | rfl
  ·decide
  ·refine ⟨?_, hl⟩
   have : ∀ k : Int, isOrderP (plainP k o.ord) = true := fun k => by
    unfold plainP
    split
    ·exact ho
    ·split
     ·decide
     ·split <;> decide
   exact this _
  ·decide

theorem exp_size (l : List OpV) (hall : ∀ o ∈ l, okOp o = true) : ((expT l).length : Int) ≤ (limOf l).acc + (limOf l).fen ∧ True := by
 have key : ∀ (l : List OpV) (s : LimS), (∀ o ∈ l, okOp o = true) → ((expT l).length : Int) + s.acc + s.fen ≤ (l.foldl limStep s).acc + (l.foldl limStep s).fen := by
  intro l
  induction l with
  | nil => intro s _; simp [expT]
  | cons o l ih =>
   intro s h
   have ih2 := ih (limStep s o) (fun x hx => h x (List.mem_cons_of_mem _ hx))
   have ho := h o (List.mem_cons_self ..)
   obtain ⟨q1, q2, q3⟩ := (okOp_iff o).1 ho
   have hk : 0 ≤ o.kind ∧ o.kind < 6 := by
    simp only [mayR, Bool.and_eq_true, decide_eq_true_eq] at q1; exact q1.1
   have e : (expT (o :: l)).length = (expOp o).length + (expT l).length := by simp [expT]
   have : ((expOp o).length : Int) + s.acc + s.fen ≤ (limStep s o).acc + (limStep s o).fen := by
    by_cases h5 : o.kind = 5
    ·have e1 : (expOp o).length = 1 := by unfold expOp accessP; rw [if_pos (by left; simp [h5])]; rfl
     have e2 : (limStep s o).acc = s.acc ∧ (limStep s o).fen = s.fen + 1 := by unfold limStep; rw [if_pos h5]; exact ⟨rfl, rfl⟩
     omega
    ·have ha : accessP o = true := by simp [accessP]; omega
     by_cases h4 : o.ord = 4
     ·have e1 : (expOp o).length = 3 := by unfold expOp; rw [if_neg (by simp [ha, h4])]; rfl
      have e2 : (limStep s o).acc = s.acc + 1 ∧ (limStep s o).fen = s.fen + 2 := by unfold limStep; rw [if_neg h5, if_pos ha]; simp [h4]
      omega
     ·have e1 : (expOp o).length = 1 := by unfold expOp; rw [if_pos (by right; exact h4)]; rfl
      have e2 : (limStep s o).acc = s.acc + 1 ∧ (limStep s o).fen = s.fen := by unfold limStep; rw [if_neg h5, if_pos ha]; simp [h4]
      omega
   rw [List.foldl_cons]
   omega
 exact ⟨by have := key l ⟨0, 0, 0, 0, 0⟩ hall; simpa [limOf] using this, trivial⟩

theorem evs_pok {ts : List (List OpV)} (h : checkP ts = 0) : POk (evsOf ts) := by
 obtain ⟨hl, hn, hall⟩ := checkP_zero h
 have hall' : ∀ o ∈ ts.flatten, okOp o = true := List.all_eq_true.1 hall
 have hfl : (ts.map expT).flatten = expT ts.flatten := by simp [expT, List.flatMap_def, List.map_flatten, List.flatten_flatten, List.map_map]; rfl
 have hmem : ∀ i, i < (evsOf ts).length → isOrderP (evAt (evsOf ts) i).op.ord = true ∧ 0 ≤ (evAt (evsOf ts) i).op.loc ∧ (evAt (evsOf ts) i).op.loc < 3 := by
  intro i hi
  have he : evAt (evsOf ts) i = (evsOf ts)[i] := by simp [evAt, hi]
  rw [he]
  have := evsGo_mem _ _ _ (List.getElem_mem hi)
  rw [hfl, expT, List.mem_flatMap] at this
  obtain ⟨o, ho, hx⟩ := this
  exact expOp_ok (hall' o ho) _ hx
 refine ⟨?_, fun i hi => (hmem i hi).1, fun i hi => (hmem i hi).2⟩
 have h1 := (exp_size ts.flatten hall').1
 simp only [limitsP, Bool.and_eq_true, decide_eq_true_eq] at hl
 have : (evsOf ts).length = (expT ts.flatten).length := by rw [evsOf, evsGo_len, hfl]
 omega

section
variable {M : PHeap}

end
end Go.EV

namespace Go.EV
open Go.Proofs

/-! ### Few things -/
theorem len_le_of_sub {α : Type} [DecidableEq α] : ∀ {l m : List α}, l.Nodup → (∀ x ∈ l, x ∈ m) → l.length ≤ m.length
 | [], _, _, _ => Nat.zero_le _
 | x :: l, m, hn, h => by
  obtain ⟨h1, h2⟩ := List.nodup_cons.1 hn
  have hx : x ∈ m := h x (List.mem_cons_self ..)
  have := len_le_of_sub (l := l) (m := m.erase x) h2 (fun y hy => (List.mem_erase_of_ne (fun e => by subst e; exact h1 hy)).2 (h y (List.mem_cons_of_mem _ hy)))
  rw [List.length_erase_of_mem hx] at this
  have hpos : 0 < m.length := List.length_pos_of_mem hx
  rw [List.length_cons]; omega

/-- All ways to take one of each. -/
def prodL {α : Type} : List (List α) → List (List α)
 | [] => [[]]
 | l :: ls => l.flatMap fun x => (prodL ls).map (x :: ·)
theorem mem_prodL {α : Type} : ∀ {ls : List (List α)} {x : List α}, x.length = ls.length → (∀ i (h : i < x.length) (h' : i < ls.length), x[i] ∈ ls[i]) → x ∈ prodL ls
 | [], x, hl, _ => by
  have : x = [] := List.length_eq_zero_iff.1 hl
  simp [prodL, this]
 | l :: ls, [], hl, _ => by simp at hl
 | l :: ls, y :: x, hl, h => by
  simp only [prodL, List.mem_flatMap, List.mem_map]
  exact ⟨y, h 0 (by simp) (by simp), x, mem_prodL (by simpa using hl) (fun i h1 h2 => by have := h (i + 1) (by simpa using h1) (by simpa using h2); rwa [List.getElem_cons_succ, List.getElem_cons_succ] at this), rfl⟩
theorem flatMap_le {α β : Type} {f : α → List β} {c : Nat} : ∀ {l : List α}, (∀ x ∈ l, (f x).length ≤ c) → (l.flatMap f).length ≤ l.length * c
 | [], _ => by simp
 | x :: l, h => by
  have h1 := flatMap_le (l := l) (fun y hy => h y (List.mem_cons_of_mem _ hy))
  have h2 := h x (List.mem_cons_self ..)
  rw [List.flatMap_cons, List.length_append, List.length_cons, Nat.succ_mul]; omega
theorem prodL_cons_le {α : Type} {l : List α} {ls : List (List α)} {a b : Nat} (h1 : l.length ≤ a) (h2 : (prodL ls).length ≤ b) : (prodL (l :: ls)).length ≤ a * b := by
 have : (prodL (l :: ls)).length ≤ l.length * b := flatMap_le fun x _ => by rw [List.length_map]; exact h2
 exact Nat.le_trans this (Nat.mul_le_mul_right _ h1)
theorem prodL_map_le {f : Nat → List Int} {g : Nat → Bool} {c : Nat} (hc : 0 < c) (h1 : ∀ i, g i = true → (f i).length ≤ c) (h2 : ∀ i, g i = false → (f i).length ≤ 1) : ∀ (l : List Nat), (prodL (l.map f)).length ≤ c ^ (l.filter g).length
 | [] => by simp [prodL]
 | x :: l => by
  have ih := prodL_map_le hc h1 h2 l
  rw [List.map_cons]
  cases hg : g x with
  | true =>
   rw [List.filter_cons, hg, if_pos rfl, List.length_cons, Nat.pow_succ, Nat.mul_comm]
   exact prodL_cons_le (h1 x hg) ih
  | false =>
   rw [List.filter_cons, hg, if_neg (by decide)]
   have := prodL_cons_le (h2 x hg) ih
   rwa [Nat.one_mul] at this

/-! ### The events of a program that is fit -/
theorem range_evAt (p : List Ev) : (List.range p.length).map (evAt p) = p := by
 refine List.ext_getElem (by simp) fun i h1 h2 => ?_
 rw [List.getElem_map, List.getElem_range, evAt_eq h2]
theorem filter_range (p : List Ev) (g : Ev → Bool) : ((List.range p.length).filter fun i => g (evAt p i)).length = (p.filter g).length := by
 conv => rhs; rw [← range_evAt p]
 rw [List.filter_map, List.length_map]; rfl
theorem evsGo_filter (g : OpV → Bool) : ∀ (l : List (List OpV)) (n : Nat), ((evsGo n l).filter fun e => g e.op).length = (l.flatten.filter g).length
 | [], n => rfl
 | t :: l, n => by
  rw [evsGo, List.filter_append, List.length_append, evsGo_filter g l (n + 1), List.flatten_cons, List.filter_append, List.length_append, List.filter_map, List.length_map]; rfl
theorem expT_filter {g : OpV → Bool} (h5 : g sfence = false) (ho : ∀ o : OpV, ∀ r, g { o with ord := r } = g o) : ∀ l : List OpV, ((expT l).filter g).length = (l.filter g).length
 | [] => rfl
 | o :: l => by
  have ih := expT_filter h5 ho l
  have e : expT (o :: l) = expOp o ++ expT l := by simp [expT]
  have h1 : ((expOp o).filter g).length = ([o].filter g).length := by
   unfold expOp
   split
   ·rfl
   ·simp only [List.filter_cons, h5, ho, List.filter_nil]
    cases g o <;> simp
  rw [e, List.filter_append, List.length_append, ih, h1, ← List.length_append, ← List.filter_append]; rfl
theorem evs_flat (ts : List (List OpV)) : (ts.map expT).flatten = expT ts.flatten := by simp [expT, List.flatMap_def, List.map_flatten, List.flatten_flatten, List.map_map]; rfl
theorem evs_filter {g : OpV → Bool} (h5 : g sfence = false) (ho : ∀ o : OpV, ∀ r, g { o with ord := r } = g o) (ts : List (List OpV)) : ((evsOf ts).filter fun e => g e.op).length = (ts.flatten.filter g).length := by
 rw [evsOf, evsGo_filter, evs_flat, expT_filter h5 ho]

theorem expOp_kind {o : OpV} (h : okOp o = true) : ∀ x ∈ expOp o, 0 ≤ x.kind ∧ x.kind ≤ 5 := by
 obtain ⟨q1, _, _⟩ := (okOp_iff o).1 h
 have hk : 0 ≤ o.kind ∧ o.kind < 6 := by simp only [mayR, Bool.and_eq_true, decide_eq_true_eq] at q1; exact q1.1
 intro x hx
 unfold expOp at hx
 split at hx
 ·simp only [List.mem_singleton] at hx; subst hx; omega
 ·simp only [List.mem_cons, List.not_mem_nil, or_false] at hx
  rcases hx with rfl | rfl | rfl
  ·decide
  ·exact ⟨hk.1, by have := hk.2; show o.kind ≤ 5; omega⟩
  ·decide

theorem evs_op {ts : List (List OpV)} (h : checkP ts = 0) (i : Nat) (hi : i < (evsOf ts).length) : ∃ o, okOp o = true ∧ o ∈ ts.flatten ∧ (evAt (evsOf ts) i).op ∈ expOp o := by
 obtain ⟨_, _, hall⟩ := checkP_zero h
 rw [evAt_eq hi]
 have := evsGo_mem _ _ _ (List.getElem_mem hi)
 rw [evs_flat, expT, List.mem_flatMap] at this
 obtain ⟨o, ho, hx⟩ := this
 exact ⟨o, List.all_eq_true.1 hall o ho, ho, hx⟩
theorem evs_kind {ts : List (List OpV)} (h : checkP ts = 0) (i : Nat) (hi : i < (evsOf ts).length) : 0 ≤ (evAt (evsOf ts) i).op.kind ∧ (evAt (evsOf ts) i).op.kind ≤ 5 := by
 obtain ⟨o, h1, _, h2⟩ := evs_op h i hi
 exact expOp_kind h1 _ h2

theorem evsGo_mono : ∀ (l : List (List OpV)) (n : Nat), (evsGo n l).Pairwise (fun a b => a.th ≤ b.th) ∧ ∀ e ∈ evsGo n l, (n : Int) ≤ e.th
 | [], n => ⟨List.Pairwise.nil, fun e h => nomatch h⟩
 | t :: l, n => by
  obtain ⟨h1, h2⟩ := evsGo_mono l (n + 1)
  rw [evsGo]
  refine ⟨List.pairwise_append.2 ⟨?_, h1, ?_⟩, ?_⟩
  ·rw [List.pairwise_map]; exact List.pairwise_of_forall fun _ _ => Int.le_refl _
  ·intro a ha b hb
   obtain ⟨o, _, rfl⟩ := List.mem_map.1 ha
   have := h2 b hb
   show (n : Int) ≤ b.th
   omega
  ·intro e he
   rcases List.mem_append.1 he with he | he
   ·obtain ⟨o, _, rfl⟩ := List.mem_map.1 he
    exact Int.le_refl _
   ·have := h2 e he; omega
theorem evs_mono (ts : List (List OpV)) : Mono (evsOf ts) := by
 intro a b hab hb
 rcases Nat.lt_or_eq_of_le hab with h | h
 ·have := (List.pairwise_iff_getElem.1 (evsGo_mono (ts.map expT) 0).1) a b (by rw [evsOf] at hb; omega) hb h
  rw [evAt_eq hb, evAt_eq (by omega)]; exact this
 ·rw [h]; exact Int.le_refl _

/-- What an operation is in the count. -/
def isW (k : Int) (o : OpV) : Bool := decide (1 ≤ o.kind) && decide (o.kind ≤ 4) && decide (o.loc = k)

theorem lim_counts (l : List OpV) (hall : ∀ o ∈ l, okOp o = true) : ((l.filter fun o => decide (o.kind ≠ 5)).length : Int) ≤ (limOf l).acc ∧
  ((l.filter (isW 0)).length : Int) ≤ (limOf l).w0 ∧ ((l.filter (isW 1)).length : Int) ≤ (limOf l).w1 ∧ ((l.filter (isW 2)).length : Int) ≤ (limOf l).w2 := by
 have key : ∀ (l : List OpV) (s : LimS), (∀ o ∈ l, okOp o = true) → s.acc + ((l.filter fun o => decide (o.kind ≠ 5)).length : Int) ≤ (l.foldl limStep s).acc ∧
  s.w0 + ((l.filter (isW 0)).length : Int) ≤ (l.foldl limStep s).w0 ∧ s.w1 + ((l.filter (isW 1)).length : Int) ≤ (l.foldl limStep s).w1 ∧ s.w2 + ((l.filter (isW 2)).length : Int) ≤ (l.foldl limStep s).w2 := by
  intro l
  induction l with
  | nil => intro s _; simp
  | cons o l ih =>
   intro s h
   have ih2 := ih (limStep s o) (fun x hx => h x (List.mem_cons_of_mem _ hx))
   have ho := h o (List.mem_cons_self ..)
   obtain ⟨q1, _, _⟩ := (okOp_iff o).1 ho
   have hk : 0 ≤ o.kind ∧ o.kind < 6 := by simp only [mayR, Bool.and_eq_true, decide_eq_true_eq] at q1; exact q1.1
   rw [List.foldl_cons]
   by_cases h5 : o.kind = 5
   ·have e : limStep s o = { s with fen := s.fen + 1 } := by unfold limStep; rw [if_pos h5]
    rw [e] at ih2 ⊢
    simp only [List.filter_cons, isW, h5]
    simpa [isW] using ih2
   ·have ha : accessP o = true := by simp [accessP]; omega
    have e : limStep s o = { acc := s.acc + 1, fen := if o.ord = 4 then s.fen + 2 else s.fen, w0 := if o.kind ≠ 0 ∧ o.loc = 0 then s.w0 + 1 else s.w0, w1 := if o.kind ≠ 0 ∧ o.loc = 1 then s.w1 + 1 else s.w1, w2 := if o.kind ≠ 0 ∧ o.loc = 2 then s.w2 + 1 else s.w2 } := by
     unfold limStep; rw [if_neg h5, if_pos ha]
    have hw : ∀ k : Int, isW k o = decide (o.kind ≠ 0 ∧ o.loc = k) := fun k => by
     unfold isW
     rw [Bool.eq_iff_iff]
     simp only [Bool.and_eq_true, decide_eq_true_eq]; omega
    rw [e] at ih2 ⊢
    obtain ⟨i1, i2, i3, i4⟩ := ih2
    dsimp only at i1 i2 i3 i4
    generalize l.foldl limStep _ = z at i1 i2 i3 i4 ⊢
    have hh : ∀ (g : OpV → Bool), (((o :: l).filter g).length : Int) = (if g o = true then 1 else 0) + ((l.filter g).length : Int) := fun g => by
     rw [List.filter_cons]; split
     ·rw [List.length_cons]; omega
     ·omega
    refine ⟨?_, ?_, ?_, ?_⟩
    ·rw [hh]; split <;> omega
    ·rw [hh, hw]
     by_cases hc : o.kind ≠ 0 ∧ o.loc = 0
     ·rw [if_pos hc] at i2; rw [if_pos (decide_eq_true hc)]; omega
     ·rw [if_neg hc] at i2; rw [if_neg (by simpa using hc)]; omega
    ·rw [hh, hw]
     by_cases hc : o.kind ≠ 0 ∧ o.loc = 1
     ·rw [if_pos hc] at i3; rw [if_pos (decide_eq_true hc)]; omega
     ·rw [if_neg hc] at i3; rw [if_neg (by simpa using hc)]; omega
    ·rw [hh, hw]
     by_cases hc : o.kind ≠ 0 ∧ o.loc = 2
     ·rw [if_pos hc] at i4; rw [if_pos (decide_eq_true hc)]; omega
     ·rw [if_neg hc] at i4; rw [if_neg (by simpa using hc)]; omega
 have := key l ⟨0, 0, 0, 0, 0⟩ hall
 simpa [limOf] using this

/-- Few events read and write. -/
structure Few (p : List Ev) : Prop where
 acc : (p.filter fun e => decide (e.op.kind ≠ 5)).length ≤ 6
 w : ∀ k : Int, (p.filter fun e => isW k e.op).length ≤ 4
 ws : (p.filter fun e => isW 0 e.op).length + (p.filter fun e => isW 1 e.op).length + (p.filter fun e => isW 2 e.op).length ≤ 6

theorem filter_disj {α : Type} {f g h t : α → Bool} (hd : ∀ x, (f x = true → g x = false ∧ h x = false ∧ t x = true) ∧ (g x = true → h x = false ∧ t x = true) ∧ (h x = true → t x = true)) : ∀ l : List α, (l.filter f).length + (l.filter g).length + (l.filter h).length ≤ (l.filter t).length
 | [] => by simp
 | x :: l => by
  have ih := filter_disj hd l
  obtain ⟨h1, h2, h3⟩ := hd x
  simp only [List.filter_cons]
  cases hf : f x with
  | true =>
   obtain ⟨a, b, c⟩ := h1 hf
   rw [a, b, c]; simp; omega
  | false =>
   cases hg : g x with
   | true =>
    obtain ⟨b, c⟩ := h2 hg
    rw [b, c]; simp; omega
   | false =>
    cases hh : h x with
    | true => rw [h3 hh]; simp; omega
    | false => cases t x <;> simp <;> omega

theorem evs_few {ts : List (List OpV)} (h : checkP ts = 0) : Few (evsOf ts) := by
 obtain ⟨hl, _, hall⟩ := checkP_zero h
 obtain ⟨c1, c2, c3, c4⟩ := lim_counts ts.flatten (List.all_eq_true.1 hall)
 simp only [limitsP, Bool.and_eq_true, decide_eq_true_eq] at hl
 obtain ⟨⟨⟨⟨⟨_, l1⟩, _⟩, l2⟩, l3⟩, l4⟩ := hl
 have ha : ((evsOf ts).filter fun e => decide (e.op.kind ≠ 5)).length ≤ 6 := by
  have := evs_filter (g := fun o => decide (o.kind ≠ 5)) (by simp) (fun _ _ => rfl) ts
  omega
 have hw : ∀ k : Int, ((evsOf ts).filter fun e => isW k e.op).length = (ts.flatten.filter (isW k)).length := fun k => evs_filter (g := isW k) (by simp [isW]) (fun _ _ => rfl) ts
 refine ⟨ha, fun k => ?_, ?_⟩
 ·by_cases h0 : k = 0
  ·subst h0; have := hw 0; omega
  ·by_cases h1 : k = 1
   ·subst h1; have := hw 1; omega
   ·by_cases h2 : k = 2
    ·subst h2; have := hw 2; omega
    ·have : ((evsOf ts).filter fun e => isW k e.op) = [] := by
      rw [List.filter_eq_nil_iff]
      intro e he hk
      obtain ⟨i, hi, rfl⟩ := List.getElem_of_mem he
      have := (evs_pok h).loc i hi
      rw [evAt_eq hi] at this
      simp only [isW, Bool.and_eq_true, decide_eq_true_eq] at hk
      omega
     rw [this]; simp
 ·refine Nat.le_trans (filter_disj (t := fun e : Ev => decide (e.op.kind ≠ 5)) (fun x => ?_) _) ha
  simp only [isW, Bool.and_eq_true, decide_eq_true_eq, Bool.and_eq_false_iff, decide_eq_false_iff_not]
  refine ⟨fun h => ⟨.inr (by omega), .inr (by omega), by omega⟩, fun h => ⟨.inr (by omega), by omega⟩, fun h => by omega⟩

/-! ### What an outcome may be -/
def writersA (p : List Ev) (k : Int) : List Int := pickI p.length fun i => isW k (evAt p i).op
theorem writersA_len {p : List Ev} {k : Int} : (writersA p k).length = (p.filter fun e => isW k e.op).length := by
 rw [writersA, pickI, List.length_map, ← filter_range p fun e => isW k e.op]
theorem mem_writersA {p : List Ev} {k : Int} {w : Nat} : (w : Int) ∈ writersA p k ↔ w < p.length ∧ 1 ≤ (evAt p w).op.kind ∧ (evAt p w).op.kind ≤ 4 ∧ (evAt p w).op.loc = k := by
 rw [writersA, mem_pickI]
 simp only [isW, Bool.and_eq_true, decide_eq_true_eq]
 constructor
 ·rintro ⟨i, h1, ⟨⟨h2, h3⟩, h4⟩, h5⟩
  have : i = w := by omega
  subst this; exact ⟨h1, h2, h3, h4⟩
 ·rintro ⟨h1, h2, h3, h4⟩; exact ⟨w, h1, ⟨⟨h2, h3⟩, h4⟩, rfl⟩

def frmC (p : List Ev) : List (List Int) := prodL ((List.range p.length).map fun i => if (evAt p i).reads then -1 :: writersA p (evAt p i).op.loc else [-2])
def lastC (p : List Ev) (w : Wd) (k : Int) : List Int := 0 :: (writersA p k).map fun x => w.w[x.toNat]?.getD 0
def outsC (p : List Ev) : List (List Int) := (frmC p).flatMap fun f => (prodL [lastC p (wordsP p f) 0, lastC p (wordsP p f) 1, lastC p (wordsP p f) 2]).map (outReads p (wordsP p f) p.length ++ ·)

theorem cube : ∀ a b c : Fin 5, a.1 + b.1 + c.1 ≤ 6 → (a.1 + 1) * ((b.1 + 1) * ((c.1 + 1) * 1)) ≤ 27 := by decide
theorem outsC_len {p : List Ev} (h : Few p) : (outsC p).length ≤ 421875 := by
 have h1 : (frmC p).length ≤ 5 ^ ((List.range p.length).filter fun i => (evAt p i).reads).length := by
  refine prodL_map_le (by decide) (fun i hi => ?_) (fun i hi => ?_) _
  ·rw [if_pos hi, List.length_cons, writersA_len]
   have := h.w (evAt p i).op.loc; omega
  ·rw [if_neg (by rw [hi]; decide)]; simp
 have h2 : ((List.range p.length).filter fun i => (evAt p i).reads).length ≤ 6 := by
  rw [filter_range p Ev.reads]
  refine Nat.le_trans ?_ h.acc
  have : p.filter Ev.reads = (p.filter fun e => decide (e.op.kind ≠ 5)).filter Ev.reads := by
   rw [List.filter_filter]
   congr 1
   funext e
   simp only [Ev.reads]
   cases decide (e.op.kind ≠ 1) <;> cases decide (e.op.kind ≠ 5) <;> rfl
  rw [this]; exact List.length_filter_le _ _
 have h3 : (frmC p).length ≤ 15625 := Nat.le_trans h1 (Nat.le_trans (Nat.pow_le_pow_right (by decide) h2) (by decide))
 have h4 : (outsC p).length ≤ (frmC p).length * 27 := by
  refine flatMap_le fun f _ => ?_
  rw [List.length_map]
  have hl : ∀ k, (lastC p (wordsP p f) k).length ≤ (p.filter fun e => isW k e.op).length + 1 := fun k => by rw [lastC, List.length_cons, List.length_map, writersA_len]; exact Nat.le_refl _
  refine Nat.le_trans (prodL_cons_le (hl 0) (prodL_cons_le (hl 1) (prodL_cons_le (hl 2) (Nat.le_refl 1)))) ?_
  have w0 := h.w 0; have w1 := h.w 1; have w2 := h.w 2; have ws := h.ws
  exact cube ⟨_, by omega⟩ ⟨_, by omega⟩ ⟨_, by omega⟩ ws
 omega

theorem outcome_C {p : List Ev} (hp : POk p) {e : Exec} (h : Shape p e) : outcomeP p e ∈ outsC p := by
 unfold outsC
 rw [List.mem_flatMap]
 refine ⟨e.frm, mem_prodL (by simp [h.fl]) fun i h1 h2 => ?_, ?_⟩
 ·simp only [List.getElem_map, List.getElem_range]
  have hi : i < p.length := by rw [← h.fl]; exact h1
  have hf : frmAt e i = e.frm[i] := by simp [frmAt, h1]
  cases hr : (evAt p i).reads with
  | false => rw [if_neg (by decide), List.mem_singleton, ← hf]; exact h.out i hi hr
  | true =>
   rw [if_pos rfl, ← hf]
   rcases h.src i hi hr with h3 | ⟨w, h3, h4, h5, h6⟩
   ·exact List.mem_cons.2 (.inl h3)
   ·have := h.dn0 w h4 h5
    exact List.mem_cons.2 (.inr (by rw [h3]; exact mem_writersA.2 ⟨h4, this.1, this.2, h6⟩))
 ·refine List.mem_map.2 ⟨e.ord.map (lastOf (wordsP p e.frm)), mem_prodL (by simp [h.ol]) fun i h1 h2 => ?_, rfl⟩
  rw [List.length_map] at h1
  have hi3 : i < 3 := by rw [h.ol] at h1; exact h1
  have hperm := h.ord i hi3
  rw [List.getElem?_eq_getElem h1, Option.getD_some] at hperm
  have key : lastOf (wordsP p e.frm) e.ord[i] ∈ lastC p (wordsP p e.frm) i := by
   unfold lastOf lastC
   split
   ·exact List.mem_cons_self ..
   ·rename_i hne
    refine List.mem_cons_of_mem _ (List.mem_map.2 ⟨numAt e.ord[i] (e.ord[i].length - 1), ?_, rfl⟩)
    have := hperm.mem_iff.1 (mem_numAt.2 ⟨e.ord[i].length - 1, by omega, rfl⟩)
    obtain ⟨w, q1, q2, _, q3, q4⟩ := mem_writersI.1 this
    have := h.dn0 w q2 q3
    rw [q1]; exact mem_writersA.2 ⟨q2, this.1, this.2, q4⟩
  rw [List.getElem_map]
  have : i = 0 ∨ i = 1 ∨ i = 2 := by omega
  rcases this with rfl | rfl | rfl <;> exact key

/-! ### The list of a program's outcomes -/
/-- x is an outcome. -/
def IsOut (p : List Ev) (x : List Int) : Prop := ∃ e, e ∈ execsP p ∧ outcomeP p e = x

theorem outs_few {p : List Ev} (hp : POk p) (hm : Mono p) (hf : Few p) {l : List (List Int)} (hn : l.Nodup) (h : ∀ x ∈ l, IsOut p x) : l.length ≤ 421875 :=
 Nat.le_trans (len_le_of_sub hn fun x hx => by
  obtain ⟨e, he, rfl⟩ := h x hx
  exact outcome_C hp ((exec_iff hp hm).1 he).1) (outsC_len hf)

end Go.EV

namespace Go.EV
open Go.Proofs

def cmpI (a b : Int) : Int := if a < b then -1 else if a > b then 1 else 0
def cmpL : List Int → List Int → Int
 | [], [] => 0
 | [], _ :: _ => -1
 | _ :: _, [] => 1
 | a :: l, b :: m => if cmpI a b = 0 then cmpL l m else cmpI a b

theorem cmpI_lt (a b : Int) : cmpI a b < 0 ↔ a < b := by unfold cmpI; split <;> (try split) <;> omega
theorem cmpI_zero (a b : Int) : cmpI a b = 0 ↔ a = b := by unfold cmpI; split <;> (try split) <;> omega

theorem cmpL_self : ∀ xs, cmpL xs xs = 0
 | [] => rfl
 | x :: xs => by rw [cmpL, if_pos ((cmpI_zero x x).2 rfl), cmpL_self xs]
theorem cmpL_cons_lt {a b : Int} {l m : List Int} : cmpL (a :: l) (b :: m) < 0 ↔ a < b ∨ (a = b ∧ cmpL l m < 0) := by
 rw [cmpL]
 split
 ·rename_i h; have := (cmpI_zero a b).1 h; subst this; simp
 ·rename_i h
  have h2 : a ≠ b := fun e => h ((cmpI_zero a b).2 e)
  rw [cmpI_lt]; simp [h2]
theorem cmpL_trans : ∀ xs ys zs, cmpL xs ys < 0 → cmpL ys zs < 0 → cmpL xs zs < 0
 | [], [], _, h, _ => by simp [cmpL] at h
 | [], _ :: _, [], _, h => by simp [cmpL] at h
 | [], _ :: _, _ :: _, _, _ => by simp [cmpL]
 | _ :: _, [], _, h, _ => by simp [cmpL] at h
 | _ :: _, _ :: _, [], _, h => by simp [cmpL] at h
 | a :: l, b :: m, c :: n, h1, h2 => by
  rw [cmpL_cons_lt] at *
  rcases h1 with h1 | ⟨rfl, h1⟩ <;> rcases h2 with h2 | ⟨rfl, h2⟩
  ·left; omega
  ·left; exact h1
  ·left; exact h2
  ·right; exact ⟨rfl, cmpL_trans _ _ _ h1 h2⟩
theorem cmpL_total : ∀ xs ys, cmpL xs ys < 0 ∨ xs = ys ∨ cmpL ys xs < 0
 | [], [] => by simp
 | [], _ :: _ => by simp [cmpL]
 | _ :: _, [] => by simp [cmpL]
 | a :: l, b :: m => by
  rw [cmpL_cons_lt, cmpL_cons_lt]
  have := cmpL_total l m
  by_cases h1 : a < b
  ·left; left; exact h1
  ·by_cases h2 : b < a
   ·right; right; left; exact h2
   ·have : a = b := by omega
    subst this
    rcases cmpL_total l m with h | rfl | h
    ·left; right; exact ⟨rfl, h⟩
    ·right; left; rfl
    ·right; right; right; exact ⟨rfl, h⟩
theorem cmpL_drop {xs ys : List Int} : ∀ {i : Nat}, xs.take i = ys.take i → cmpL xs ys = cmpL (xs.drop i) (ys.drop i) := by
 induction xs generalizing ys with
 | nil => intro i h; cases i with
  | zero => rfl
  | succ i => cases ys with
   | nil => rfl
   | cons y ys => simp at h
 | cons x xs ih => intro i h; cases i with
  | zero => rfl
  | succ i => cases ys with
   | nil => simp at h
   | cons y ys =>
    simp only [List.take_succ_cons, List.cons.injEq] at h
    rw [h.1, cmpL, if_pos ((cmpI_zero y y).2 rfl), ih h.2]; rfl

section
variable {M : PHeap}
theorem cmp_isNaN_q (x : Int) : ConQ Tryz.prog 152 #[vi x] M (vb false) := by
 refine Con.enter Q42_ok (args := [vi x]) (by simp [Q42]) fun w0 => ?_
 simp only [Q42, argE]
 repeat' first
   | refine EV.seq ?_
   | (refine EV.reg ?_; (conv => (arg 2; whnf)); (refine nx ?_; try with_reducible exact ⟨⟩))
   | (refine EV.ret Q42_ok ?_; simp only [wpS, wpA, wpQL, push_cast, Int.cast_ofNat_Int, reduceIte, Nat.reduceEqDiff, reduceCtorEq, Nat.reduceAdd, Nat.reduceSub, Nat.reduceMul, Int.reduceToNat, Nat.reduceLeDiff, Q42])
   | fail
 all_goals simp

theorem cmp_Compare_q (x y : Int) : ConQ Tryz.prog 127 #[vi x, vi y] M (vi (cmpI x y)) := by
 refine Con.enter Q41_ok (args := [vi x, vi y]) (by simp [Q41]) fun w0 => ?_
 simp only [Q41, argE]
 repeat' first
   | refine EV.seq ?_
   | refine EV.skip ?_
   | (refine EV.reg ?_; (conv => (arg 2; whnf)); (refine nx ?_; try with_reducible exact ⟨⟩))
   | (refine ConQ.call (cmp_isNaN_q _) ?_; try (refine nx ?_; try with_reducible exact ⟨⟩))
   | (refine EV.condX rfl (fun h => ?_) (fun h => ?_) <;> try exact dead h)
   | (refine EV.ret Q41_ok ?_; simp only [wpS, wpA, wpQL, push_cast, Int.cast_ofNat_Int, reduceIte, Nat.reduceEqDiff, reduceCtorEq, Nat.reduceAdd, Nat.reduceSub, Nat.reduceMul, Int.reduceToNat, Nat.reduceLeDiff, Q41])
   | fail
 all_goals (simp only [cmpI]; grind)

theorem sl_Compare_q (xs ys : List Int) (s t : Value) (hs : Sl M 1 ei s xs) (ht : Sl M 1 ei t ys) (hb : xs.length < 1000000) (hb2 : ys.length < 1000000) : ConQ Tryz.prog 88 #[s, t] M (vi (cmpL xs ys)) := by
 obtain ⟨a, c, rfl, hrd⟩ := hs
 obtain ⟨a2, c2, rfl, hrd2⟩ := ht
 refine Con.enter Q76_ok (args := [.slice a xs.length c, .slice a2 ys.length c2]) (by simp [Q76]) fun w0 => ?_
 simp only [Q76, argE]
 repeat' first
   | refine EV.seq ?_
   | refine EV.block ?_
   | (refine EV.reg ?_; (conv => (arg 2; whnf)); (refine nx ?_; try with_reducible exact ⟨⟩))
   | fail
 refine EV.loopTo (fun i : Nat => ([(0, .slice a xs.length c), (1, .slice a2 ys.length c2), (9, .slice a xs.length c), (10, vi xs.length), (11, vi i)], M, [])) (fun i => i ≤ xs.length ∧ i ≤ ys.length ∧ xs.take i = ys.take i) (fun i => xs.length - i) 0 rfl ⟨Nat.zero_le _, Nat.zero_le _, rfl⟩ ?env1 (List.Sublist.refl _) ?_
 case env1 =>
  repeat' first
   | (refine List.forall_mem_cons.2 (And.intro ?_ ?_))
   | (intro _ hnil; cases hnil; done)
   | rfl
   | fail
 rintro i ⟨hi, hiy, hsame⟩ ih
 dsimp only at hi hiy hsame ih ⊢
 have hcd := cmpL_drop hsame
 repeat' first
   | refine EV.seq ?_
   | refine EV.skip ?_
   | refine EV.block ?_
   | (refine EV.reg ?_; (conv => (arg 2; whnf)); (refine nx ?_; try with_reducible exact ⟨⟩))
   | (refine EV.condX rfl (fun h => ?_) (fun h => ?_) <;> try exact dead h)
   | (refine EV.exit rfl ?_)
   | fail
 ·have hi' : i < xs.length := by omega
  obtain ⟨wb, wo, rfl, hat⟩ := Sl.at (sz := 1) (enc := ei) (fun _ => rfl) (by decide) hrd (by omega)
  have hri := hat i hi'
  rw [Nat.mul_one] at hri
  rw [List.drop_eq_getElem_cons hi'] at hcd
  by_cases hi2 : i < ys.length
  ·obtain ⟨wb2, wo2, rfl, hat2⟩ := Sl.at (sz := 1) (enc := ei) (fun _ => rfl) (by decide) hrd2 (by omega)
   have hri2 := hat2 i hi2
   rw [Nat.mul_one] at hri2
   rw [List.drop_eq_getElem_cons hi2, cmpL] at hcd
   have hge : ¬ ((ys.length : Int) ≤ i) := by omega
   have hi3 : (i : Int) < (ys.length : Int) := by omega
   repeat' first
     | refine EV.seq ?_
     | refine EV.skip ?_
     | refine EV.inBlock ?_
     | (refine EV.reg ?_; (conv => (arg 2; whnf)); (refine nx ?_; try with_reducible exact ⟨⟩))
     | (refine ConQ.call (cmp_Compare_q xs[i] ys[i]) ?_; try (refine nx ?_; try with_reducible exact ⟨⟩))
     | (refine EV.condX rfl (fun h => ?_) (fun h => ?_) <;> try exact dead h)
     | (refine And.intro (by omega) ?_)
     | (refine Exists.intro _ (And.intro (rd_M (by assumption)) ?_); try (refine nx ?_; try with_reducible exact ⟨⟩))
     | fail
   ·refine EV.ret Q76_ok ?_
    simp only [wpS, wpA, wpQL, push_cast, Int.cast_ofNat_Int, reduceIte, Nat.reduceEqDiff, reduceCtorEq, Nat.reduceAdd, Nat.reduceSub, Nat.reduceMul, Int.reduceToNat, Nat.reduceLeDiff, Q76]
    rw [hcd, if_neg (by simp_all)]
   ·have hz : cmpI xs[i] ys[i] = 0 := by simp_all
    have he := (cmpI_zero _ _).1 hz
    refine EV.to (ih (i + 1) ⟨by omega, by omega, ?_⟩ (by omega)) ?_ (List.Sublist.refl _)
    ·rw [List.take_succ_eq_append_getElem hi', List.take_succ_eq_append_getElem hi2, hsame, he]
    ·repeat' first
      | (refine List.forall_mem_cons.2 (And.intro ?_ ?_))
      | (intro _ hnil; cases hnil; done)
      | rfl
      | (refine env_w64 rfl (by first | rfl | (push_cast; first | rfl | omega)) (by omega) (by omega); done)
      | fail
  ·have hge : ((ys.length : Int) ≤ i) := by omega
   have hdy : ys.drop i = [] := List.drop_eq_nil_of_le (by omega)
   rw [hdy, cmpL] at hcd
   repeat' first
     | refine EV.seq ?_
     | (refine EV.reg ?_; (conv => (arg 2; whnf)); (refine nx ?_; try with_reducible exact ⟨⟩))
     | (refine EV.condX rfl (fun h => ?_) (fun h => ?_) <;> try exact dead h)
     | (refine And.intro (by omega) ?_)
     | (refine Exists.intro _ (And.intro (rd_M (by assumption)) ?_); try (refine nx ?_; try with_reducible exact ⟨⟩))
     | fail
   refine EV.ret Q76_ok ?_
   simp only [wpS, wpA, wpQL, push_cast, Int.cast_ofNat_Int, reduceIte, Nat.reduceEqDiff, reduceCtorEq, Nat.reduceAdd, Nat.reduceSub, Nat.reduceMul, Int.reduceToNat, Nat.reduceLeDiff, Q76]
   rw [hcd]
 ·have hie : i = xs.length := by omega
  have hdx : xs.drop i = [] := List.drop_eq_nil_of_le (by omega)
  have hi2 : i < ys.length := by omega
  rw [hdx, List.drop_eq_getElem_cons hi2, cmpL] at hcd
  refine EV.ret Q76_ok ?_
  simp only [wpS, wpA, wpQL, push_cast, Int.cast_ofNat_Int, reduceIte, Nat.reduceEqDiff, reduceCtorEq, Nat.reduceAdd, Nat.reduceSub, Nat.reduceMul, Int.reduceToNat, Nat.reduceLeDiff, Q76]
  rw [hcd]
 ·have hdx : xs.drop i = [] := List.drop_eq_nil_of_le (by omega)
  have hdy : ys.drop i = [] := List.drop_eq_nil_of_le (by omega)
  rw [hdx, hdy, cmpL] at hcd
  refine EV.ret Q76_ok ?_
  simp only [wpS, wpA, wpQL, push_cast, Int.cast_ofNat_Int, reduceIte, Nat.reduceEqDiff, reduceCtorEq, Nat.reduceAdd, Nat.reduceSub, Nat.reduceMul, Int.reduceToNat, Nat.reduceLeDiff, Q76]
  rw [hcd]

end
end Go.EV

namespace Go.EV
open Go.Proofs

theorem execsP_ok {p : List Ev} (hp : POk p) {e : Exec} (h : e ∈ execsP p) : XOk p e := by
 simp only [execsP, execsD, execsO, List.mem_flatMap] at h
 obtain ⟨dn, hd, ord, ho, frm, hf, h⟩ := h
 unfold execsF at h
 split at h
 ·obtain ⟨h, _⟩ := List.mem_filter.1 h
  obtain ⟨fen, hn, rfl⟩ := List.mem_map.1 h
  exact exec_ok hp hd ho hf (merges_fen hn)
 ·exact absurd h List.not_mem_nil

/-- THE list of a program's outcomes. -/
def Outs (p : List Ev) (outs : List (List Int)) : Prop := outs.Pairwise (fun x y => cmpL x y < 0) ∧ ∀ x, x ∈ outs ↔ x ∈ (execsP p).map (outcomeP p)

end Go.EV

namespace Go.EV
open Go.Proofs

/-- Two ascending lists with the same members are one. -/
theorem asc_uniq : ∀ {a b : List (List Int)}, a.Pairwise (fun x y => cmpL x y < 0) → b.Pairwise (fun x y => cmpL x y < 0) → (∀ x, x ∈ a ↔ x ∈ b) → a = b
 | [], [], _, _, _ => rfl
 | [], y :: b, _, _, h => absurd ((h y).2 (List.mem_cons_self ..)) List.not_mem_nil
 | x :: a, [], _, _, h => absurd ((h x).1 (List.mem_cons_self ..)) List.not_mem_nil
 | x :: a, y :: b, ha, hb, h => by
  obtain ⟨a1, a2⟩ := List.pairwise_cons.1 ha
  obtain ⟨b1, b2⟩ := List.pairwise_cons.1 hb
  have hxy : x = y := by
   have h1 := (h x).1 (List.mem_cons_self ..)
   have h2 := (h y).2 (List.mem_cons_self ..)
   rcases List.mem_cons.1 h1 with h1 | h1
   ·exact h1
   ·rcases List.mem_cons.1 h2 with h2 | h2
    ·exact h2.symm
    ·have := cmpL_trans _ _ _ (a1 y h2) (b1 x h1)
     rw [cmpL_self] at this; omega
  subst hxy
  have : a = b := asc_uniq a2 b2 fun z => by
   constructor
   ·intro hz
    rcases List.mem_cons.1 ((h z).1 (List.mem_cons_of_mem _ hz)) with e | e
    ·subst e
     have := a1 z hz
     rw [cmpL_self] at this; omega
    ·exact e
   ·intro hz
    rcases List.mem_cons.1 ((h z).2 (List.mem_cons_of_mem _ hz)) with e | e
    ·subst e
     have := b1 z hz
     rw [cmpL_self] at this; omega
    ·exact e
  rw [this]

def insL (x : List Int) : List (List Int) → List (List Int)
 | [] => [x]
 | y :: l => if cmpL x y < 0 then x :: y :: l else if x = y then y :: l else y :: insL x l
theorem mem_insL {x z : List Int} : ∀ l : List (List Int), z ∈ insL x l ↔ z = x ∨ z ∈ l
 | [] => by simp [insL]
 | y :: l => by
  rw [insL]
  split
  ·simp
  ·split
   ·rename_i h; subst h; simp
   ·simp only [List.mem_cons, mem_insL l]
    constructor
    ·rintro (h | h | h)
     ·exact .inr (.inl h)
     ·exact .inl h
     ·exact .inr (.inr h)
    ·rintro (h | h | h)
     ·exact .inr (.inl h)
     ·exact .inl h
     ·exact .inr (.inr h)
theorem insL_asc {x : List Int} : ∀ {l : List (List Int)}, l.Pairwise (fun x y => cmpL x y < 0) → (insL x l).Pairwise (fun x y => cmpL x y < 0)
 | [], _ => by simp [insL]
 | y :: l, h => by
  obtain ⟨h1, h2⟩ := List.pairwise_cons.1 h
  rw [insL]
  split
  ·rename_i hx
   refine List.pairwise_cons.2 ⟨fun z hz => ?_, h⟩
   rcases List.mem_cons.1 hz with rfl | hz
   ·exact hx
   ·exact cmpL_trans _ _ _ hx (h1 z hz)
  ·rename_i hx
   split
   ·exact h
   ·rename_i hne
    refine List.pairwise_cons.2 ⟨fun z hz => ?_, insL_asc h2⟩
    rcases (mem_insL l).1 hz with rfl | hz
    ·rcases cmpL_total y z with k | k | k
     ·exact k
     ·exact absurd k.symm hne
     ·exact absurd k hx
    ·exact h1 z hz
/-- The outcomes, reckoned. -/
def outsD (p : List Ev) : List (List Int) := ((execsP p).map (outcomeP p)).foldr insL []
theorem foldr_ins (l : List (List Int)) : (l.foldr insL []).Pairwise (fun x y => cmpL x y < 0) ∧ ∀ x, x ∈ l.foldr insL [] ↔ x ∈ l := by
 induction l with
 | nil => exact ⟨List.Pairwise.nil, fun x => Iff.rfl⟩
 | cons y l ih => exact ⟨insL_asc ih.1, fun x => by rw [List.foldr_cons, mem_insL, ih.2, List.mem_cons]⟩
theorem outs_D (p : List Ev) : Outs p (outsD p) := foldr_ins _
theorem Outs.uniq {p : List Ev} {a b : List (List Int)} (h : Outs p a) (k : Outs p b) : a = b := asc_uniq h.1 k.1 fun x => (h.2 x).trans (k.2 x).symm
theorem Outs.eq {p : List Ev} {a : List (List Int)} (h : Outs p a) : a = outsD p := h.uniq (outs_D p)

/-- The program of two threads that each store to their own location and load the other one. -/
def buffersP : List (List OpV) := [[⟨1, 0, 1, 0, 0⟩, ⟨0, 1, 0, 0, 0⟩], [⟨1, 1, 1, 0, 0⟩, ⟨0, 0, 0, 0, 0⟩]]
theorem buffers_ok : checkP buffersP = 0 := by decide +kernel
theorem buffers_outs : outsD (evsOf buffersP) = [[0, 0, 1, 1, 0], [0, 1, 1, 1, 0], [1, 0, 1, 1, 0], [1, 1, 1, 1, 0]] := by decide +kernel

end Go.EV

namespace Go.EV
open Go.Proofs
variable {P : Program}

/-- Only new blocks: the world has grown, and has drawn on. -/
theorem Ext.grown {w w' : World} (e : Ext w w') : ∃ q os, w' = Go.Sort.grow (w.drewN q) os := by
 refine ⟨w'.drawn - w.drawn, w'.heap.extract w.heap.size w'.heap.size, ?_⟩
 have h1 : w'.heap = w.heap ++ w'.heap.extract w.heap.size w'.heap.size := by
  apply Array.ext_getElem?
  intro i
  rw [Array.getElem?_append]
  split
  ·rename_i hi; exact e.block i hi
  ·rename_i hi
   rw [Array.getElem?_extract]
   have := e.size
   by_cases h2 : i < w'.heap.size
   ·rw [if_pos (by omega)]; congr 1; omega
   ·rw [if_neg (by omega), Array.getElem?_eq_none (by omega)]
 have h2 := e.os
 have h3 := e.tape
 have h4 := e.output
 obtain ⟨h5, h6⟩ := h3
 cases w' with
 | mk heap' tape' drawn' os' output' =>
  dsimp only at h1 h2 h4 h5 h6 ⊢
  subst h2 h4 h5
  simp only [Go.Sort.grow, World.drewN]
  congr 1
  omega

theorem St.enterIn {w W : World} {F : List Nat} {M : PHeap} {G : Own} (hs : St w F M M G w) (h : ∀ b o, M b o → W.heap[b]? = w.heap[b]?) : St W [] M M [] W :=
 St.enter (G := []) (fun b o hb => (h b o hb).trans (hs.agree b o hb)) (fun p hp => by cases hp) (fun p hp => by cases hp) (by simp)

theorem ConQ.exact {g : FuncId} {args : Array Value} {M : PHeap} {v : Value} (h : ConQ P g args M v) {W : World} (hs : St W [] M M [] W) :
  Calls P g args W fun e w' => e = .returned v ∧ ∃ q os', w' = Go.Sort.grow (W.drewN q) os' :=
 (h.2 W hs).mono fun e w' ⟨u, he, M', G', h1, h2⟩ => ⟨by rw [he, h2], (Ext.of_st h1).grown⟩

theorem putRow_block {α : Type} [Inhabited α] (enc : α → Value) (w : World) (b : Nat) (d : Array α) {T : TypeId} {cs : List Value} (hb : w.heap[b]? = some (Cl T cs)) (hl : d.size ≤ cs.length) :
  (Go.Sort.putRow enc w b 0 d).heap[b]? = some (Cl T (d.toList.map enc ++ cs.drop d.size)) := by
 unfold Go.Sort.putRow Go.Sort.mapBlock
 simp only [Array.getElem?_modify, if_true, hb, Option.map_some, Go.Sort.onCells, Option.some.injEq, Obj.cells.injEq, and_true]
 apply Array.ext_getElem?
 intro i
 simp only [Go.Sort.putCells, Array.getElem?_mapIdx, List.getElem?_toArray, Nat.zero_add, Nat.zero_le, true_and, Nat.sub_zero]
 by_cases hi : i < d.size
 ·rw [List.getElem?_append_left (by simpa using hi), List.getElem?_eq_getElem (by omega : i < cs.length)]
  simp [hi]
 ·rw [List.getElem?_append_right (by simpa using (by omega : d.size ≤ i))]
  simp only [hi, if_false, List.length_map, Array.length_toList, List.getElem?_drop]
  rw [show d.size + (i - d.size) = i by omega]
  simp

theorem putRow_other {α : Type} [Inhabited α] (enc : α → Value) (w : World) (b off : Nat) (d : Array α) {k : Nat} (hk : k ≠ b) : (Go.Sort.putRow enc w b off d).heap[k]? = w.heap[k]? := by
 unfold Go.Sort.putRow Go.Sort.mapBlock
 simp only [Array.getElem?_modify]
 rw [if_neg (fun h => hk h.symm)]

theorem putRow_size {α : Type} [Inhabited α] (enc : α → Value) (w : World) (b off : Nat) (d : Array α) : (Go.Sort.putRow enc w b off d).heap.size = w.heap.size := by
 simp [Go.Sort.putRow, Go.Sort.mapBlock]

end Go.EV

namespace Go.EV
open Go.Proofs
variable {P : Program}

theorem holds_row {α : Type} [Inhabited α] (enc : α → Value) {w : World} {b : Nat} {T : TypeId} {xs : List α} {sp : List Value} (hb : w.heap[b]? = some (Cl T (xs.map enc ++ sp))) : Go.Sort.Holds enc w b 0 xs.toArray := by
 intro j hj
 have hj' : j < xs.length := by simpa using hj
 constructor
 ·simp only [World.cell?, hb, Option.isSome_none, Nat.zero_add]
  rw [List.getElem?_toArray, List.getElem?_append_left (by simpa using hj')]
  simp [hj']
 ·simp [World.frozen?, hb]

set_option maxHeartbeats 1000000 in
theorem Con.sort {ρ : Go.Shelf.Ren} (L : SlLaysF.n6 P ρ) {α : Type} [Inhabited α] (enc : α → Value) (h1 : ∀ x, (enc x).oneCell' = true) (cf : α → α → Int) (hO : Go.Sort.SWO (ltOf cf)) {g : FuncId} {M : PHeap} (hgo : isGo P (ρ.f 6) = true)
  (hcmp : ∀ x y : α, ConQ P g #[enc x, enc y] M (.int .i64 (cf x y))) {b : Nat} {T : TypeId} {xs : List α} {sp : List Value} {c : Nat} (hlen : xs.length < 4611686018427387904) :
  Con P (ρ.f 6) #[.slice (some ⟨b, 0, none⟩) xs.length c, .func (.func g) #[] #[]] M [(b, Cl T (xs.map enc ++ sp))] fun v M' G' =>
   v = .tuple #[] ∧ M' = M ∧ ∃ ys : List α, ys.Perm xs ∧ ys.Pairwise (fun x y => ltOf cf y x = false) ∧ G' = [(b, Cl T (ys.map enc ++ sp))] := by
 refine ⟨hgo, fun w hs => ?_⟩
 have hb := hs.own (b, _) (List.mem_singleton_self ..)
 have hblt := hs.lt (List.mem_singleton_self ..)
 dsimp only at hb hblt
 have hH := holds_row enc hb
 have hsep : ∀ b' o, M b' o → b' ≠ b := fun b' o hm e => hs.sep _ (List.mem_singleton_self ..) o (e ▸ hm)
 have hW : ∀ m os dk, St (sortWorld enc w b 0 m dk os) [] M M [] (sortWorld enc w b 0 m dk os) := fun m os dk => hs.enterIn fun b' o hm => by
  show ((Go.Sort.putRow enc (Go.Sort.ahead w m) b 0 dk).heap ++ os)[b']? = _
  rw [Array.getElem?_append_left (by rw [putRow_size]; exact hs.ltM hm), putRow_other _ _ _ _ _ (hsep b' o hm)]; rfl
 have hmain := Any.slices_SortFunc L enc h1 cf hO g #[] b 0 c xs.toArray w (callFunc_go (hcmp default default).1) (fun m os dk hd x y => by simpa using (hcmp x y).exact (hW m os dk)) hH hblt (by simpa using hlen)
 rw [List.size_toArray] at hmain
 refine hmain.mono ?_
 rintro e w' ⟨rfl, d', n, os, ⟨hsz, _, hp⟩, hsd, rfl⟩
 have hsz' : d'.size = xs.length := by simpa using hsz
 have hperm : d'.toList.Perm xs := by
  have := hp
  rw [show d'.extract 0 xs.length = d' by rw [← hsz']; simp, show xs.toArray.extract 0 xs.length = xs.toArray by simp] at this
  simpa using this
 refine ⟨_, rfl, M, [(b, Cl T (d'.toList.map enc ++ sp))], ?_, rfl, rfl, d'.toList, hperm, ?_, rfl⟩
 ·have hrow := putRow_block enc (Go.Sort.ahead w n) b d' (T := T) (cs := xs.map enc ++ sp) hb (by simp [hsz'])
  rw [hsz', List.drop_left' (by simp)] at hrow
  have hsize : w.heap.size ≤ (sortWorld enc w b 0 n d' os).heap.size := by
   show _ ≤ ((Go.Sort.putRow enc (Go.Sort.ahead w n) b 0 d').heap ++ os).size
   rw [Array.size_append, putRow_size]; exact Nat.le_add_right _ _
  have hother : ∀ k, k < w.heap.size → k ≠ b → (sortWorld enc w b 0 n d' os).heap[k]? = w.heap[k]? := fun k hk hne => by
   show ((Go.Sort.putRow enc (Go.Sort.ahead w n) b 0 d').heap ++ os)[k]? = _
   rw [Array.getElem?_append_left (by rw [putRow_size]; exact hk), putRow_other _ _ _ _ _ hne]; rfl
  have hat : (sortWorld enc w b 0 n d' os).heap[b]? = some (Cl T (d'.toList.map enc ++ sp)) := by
   show ((Go.Sort.putRow enc (Go.Sort.ahead w n) b 0 d').heap ++ os)[b]? = _
   rw [Array.getElem?_append_left (by rw [putRow_size]; exact hblt)]; exact hrow
  refine ⟨rfl, ⟨rfl, Nat.le_add_right _ _⟩, rfl, hsize, fun k hk hf => hother k hk (fun e => hf (by simp [e])), fun k o hk => (hother k (hs.ltM hk) (hsep k o hk)).trans (hs.agree k o hk), ?_, ?_, ?_, by simp, PHeap.le_refl _, fun k o hk => .inl hk⟩
  ·intro p hp; rw [List.mem_singleton] at hp; subst hp; exact hat
  ·intro p hp o hm; rw [List.mem_singleton] at hp; subst hp; exact hsep _ _ hm rfl
  ·intro p hp; rw [List.mem_singleton] at hp; subst hp; exact .inl (by simp)
 ·rw [List.pairwise_iff_getElem]
  intro i j hi hj hij
  have := hsd i j (Nat.zero_le _) hij (by simpa [hsz'] using hj)
  rw [getElem!_pos d' i (by simpa using hi), getElem!_pos d' j (by simpa using hj)] at this
  simpa using this

theorem Con.sortNone {ρ : Go.Shelf.Ren} (L : SlLaysF0.n6 P ρ) (hgo : isGo P (ρ.f 6) = true) {M : PHeap} (p : Option Addr) (cap : Nat) (fv : Value) :
  Con P (ρ.f 6) #[.slice p 0 cap, fv] M [] fun v _ G' => v = .tuple #[] ∧ G' = [] := by
 refine ⟨hgo, fun w hs => (AnyF.slices_SortFunc_none L p cap fv w).mono ?_⟩
 rintro e w' ⟨rfl, rfl⟩
 exact ⟨_, rfl, M, [], hs, rfl, rfl⟩

end Go.EV

namespace Go.Proofs
open Go.Shelf Go.RowKit Go.Lib Go.Sort
def Tryz.sortRows_ren : Go.Shelf.Ren := ⟨fun | 6 => 87 | 15 => 126 | 14 => 125 | 28 => 150 | 29 => 151 | 20 => 142 | 21 => 143 | 22 => 144 | 23 => 145 | 24 => 146 | 25 => 147 | 26 => 148 | 27 => 149 | 46 => 160 | 47 => 161 | 48 => 162 | 49 => 163 | 50 => 164 | 57 => 169 | n => n, fun | 22 => 26 | 24 => 34 | 25 => 138 | 3 => 3 | 39 => 67 | 0 => 0 | 53 => 144 | 55 => 175 | 4 => 4 | 46 => 167 | 45 => 166 | 50 => 171 | 5 => 5 | 9 => 9 | 66 => 181 | 70 => 185 | 76 => 188 | 77 => 189 | n => n, fun | n => n⟩
theorem Tryz.sortRows : Go.Proofs.SlLaysF.n6 Tryz.prog Tryz.sortRows_ren := {
 mixed := by kernel_rfl
 f6 := ⟨Tryz.f87.name, by decide, Tryz.func87.trans (congrArg some (by kernel_rfl))⟩
 f14 := ⟨Tryz.f125.name, by decide, Tryz.func125.trans (congrArg some (by kernel_rfl))⟩
 f15 := Tryz.func126.trans (congrArg some (by kernel_rfl))
 f20 := ⟨Tryz.f142.name, by decide, Tryz.func142.trans (congrArg some (by kernel_rfl))⟩
 f21 := ⟨Tryz.f143.name, by decide, Tryz.func143.trans (congrArg some (by kernel_rfl))⟩
 f22 := ⟨Tryz.f144.name, by decide, Tryz.func144.trans (congrArg some (by kernel_rfl))⟩
 f23 := ⟨Tryz.f145.name, by decide, Tryz.func145.trans (congrArg some (by kernel_rfl))⟩
 f24 := ⟨Tryz.f146.name, by decide, Tryz.func146.trans (congrArg some (by kernel_rfl))⟩
 f25 := ⟨Tryz.f147.name, by decide, Tryz.func147.trans (congrArg some (by kernel_rfl))⟩
 f26 := ⟨Tryz.f148.name, by decide, Tryz.func148.trans (congrArg some (by kernel_rfl))⟩
 f27 := ⟨Tryz.f149.name, by decide, Tryz.func149.trans (congrArg some (by kernel_rfl))⟩
 f28 := Tryz.func150.trans (congrArg some (by kernel_rfl))
 f29 := Tryz.func151.trans (congrArg some (by kernel_rfl))
 f46 := ⟨Tryz.f160.name, by decide, Tryz.func160.trans (congrArg some (by kernel_rfl))⟩
 f47 := Tryz.func161.trans (congrArg some (by kernel_rfl))
 f48 := Tryz.func162.trans (congrArg some (by kernel_rfl))
 f49 := ⟨Tryz.f163.name, by decide, Tryz.func163.trans (congrArg some (by kernel_rfl))⟩
 f50 := ⟨Tryz.f164.name, by decide, Tryz.func164.trans (congrArg some (by kernel_rfl))⟩
 f57 := ⟨Tryz.f169.name, by decide, Tryz.func169.trans (congrArg some (by kernel_rfl))⟩
 t0 := Tryz.underlying0
 a0 := Tryz.isAgg0
 z0 := Tryz.sizeOf0
 v0 := Tryz.zeroValue0
 t3 := Tryz.underlying3
 a3 := Tryz.isAgg3
 z3 := Tryz.sizeOf3
 v3 := Tryz.zeroValue3
 t4 := Tryz.underlying4
 a4 := Tryz.isAgg4
 z4 := Tryz.sizeOf4
 v4 := Tryz.zeroValue4
 t5 := Tryz.underlying5
 a5 := Tryz.isAgg5
 z5 := Tryz.sizeOf5
 v5 := Tryz.zeroValue5
 t9 := Tryz.underlying9
 a9 := Tryz.isAgg9
 z9 := Tryz.sizeOf9
 v9 := Tryz.zeroValue9
 t22 := Tryz.underlying26
 a22 := Tryz.isAgg26
 z22 := Tryz.sizeOf26
 v22 := Tryz.zeroValue26
 a24 := Tryz.isAgg34
 z24 := Tryz.sizeOf34
 t25 := Tryz.underlying138
 a25 := Tryz.isAgg138
 z25 := Tryz.sizeOf138
 v25 := Tryz.zeroValue138
 t39 := Tryz.underlying67
 a39 := Tryz.isAgg67
 z39 := Tryz.sizeOf67
 v39 := Tryz.zeroValue67
 t45 := Tryz.underlying166
 a45 := Tryz.isAgg166
 z45 := Tryz.sizeOf166
 v45 := Tryz.zeroValue166
 t46 := Tryz.underlying167
 a46 := Tryz.isAgg167
 z46 := Tryz.sizeOf167
 v46 := Tryz.zeroValue167
 t50 := Tryz.underlying171
 a50 := Tryz.isAgg171
 z50 := Tryz.sizeOf171
 v50 := Tryz.zeroValue171
 t53 := Tryz.underlying144
 a53 := Tryz.isAgg144
 z53 := Tryz.sizeOf144
 v53 := Tryz.zeroValue144
 t55 := Tryz.underlying175
 a55 := Tryz.isAgg175
 z55 := Tryz.sizeOf175
 v55 := Tryz.zeroValue175
 t66 := Tryz.underlying181
 a66 := Tryz.isAgg181
 z66 := Tryz.sizeOf181
 v66 := Tryz.zeroValue181
 t70 := Tryz.underlying185
 a70 := Tryz.isAgg185
 z70 := Tryz.sizeOf185
 v70 := Tryz.zeroValue185
 t76 := Tryz.underlying188
 a76 := Tryz.isAgg188
 z76 := Tryz.sizeOf188
 v76 := Tryz.zeroValue188
 t77 := Tryz.underlying189
 a77 := Tryz.isAgg189
 z77 := Tryz.sizeOf189
 v77 := Tryz.zeroValue189 }
end Go.Proofs
namespace Go.EV
open Go.Proofs

/-- A row of numbers as the memory holds it. -/
def RowV (M : PHeap) : Type := { p : Value × List Int // SlC M 1 ei p.1 p.2 ∧ p.2.length < 1000000 }
instance (M : PHeap) : Inhabited (RowV M) := ⟨⟨(.slice none 0 0, []), ⟨none, 0, rfl, Nat.le_refl _, .inl ⟨rfl, rfl⟩⟩, by decide⟩⟩
def RowV.v {M : PHeap} (r : RowV M) : Value := r.1.1
def RowV.xs {M : PHeap} (r : RowV M) : List Int := r.1.2

theorem RowV.one {M : PHeap} (r : RowV M) : r.v.oneCell' = true := by
 obtain ⟨⟨v, xs⟩, ⟨a, c, h, _⟩, _⟩ := r
 show Value.oneCell' v = true
 dsimp only at h; rw [h]; rfl

theorem ltL_swo (M : PHeap) : Go.Sort.SWO (ltOf fun x y : RowV M => cmpL x.xs y.xs) where
 irrefl x := by simp [ltOf, cmpL_self]
 trans x y z h1 h2 := by
  simp only [ltOf, decide_eq_true_eq] at *
  exact cmpL_trans _ _ _ h1 h2
 ntrans x y z h1 h2 := by
  simp only [ltOf, decide_eq_false_iff_not] at *
  intro h3
  rcases cmpL_total x.xs y.xs with h | h | h
  ·exact h1 h
  ·rw [h] at h3; exact h2 h3
  ·exact h2 (cmpL_trans _ _ _ h h3)

section
variable {M : PHeap}

theorem sl_Sort_c {b : Nat} {T : TypeId} {rs : List (RowV M)} {sp : List Value} {c : Nat} (hl : rs.length < 1000000000000) :
  Con Tryz.prog 87 #[.slice (some ⟨b, 0, none⟩) rs.length c, .func (.func 88) #[] #[]] M [(b, Cl T (rs.map RowV.v ++ sp))] fun v M' G' =>
   v = .tuple #[] ∧ M' = M ∧ ∃ ys : List (RowV M), ys.Perm rs ∧ ys.Pairwise (fun x y => ¬ cmpL y.xs x.xs < 0) ∧ G' = [(b, Cl T (ys.map RowV.v ++ sp))] := by
 have h := Con.sort (P := Tryz.prog) Tryz.sortRows (M := M) RowV.v RowV.one (fun x y => cmpL x.xs y.xs) (ltL_swo M) (g := 88) rfl
  (fun x y => sl_Compare_q x.xs y.xs x.v y.v x.2.1.sl y.2.1.sl x.2.2 y.2.2) (b := b) (T := T) (xs := rs) (sp := sp) (c := c) (by omega)
 refine ⟨h.1, fun w hs => (h.2 w hs).mono ?_⟩
 rintro e w' ⟨v, he, M', G', hs', rfl, rfl, ys, h1, h2, h3⟩
 refine ⟨_, he, _, G', hs', rfl, rfl, ys, h1, h2.imp fun {x y} h => by simpa [ltOf] using h, h3⟩

end
end Go.EV

namespace Go.EV
open Go.Proofs

theorem RowV.slice {M : PHeap} (r : RowV M) : ∃ a n c, r.v = .slice a n c := by
 obtain ⟨⟨v, xs⟩, ⟨a, c, h, _⟩, _⟩ := r
 exact ⟨a, xs.length, c, h⟩

section
variable {M : PHeap}

/-- The first n of a row, of each run of equals the first. -/
def cptN (l : List (RowV M)) : Nat → List (RowV M)
 | 0 => []
 | n + 1 => cptN l n ++ (if n = 0 ∨ (l[n]!).xs ≠ (l[n - 1]!).xs then [l[n]!] else [])
def cptL (l : List (RowV M)) : List (RowV M) := cptN l l.length

theorem row_st2 {α : Type} (f : α → Value) (xs : List α) (sp : List Value) {i : Nat} (hi : i < xs.length) (x : α) : (xs.map f ++ sp).take i ++ (f x :: (xs.map f ++ sp).drop (i + 1)) = (xs.set i x).map f ++ sp := by
 rw [List.take_append_of_le_length (by rw [List.length_map]; omega), List.drop_append_of_le_length (by rw [List.length_map]; omega), ← List.cons_append, ← List.append_assoc, row_st f xs hi x]

theorem getBang {l : List (RowV M)} {i : Nat} (h : i < l.length) : l[i]! = l[i] := getElem!_pos l i h

set_option maxHeartbeats 4000000 in
theorem sl_Compact_c {b : Nat} {T : TypeId} {l : List (RowV M)} {sp : List Value} {c : Nat} (hl : l.length < 1000000000000) (hc : c = l.length + sp.length) :
  Con Tryz.prog 89 #[.slice (some ⟨b, 0, none⟩) l.length c, .func (.func 41) #[] #[]] M [(b, Cl T (l.map RowV.v ++ sp))] fun v M' G' =>
   M' = M ∧ ∃ sp', v = .slice (some ⟨b, 0, none⟩) (cptL l).length c ∧ G' = [(b, Cl T ((cptL l).map RowV.v ++ sp'))] ∧ c = (cptL l).length + sp'.length := by
 have heq : ∀ (x y : RowV M) (G : Own), ConQ Tryz.prog 41 #[x.v, y.v] (M.add G) (vb (decide (x.xs = y.xs))) := fun x y G =>
  sl_Equal_q x.xs y.xs x.v y.v (x.2.1.sl.mono (PHeap.le_add _ _)) (y.2.1.sl.mono (PHeap.le_add _ _)) x.2.2 y.2.2
 refine Con.enter Q75_ok (args := [.slice (some ⟨b, 0, none⟩) l.length c, .func (.func 41) #[] #[]]) (by simp [Q75]) fun w0 => ?_
 simp only [Q75, argE]
 repeat' first
   | refine EV.seq ?_
   | refine EV.skip ?_
   | refine EV.block ?_
   | (refine EV.reg ?_; (conv => (arg 2; whnf)); (refine nx ?_; try with_reducible exact ⟨⟩))
   | (refine EV.condX rfl (fun h => ?_) (fun h => ?_) <;> try exact dead h)
   | fail
 ·have hcl : cptL l = l := by
   rcases l with _ | ⟨x, _ | ⟨y, l⟩⟩
   ·rfl
   ·simp [cptL, cptN]
   ·exfalso; simp at h; omega
  refine EV.ret Q75_ok ?_
  simp only [wpS, wpA, wpQL, push_cast, Int.cast_ofNat_Int, reduceIte, Nat.reduceEqDiff, reduceCtorEq, Nat.reduceAdd, Nat.reduceSub, Nat.reduceMul, Int.reduceToNat, Nat.reduceLeDiff, Q75]
  rw [hcl]; first | exact ⟨rfl, sp, rfl, hc⟩ | exact ⟨sp, rfl, hc⟩ | exact ⟨sp, hc⟩ | exact ⟨sp, c, rfl, rfl, hc⟩ | exact ⟨rfl, sp, c, rfl, rfl, hc⟩ | exact ⟨sp, c, rfl, hc⟩ | fail
 ·have h2 : 2 ≤ l.length := by omega
  refine EV.loopTo (fun i : Nat => ([(0, .slice (some ⟨b, 0, none⟩) l.length c), (1, .func (.func 41) #[] #[]), (5, vi i)], M, [(b, Cl T (l.map RowV.v ++ sp))])) (fun i => 1 ≤ i ∧ i ≤ l.length ∧ cptN l i = l.take i) (fun i => l.length - i) 1 rfl ⟨Nat.le_refl _, by omega, by rw [cptN, cptN, if_pos (.inl rfl), getBang (by omega), List.nil_append]; cases l with | nil => simp at h2 | cons x l => rfl⟩ ?env1 (List.Sublist.refl _) ?_
  case env1 =>
   repeat' first
    | (refine List.forall_mem_cons.2 (And.intro ?_ ?_))
    | (intro _ hnil; cases hnil; done)
    | rfl
    | fail
  rintro i ⟨hi1, hi, hcp⟩ ih
  dsimp only at hi1 hi hcp ih ⊢
  repeat' first
    | refine EV.seq ?_
    | refine EV.skip ?_
    | refine EV.block ?_
    | (refine EV.reg ?_; (conv => (arg 2; whnf)); (refine nx ?_; try with_reducible exact ⟨⟩))
    | (refine EV.condX rfl (fun h => ?_) (fun h => ?_) <;> try exact dead h)
    | (refine EV.exit rfl ?_)
    | fail
  ·have hi' : i < l.length := by omega
   have hw1 : IntKind.i64.wrap ((i : Int) - 1) = ((i - 1 : Nat) : Int) := by rw [w64 (by omega) (by omega)]; omega
   have hr1 := rowAt2 (M := M) (G := [(b, Cl T (l.map RowV.v ++ sp))]) (b := b) (T := T) (f := RowV.v) (xs := l) (sp := sp) hi'
   have hr2 := rowAt2 (M := M) (G := [(b, Cl T (l.map RowV.v ++ sp))]) (b := b) (T := T) (f := RowV.v) (xs := l) (sp := sp) (i := i - 1) (by omega)
   obtain ⟨a1, n1, c1, e1⟩ := (l[i]).slice
   obtain ⟨a2, n2, c2, e2⟩ := (l[i - 1]'(by omega)).slice
   have hq := heq l[i] (l[i - 1]'(by omega))
   rw [e1, e2] at hq
   rw [e1] at hr1
   rw [e2] at hr2
   have hcpi : cptN l (i + 1) = cptN l i ++ (if (l[i]).xs ≠ (l[i - 1]'(by omega)).xs then [l[i]] else []) := by
    rw [cptN, getBang hi', getBang (show i - 1 < l.length by omega)]
    simp only [show ¬ i = 0 by omega, false_or]
   refine EV.any (t := Q75_5) [(b, Cl T (l.map RowV.v ++ sp))] (List.Sublist.refl _) ?_
   simp only [norm_cons, norm_nil, get_cons, get_nil, reduceIte, Nat.reduceEqDiff]
   by_cases hsame : (l[i]).xs = (l[i - 1]'(by omega)).xs
   ·have hd : decide ((l[i]).xs = (l[i - 1]'(by omega)).xs) = true := decide_eq_true hsame
    rw [hd] at hq
    rw [if_neg (by simpa using hsame), List.append_nil, hcp] at hcpi
    refine wA_q (t := Q75_5) rfl (fun lq tq hlq htq => ?_)
    repeat' first
      | ((first | refine wQ_op (by first | with_reducible assumption | rfl) (fun lq hlq => ?_) | refine wQ_nil (by first | with_reducible assumption | rfl) ?_ | fail); try simp only [push_cast, Int.cast_ofNat_Int, reduceIte, Nat.reduceEqDiff, reduceCtorEq, Nat.reduceAdd, Nat.reduceSub, Nat.reduceMul, Int.reduceToNat, Nat.reduceLeDiff, hw1])
      | refine wA_q (by first | with_reducible assumption | rfl) (fun lq tq hlq htq => ?_)
      | ((first | refine ConQ.call (hq _) ?_ | refine Exists.intro _ (Exists.intro _ (Exists.intro _ (And.intro (hr1) ?_))) | refine Exists.intro _ (Exists.intro _ (Exists.intro _ (And.intro (hr2) ?_))) | fail); try simp only [push_cast, Int.cast_ofNat_Int, reduceIte, Nat.reduceEqDiff, reduceCtorEq, Nat.reduceAdd, Nat.reduceSub, Nat.reduceMul, Int.reduceToNat, Nat.reduceLeDiff, hw1])
      | (refine wA_sT (by first | with_reducible assumption | rfl) (fun tq htq => ?_) (fun tq htq => ?_) <;> try simp only [push_cast, Int.cast_ofNat_Int, reduceIte, Nat.reduceEqDiff, reduceCtorEq, Nat.reduceAdd, Nat.reduceSub, Nat.reduceMul, Int.reduceToNat, Nat.reduceLeDiff, hw1])
      | exact wA_no (by first | with_reducible assumption | rfl)
      | refine wA_fin (by first | with_reducible assumption | rfl) ?_
      | (refine And.intro (by omega) ?_)
      | fail
    repeat' first
      | refine EV.seq ?_
      | (refine EV.reg ?_; (conv => (arg 2; whnf)); (refine nx ?_; try with_reducible exact ⟨⟩))
      | (refine EV.condX rfl (fun h => ?_) (fun h => ?_) <;> try exact dead h)
      | fail
    simp only [Option.map_some, onv_some]
    refine ⟨i, rfl, by omega, by omega, Or.inr rfl, ?_⟩
    obtain ⟨ro, hro, ero⟩ := sl_from (wb := b) (wo := 0) (n := l.length) (c := c) (i := i) (by omega)
    have hro2 : ro = i := by have := hro hi'; omega
    subst hro2
    rw [ero]
    clear hro ero
    repeat' first
      | refine EV.seq ?_
      | refine EV.block ?_
      | (refine EV.reg ?_; (conv => (arg 2; whnf)); (refine nx ?_; try with_reducible exact ⟨⟩))
      | fail
    have hci : (cptN l (ro + 1)).length = ro := by rw [hcpi, List.length_take]; omega
    refine EV.loopTo (fun x : Nat × List (RowV M) => ([(0, .slice (some ⟨b, 0, none⟩) l.length c), (1, .func (.func 41) #[] #[]), (5, vi (cptN l (ro + x.1)).length), (6, .slice (some ⟨b, ro, none⟩) (l.length - ro) (c - ro)), (7, vi x.1)], M, [(b, Cl T (x.2.map RowV.v ++ sp))]))
     (fun x => 1 ≤ x.1 ∧ ro + x.1 ≤ l.length ∧ x.2.length = l.length ∧ x.2.take (cptN l (ro + x.1)).length = cptN l (ro + x.1) ∧ (cptN l (ro + x.1)).length + 1 ≤ ro + x.1 ∧ ∀ j, ro + x.1 ≤ j + 1 → x.2[j]? = l[j]?) (fun x => l.length - (ro + x.1)) (1, l) rfl ⟨Nat.le_refl _, by dsimp only; omega, rfl, by dsimp only; rw [hci, hcpi], by dsimp only; omega, fun j _ => rfl⟩ ?env2 (List.Sublist.refl _) ?_
    case env2 =>
     simp only [hci]
     repeat' first
      | (refine List.forall_mem_cons.2 (And.intro ?_ ?_))
      | (intro _ hnil; cases hnil; done)
      | rfl
      | fail
    rintro ⟨k, C⟩ ⟨hk1, hk, hCl, hCt, hCi, hCj⟩ ih2
    dsimp only at hk1 hk hCl hCt hCi hCj ih2 ⊢
    repeat' first
      | refine EV.seq ?_
      | refine EV.skip ?_
      | refine EV.block ?_
      | (refine EV.reg ?_; (conv => (arg 2; whnf)); (refine nx ?_; try with_reducible exact ⟨⟩))
      | (refine EV.condX rfl (fun h => ?_) (fun h => ?_) <;> try exact dead h)
      | (refine EV.exit rfl ?_)
      | fail
    ·have hk' : ro + k < l.length := by omega
     have g1 : C[ro + k]'(by omega) = l[ro + k] := by
      have := hCj (ro + k) (by omega)
      rw [List.getElem?_eq_getElem (by omega), List.getElem?_eq_getElem hk'] at this
      exact Option.some.inj this
     have g2 : C[ro + (k - 1)]'(by omega) = l[ro + (k - 1)]'(by omega) := by
      have := hCj (ro + (k - 1)) (by omega)
      rw [List.getElem?_eq_getElem (by omega), List.getElem?_eq_getElem (by omega)] at this
      exact Option.some.inj this
     have hw2 : IntKind.i64.wrap ((k : Int) - 1) = ((k - 1 : Nat) : Int) := by rw [w64 (by omega) (by omega)]; omega
     have hr3 := rowAt2 (M := M) (G := [(b, Cl T (C.map RowV.v ++ sp))]) (b := b) (T := T) (f := RowV.v) (xs := C) (sp := sp) (i := ro + k) (by omega)
     have hr4 := rowAt2 (M := M) (G := [(b, Cl T (C.map RowV.v ++ sp))]) (b := b) (T := T) (f := RowV.v) (xs := C) (sp := sp) (i := ro + (k - 1)) (by omega)
     rw [g1] at hr3
     rw [g2] at hr4
     obtain ⟨a3, n3, c3, e3⟩ := (l[ro + k]).slice
     obtain ⟨a4, n4, c4, e4⟩ := (l[ro + (k - 1)]'(by omega)).slice
     have hq2 := heq l[ro + k] (l[ro + (k - 1)]'(by omega))
     rw [e3, e4] at hq2
     rw [e3] at hr3
     rw [e4] at hr4
     have hcpk : cptN l (ro + (k + 1)) = cptN l (ro + k) ++ (if (l[ro + k]).xs ≠ (l[ro + (k - 1)]'(by omega)).xs then [l[ro + k]] else []) := by
      rw [← Nat.add_assoc, cptN, getBang hk', getBang (show ro + k - 1 < l.length by omega)]
      simp only [show ¬ ro + k = 0 by omega, false_or, show ro + k - 1 = ro + (k - 1) by omega]
     refine EV.any (t := Q75_9) [(b, Cl T (C.map RowV.v ++ sp))] (List.Sublist.refl _) ?_
     simp only [norm_cons, norm_nil, get_cons, get_nil, reduceIte, Nat.reduceEqDiff]
     by_cases hsame2 : (l[ro + k]).xs = (l[ro + (k - 1)]'(by omega)).xs
     ·have hd2 : decide ((l[ro + k]).xs = (l[ro + (k - 1)]'(by omega)).xs) = true := decide_eq_true hsame2
      rw [hd2] at hq2
      rw [if_neg (by simpa using hsame2), List.append_nil] at hcpk
      refine wA_q (t := Q75_9) rfl (fun lq tq hlq htq => ?_)
      repeat' first
        | ((first | refine wQ_op (by first | with_reducible assumption | rfl) (fun lq hlq => ?_) | refine wQ_nil (by first | with_reducible assumption | rfl) ?_ | fail); try simp only [push_cast, Int.cast_ofNat_Int, reduceIte, Nat.reduceEqDiff, reduceCtorEq, Nat.reduceAdd, Nat.reduceSub, Nat.reduceMul, Int.reduceToNat, Nat.reduceLeDiff, hw2])
        | refine wA_q (by first | with_reducible assumption | rfl) (fun lq tq hlq htq => ?_)
        | ((first | refine ConQ.call (hq2 _) ?_ | refine Exists.intro _ (Exists.intro _ (Exists.intro _ (And.intro (hr3) ?_))) | refine Exists.intro _ (Exists.intro _ (Exists.intro _ (And.intro (hr4) ?_))) | fail); try simp only [push_cast, Int.cast_ofNat_Int, reduceIte, Nat.reduceEqDiff, reduceCtorEq, Nat.reduceAdd, Nat.reduceSub, Nat.reduceMul, Int.reduceToNat, Nat.reduceLeDiff, hw2])
        | (refine wA_sT (by first | with_reducible assumption | rfl) (fun tq htq => ?_) (fun tq htq => ?_) <;> try simp only [push_cast, Int.cast_ofNat_Int, reduceIte, Nat.reduceEqDiff, reduceCtorEq, Nat.reduceAdd, Nat.reduceSub, Nat.reduceMul, Int.reduceToNat, Nat.reduceLeDiff, hw2])
        | exact wA_no (by first | with_reducible assumption | rfl)
        | refine wA_fin (by first | with_reducible assumption | rfl) ?_
        | (refine And.intro (by omega) ?_)
        | fail
      repeat' first
        | refine EV.skip ?_
        | refine EV.inBlock ?_
        | (refine EV.reg ?_; (conv => (arg 2; whnf)); (refine nx ?_; try with_reducible exact ⟨⟩))
        | (refine EV.condX rfl (fun h => ?_) (fun h => ?_) <;> try exact dead h)
        | fail
      refine EV.to (ih2 (k + 1, C) ⟨by dsimp only; omega, by dsimp only; omega, hCl, by dsimp only; rw [hcpk]; exact hCt, by dsimp only; rw [hcpk]; omega, fun j hj => hCj j (by dsimp only at hj; omega)⟩ (by dsimp only; omega)) ?_ (List.Sublist.refl _)
      simp only [hcpk]
      repeat' first
       | (refine List.forall_mem_cons.2 (And.intro ?_ ?_))
       | (intro _ hnil; cases hnil; done)
       | rfl
       | (refine env_w64 rfl (by first | rfl | (push_cast; first | rfl | omega)) (by omega) (by omega); done)
       | fail
     ·have hd2 : decide ((l[ro + k]).xs = (l[ro + (k - 1)]'(by omega)).xs) = false := decide_eq_false hsame2
      rw [hd2] at hq2
      rw [if_pos hsame2] at hcpk
      refine wA_q (t := Q75_9) rfl (fun lq tq hlq htq => ?_)
      repeat' first
        | ((first | refine wQ_op (by first | with_reducible assumption | rfl) (fun lq hlq => ?_) | refine wQ_nil (by first | with_reducible assumption | rfl) ?_ | fail); try simp only [push_cast, Int.cast_ofNat_Int, reduceIte, Nat.reduceEqDiff, reduceCtorEq, Nat.reduceAdd, Nat.reduceSub, Nat.reduceMul, Int.reduceToNat, Nat.reduceLeDiff, hw2])
        | refine wA_q (by first | with_reducible assumption | rfl) (fun lq tq hlq htq => ?_)
        | ((first | refine ConQ.call (hq2 _) ?_ | refine Exists.intro _ (Exists.intro _ (Exists.intro _ (And.intro (hr3) ?_))) | refine Exists.intro _ (Exists.intro _ (Exists.intro _ (And.intro (hr4) ?_))) | fail); try simp only [push_cast, Int.cast_ofNat_Int, reduceIte, Nat.reduceEqDiff, reduceCtorEq, Nat.reduceAdd, Nat.reduceSub, Nat.reduceMul, Int.reduceToNat, Nat.reduceLeDiff, hw2])
        | (refine wA_sT (by first | with_reducible assumption | rfl) (fun tq htq => ?_) (fun tq htq => ?_) <;> try simp only [push_cast, Int.cast_ofNat_Int, reduceIte, Nat.reduceEqDiff, reduceCtorEq, Nat.reduceAdd, Nat.reduceSub, Nat.reduceMul, Int.reduceToNat, Nat.reduceLeDiff, hw2])
        | exact wA_no (by first | with_reducible assumption | rfl)
        | refine wA_fin (by first | with_reducible assumption | rfl) ?_
        | (refine And.intro (by omega) ?_)
        | fail
      repeat' first
        | refine EV.seq ?_
        | (refine EV.reg ?_; (conv => (arg 2; whnf)); (refine nx ?_; try with_reducible exact ⟨⟩))
        | (refine EV.condX rfl (fun h => ?_) (fun h => ?_) <;> try exact dead h)
        | (refine And.intro (by omega) ?_)
        | (refine Exists.intro _ (Exists.intro _ (Exists.intro _ (And.intro (by assumption) ?_))); try (refine nx ?_; try with_reducible exact ⟨⟩))
        | (refine xw ?_; (refine nx ?_; try with_reducible exact ⟨⟩))
        | fail
      refine ⟨by rw [List.length_append, List.length_map]; omega, ?_⟩
      rw [← e3, row_st2 RowV.v C sp (show (cptN l (ro + k)).length < C.length by omega)]
      have hci3 : (cptN l (ro + (k + 1))).length = (cptN l (ro + k)).length + 1 := by rw [hcpk, List.length_append, List.length_singleton]
      repeat' first
        | refine EV.inBlock ?_
        | (refine EV.reg ?_; (conv => (arg 2; whnf)); (refine nx ?_; try with_reducible exact ⟨⟩))
        | fail
      refine EV.to (ih2 (k + 1, C.set (cptN l (ro + k)).length l[ro + k]) ⟨by dsimp only; omega, by dsimp only; omega, by rw [List.length_set]; exact hCl, ?_, by dsimp only; rw [hci3]; omega, fun j hj => ?_⟩ (by dsimp only; omega)) ?_ (List.Sublist.refl _)
      ·dsimp only
       rw [hci3, hcpk, List.take_succ_eq_append_getElem (by rw [List.length_set]; omega), List.getElem_set_self, List.take_set, List.set_eq_of_length_le (by rw [List.length_take]; omega), hCt]
      ·dsimp only at hj ⊢
       rw [List.getElem?_set_ne (by omega)]; exact hCj j (by omega)
      ·simp only [hci3]
       repeat' first
        | (refine List.forall_mem_cons.2 (And.intro ?_ ?_))
        | (intro _ hnil; cases hnil; done)
        | rfl
        | (refine env_w64 rfl (by first | rfl | (push_cast; first | rfl | omega)) (by omega) (by omega); done)
        | fail
    ·have hke : ro + k = l.length := by omega
     have hcL : cptL l = cptN l (ro + k) := by rw [cptL, hke]
     generalize hm : cptN l (ro + k) = m at *
     simp only [Option.map_some, onv_some]
     refine ⟨m.length, rfl, by omega, by omega, Or.inr rfl, ?_⟩
     obtain ⟨r2, hr2', er2⟩ := sl_from (wb := b) (wo := 0) (n := l.length) (c := c) (i := m.length) (by omega)
     have hr3 : r2 = m.length := by have := hr2' (by omega); omega
     subst hr3
     rw [er2]
     refine Or.inr ⟨b, m.length, rfl, by omega, T, C.map RowV.v ++ sp, [], [], rfl, by rw [List.length_append, List.length_map]; omega, ?_⟩
     have htk : (C.map RowV.v ++ sp).take m.length = m.map RowV.v := by
      rw [List.take_append_of_le_length (by rw [List.length_map]; omega), ← List.map_take, hCt]
     rw [htk]
     have hlen2 : (C.map RowV.v ++ sp).length = l.length + sp.length := by rw [List.length_append, List.length_map, hCl]
     generalize hsp : (List.replicate (l.length - m.length) (Value.slice none 0 0) ++ List.drop (m.length + (List.replicate (l.length - m.length) (Value.slice none 0 0)).length) (C.map RowV.v ++ sp)) = sp'
     have hspl : c = m.length + sp'.length := by
      rw [← hsp, List.length_append, List.length_drop, hlen2, List.length_replicate]; omega
     rw [List.nil_append]
     repeat' first
       | refine EV.seq ?_
       | (refine EV.reg ?_; (conv => (arg 2; whnf)); (refine nx ?_; try with_reducible exact ⟨⟩))
       | fail
     simp only [Option.map_some, onv_some]
     refine ⟨m.length, rfl, by omega, Or.inl rfl, ?_⟩
     rw [sl_to]
     repeat' first
       | fail
     refine EV.ret Q75_ok ?_
     simp only [wpS, wpA, wpQL, push_cast, Int.cast_ofNat_Int, reduceIte, Nat.reduceEqDiff, reduceCtorEq, Nat.reduceAdd, Nat.reduceSub, Nat.reduceMul, Int.reduceToNat, Nat.reduceLeDiff, Q75]
     rw [hcL]; first | exact ⟨rfl, sp', rfl, hspl⟩ | exact ⟨sp', rfl, hspl⟩ | exact ⟨sp', hspl⟩ | exact ⟨sp', c, rfl, rfl, hspl⟩ | exact ⟨rfl, sp', c, rfl, rfl, hspl⟩ | exact ⟨sp', c, rfl, hspl⟩ | fail
   ·have hd : decide ((l[i]).xs = (l[i - 1]'(by omega)).xs) = false := decide_eq_false hsame
    rw [hd] at hq
    rw [if_pos hsame, hcp, ← List.take_succ_eq_append_getElem hi'] at hcpi
    refine wA_q (t := Q75_5) rfl (fun lq tq hlq htq => ?_)
    repeat' first
      | ((first | refine wQ_op (by first | with_reducible assumption | rfl) (fun lq hlq => ?_) | refine wQ_nil (by first | with_reducible assumption | rfl) ?_ | fail); try simp only [push_cast, Int.cast_ofNat_Int, reduceIte, Nat.reduceEqDiff, reduceCtorEq, Nat.reduceAdd, Nat.reduceSub, Nat.reduceMul, Int.reduceToNat, Nat.reduceLeDiff, hw1])
      | refine wA_q (by first | with_reducible assumption | rfl) (fun lq tq hlq htq => ?_)
      | ((first | refine ConQ.call (hq _) ?_ | refine Exists.intro _ (Exists.intro _ (Exists.intro _ (And.intro (hr1) ?_))) | refine Exists.intro _ (Exists.intro _ (Exists.intro _ (And.intro (hr2) ?_))) | fail); try simp only [push_cast, Int.cast_ofNat_Int, reduceIte, Nat.reduceEqDiff, reduceCtorEq, Nat.reduceAdd, Nat.reduceSub, Nat.reduceMul, Int.reduceToNat, Nat.reduceLeDiff, hw1])
      | (refine wA_sT (by first | with_reducible assumption | rfl) (fun tq htq => ?_) (fun tq htq => ?_) <;> try simp only [push_cast, Int.cast_ofNat_Int, reduceIte, Nat.reduceEqDiff, reduceCtorEq, Nat.reduceAdd, Nat.reduceSub, Nat.reduceMul, Int.reduceToNat, Nat.reduceLeDiff, hw1])
      | exact wA_no (by first | with_reducible assumption | rfl)
      | refine wA_fin (by first | with_reducible assumption | rfl) ?_
      | (refine And.intro (by omega) ?_)
      | fail
    repeat' first
      | refine EV.skip ?_
      | refine EV.inBlock ?_
      | (refine EV.reg ?_; (conv => (arg 2; whnf)); (refine nx ?_; try with_reducible exact ⟨⟩))
      | (refine EV.condX rfl (fun h => ?_) (fun h => ?_) <;> try exact dead h)
      | fail
    refine EV.to (ih (i + 1) ⟨by omega, by omega, hcpi⟩ (by omega)) ?_ (List.Sublist.refl _)
    repeat' first
     | (refine List.forall_mem_cons.2 (And.intro ?_ ?_))
     | (intro _ hnil; cases hnil; done)
     | rfl
     | (refine env_w64 rfl (by first | rfl | (push_cast; first | rfl | omega)) (by omega) (by omega); done)
     | fail
  ·have hie : i = l.length := by omega
   subst hie
   have hcl : cptL l = l := by rw [cptL, hcp, List.take_length]
   refine EV.ret Q75_ok ?_
   simp only [wpS, wpA, wpQL, push_cast, Int.cast_ofNat_Int, reduceIte, Nat.reduceEqDiff, reduceCtorEq, Nat.reduceAdd, Nat.reduceSub, Nat.reduceMul, Int.reduceToNat, Nat.reduceLeDiff, Q75]
   rw [hcl]; first | exact ⟨rfl, sp, rfl, hc⟩ | exact ⟨sp, rfl, hc⟩ | exact ⟨sp, hc⟩ | exact ⟨sp, c, rfl, rfl, hc⟩ | exact ⟨rfl, sp, c, rfl, rfl, hc⟩ | exact ⟨sp, c, rfl, hc⟩ | fail

end
end Go.EV

namespace Go.EV
open Go.Proofs

section
variable {M : PHeap}

/-- What cptN keeps of a sorted row: strictly ascending, and the same rows. -/
theorem cptN_spec (l : List (RowV M)) (hs : l.Pairwise (fun x y => ¬ cmpL y.xs x.xs < 0)) : ∀ n, n ≤ l.length →
  (cptN l n).Pairwise (fun x y => cmpL x.xs y.xs < 0) ∧ (∀ x, x ∈ (cptN l n).map RowV.xs ↔ x ∈ (l.take n).map RowV.xs) ∧ (0 < n → ∃ y, (cptN l n).getLast? = some y ∧ y.xs = (l[n - 1]!).xs)
 | 0, _ => ⟨List.Pairwise.nil, fun x => by simp [cptN], fun h => absurd h (Nat.lt_irrefl _)⟩
 | n + 1, hn => by
  obtain ⟨h1, h2, h3⟩ := cptN_spec l hs n (by omega)
  have hn' : n < l.length := by omega
  have ht : l.take (n + 1) = l.take n ++ [l[n]] := List.take_succ_eq_append_getElem hn'
  rw [cptN, getBang hn', ht, Nat.add_sub_cancel, getBang hn']
  by_cases hc : n = 0 ∨ (l[n]).xs ≠ (l[n - 1]!).xs
  ·rw [if_pos hc]
   refine ⟨?_, fun x => ?_, fun _ => ⟨l[n], by simp, rfl⟩⟩
   ·rw [List.pairwise_append]
    refine ⟨h1, List.pairwise_singleton .., fun x hx y hy => ?_⟩
    rw [List.mem_singleton] at hy
    subst hy
    -- x is one of the first n
    have hxm : x.xs ∈ (l.take n).map RowV.xs := (h2 _).1 (List.mem_map.2 ⟨x, hx, rfl⟩)
    obtain ⟨x', hx', hxe⟩ := List.mem_map.1 hxm
    obtain ⟨j, hj, rfl⟩ := List.getElem_of_mem hx'
    have hjn : j < n := by simp at hj; omega
    rw [List.getElem_take] at hxe
    have hne : n ≠ 0 := by omega
    have hdiff : (l[n]).xs ≠ (l[n - 1]!).xs := hc.resolve_left hne
    rw [getBang (show n - 1 < l.length by omega)] at hdiff
    rw [← hxe]
    have hp := List.pairwise_iff_getElem.1 hs
    rcases cmpL_total (l[j]'(by omega)).xs (l[n]).xs with h | h | h
    ·exact h
    ·exfalso
     -- l[j] = l[n], so l[n-1] = l[n]
     have ha : ¬ cmpL (l[n]).xs (l[n - 1]'(by omega)).xs < 0 := hp (n - 1) n (by omega) hn' (by omega)
     have hb : ¬ cmpL (l[n - 1]'(by omega)).xs (l[j]'(by omega)).xs < 0 := by
      by_cases hjj : j = n - 1
      ·subst hjj; rw [cmpL_self]; omega
      ·exact hp j (n - 1) (by omega) (by omega) (by omega)
     rcases cmpL_total (l[n]).xs (l[n - 1]'(by omega)).xs with k | k | k
     ·exact ha k
     ·exact hdiff k
     ·rw [← h] at k; exact hb k
    ·exact absurd h (hp j n (by omega) hn' hjn)
   ·rw [List.map_append, List.map_append, List.mem_append, List.mem_append, h2 x]
  ·rw [if_neg hc, List.append_nil]
   have hn0 : 0 < n := by omega
   have hsame : (l[n]).xs = (l[n - 1]!).xs := by
    apply Decidable.byContradiction; intro h; exact hc (.inr h)
   refine ⟨h1, fun x => ?_, fun _ => ?_⟩
   ·rw [h2 x, List.map_append, List.mem_append]
    constructor
    ·intro h; exact .inl h
    ·rintro (h | h)
     ·exact h
     ·simp only [List.map_singleton, List.mem_singleton] at h
      rw [h, hsame, getBang (show n - 1 < l.length by omega)]
      exact List.mem_map.2 ⟨_, List.mem_take_iff_getElem.2 ⟨n - 1, by omega, rfl⟩, rfl⟩
   ·obtain ⟨y, hy, hye⟩ := h3 hn0
    exact ⟨y, hy, by rw [hye, hsame]⟩

theorem cptL_spec (l : List (RowV M)) (hs : l.Pairwise (fun x y => ¬ cmpL y.xs x.xs < 0)) :
  (cptL l).Pairwise (fun x y => cmpL x.xs y.xs < 0) ∧ ∀ x, x ∈ (cptL l).map RowV.xs ↔ x ∈ l.map RowV.xs := by
 obtain ⟨h1, h2, _⟩ := cptN_spec l hs l.length (Nat.le_refl _)
 exact ⟨h1, fun x => by rw [← List.take_length (l := l)]; simpa [cptL] using h2 x⟩

set_option maxHeartbeats 4000000 in
theorem ax_distinct_c {b cap : Nat} {T : TypeId} {sp : List Value} (rs : List (RowV M)) (hl : rs.length < 1000000) (hc : cap = rs.length + sp.length) :
  Con Tryz.prog 36 #[.slice (some ⟨b, 0, none⟩) rs.length cap] M [(b, Cl T (rs.map RowV.v ++ sp))] fun v M' G' =>
   M' = M ∧ ∃ (ys : List (RowV M)) (sp' : List Value), v = .slice (some ⟨b, 0, none⟩) ys.length cap ∧ G' = [(b, Cl T (ys.map RowV.v ++ sp'))] ∧ cap = ys.length + sp'.length ∧
    ys.Pairwise (fun x y => cmpL x.xs y.xs < 0) ∧ ∀ x, x ∈ ys.map RowV.xs ↔ x ∈ rs.map RowV.xs := by
 refine Con.enter Q2_ok (args := [.slice (some ⟨b, 0, none⟩) rs.length cap]) (by simp [Q2]) fun w0 => ?_
 simp only [Q2, argE]
 repeat' first
   | refine EV.seq ?_
   | (refine EV.reg ?_; (conv => (arg 2; whnf)); (refine nx ?_; try with_reducible exact ⟨⟩))
   | fail
 refine Con.run (sl_Sort_c (b := b) (T := T) (rs := rs) (sp := sp) (c := cap) (by omega)) ?_
 rintro v M' G' hM ⟨rfl, rfl, ys, hp, hs, rfl⟩
 have hyl := hp.length_eq
 repeat' first
   | refine EV.seq ?_
   | (refine EV.reg ?_; (conv => (arg 2; whnf)); (refine nx ?_; try with_reducible exact ⟨⟩))
   | fail
 rw [← hyl]
 refine Con.run (sl_Compact_c (b := b) (T := T) (l := ys) (sp := sp) (c := cap) (by omega) (by omega)) ?_
 rintro v M2 G2 hM2 ⟨rfl, sp', rfl, rfl, hc'⟩
 repeat' first
   | fail
 refine EV.ret Q2_ok ?_
 simp only [wpS, wpA, wpQL, push_cast, Int.cast_ofNat_Int, reduceIte, Nat.reduceEqDiff, reduceCtorEq, Nat.reduceAdd, Nat.reduceSub, Nat.reduceMul, Int.reduceToNat, Nat.reduceLeDiff, Q2]
 obtain ⟨k1, k2⟩ := cptL_spec ys hs
 exact ⟨cptL ys, rfl, sp', rfl, hc', k1, fun x => by rw [k2 x]; exact (hp.map RowV.xs).mem_iff⟩


theorem sl_CompactNil_c (fv : Value) : Con Tryz.prog 89 #[.slice none 0 0, fv] M [] fun v M' G' => M' = M ∧ v = .slice none 0 0 ∧ G' = [] := by
 refine Con.enter Q75_ok (args := [.slice none 0 0, fv]) (by simp [Q75]) fun w0 => ?_
 simp only [Q75, argE]
 repeat' first
   | refine EV.seq ?_
   | (refine EV.reg ?_; (conv => (arg 2; whnf)); (refine nx ?_; try with_reducible exact ⟨⟩))
   | (refine EV.condX rfl (fun h => ?_) (fun h => ?_) <;> try exact dead h)
   | fail
 refine EV.ret Q75_ok ?_
 simp only [wpS, wpA, wpQL, push_cast, Int.cast_ofNat_Int, reduceIte, Nat.reduceEqDiff, reduceCtorEq, Nat.reduceAdd, Nat.reduceSub, Nat.reduceMul, Int.reduceToNat, Nat.reduceLeDiff, Q75]

theorem ax_distinctNil_c : Con Tryz.prog 36 #[.slice none 0 0] M [] fun v M' G' => v = .slice none 0 0 ∧ G' = [] := by
 refine Con.enter Q2_ok (args := [.slice none 0 0]) (by simp [Q2]) fun w0 => ?_
 simp only [Q2, argE]
 repeat' first
   | refine EV.seq ?_
   | (refine EV.reg ?_; (conv => (arg 2; whnf)); (refine nx ?_; try with_reducible exact ⟨⟩))
   | fail
 refine Con.run (G := []) (Con.sortNone (P := Tryz.prog) (ρ := Tryz.sortRows_ren) (M := M) (by have L := Tryz.sortRows; exact { L with }) rfl none 0 _) ?_
 rintro v M' G' hM ⟨rfl, rfl⟩
 repeat' first
   | refine EV.seq ?_
   | (refine EV.reg ?_; (conv => (arg 2; whnf)); (refine nx ?_; try with_reducible exact ⟨⟩))
   | fail
 refine Con.run (sl_CompactNil_c _) ?_
 rintro v M2 G2 hM2 ⟨rfl, rfl, rfl⟩
 repeat' first
   | fail
 refine EV.ret Q2_ok ?_
 simp only [wpS, wpA, wpQL, push_cast, Int.cast_ofNat_Int, reduceIte, Nat.reduceEqDiff, reduceCtorEq, Nat.reduceAdd, Nat.reduceSub, Nat.reduceMul, Int.reduceToNat, Nat.reduceLeDiff, Q2]

end
end Go.EV

namespace Go.EV
open Go.Proofs

def RowV.up {M M' : PHeap} (h : M.le M') (r : RowV M) : RowV M' := ⟨r.1, r.2.1.mono h, r.2.2⟩
theorem RowV.up_v {M M' : PHeap} (h : M.le M') (l : List (RowV M)) : (l.map (RowV.up h)).map RowV.v = l.map RowV.v := by rw [List.map_map]; rfl
theorem RowV.up_xs {M M' : PHeap} (h : M.le M') (l : List (RowV M)) : (l.map (RowV.up h)).map RowV.xs = l.map RowV.xs := by rw [List.map_map]; rfl

section
variable {M : PHeap}

/-- What is gathered: a row of rows, with the box that holds it. -/
def Gath (p : List Ev) (bx : Nat) (os : List (List Int)) (M : PHeap) (G : Own) : Prop :=
 ∃ (rs : List (RowV M)) (ov : Vec), G = (bx, Cl 26 [osv ov rs.length]) :: osg 34 ov (rs.map RowV.v) ∧ osok 1 ov rs.length (rs.map RowV.v) ∧ rs.length ≤ 421875 ∧ (∀ x, x ∈ rs.map RowV.xs ↔ x ∈ os) ∧ ∀ x, x ∈ os → IsOut p x

theorem Gath.mono {p : List Ev} {bx : Nat} {os : List (List Int)} {M M' : PHeap} {G : Own} (hle : M.le M') (h : Gath p bx os M G) : Gath p bx os M' G := by
 obtain ⟨rs, ov, h1, h2, h3, h4⟩ := h
 refine ⟨rs.map (RowV.up hle), ov, ?_, ?_, by rw [List.length_map]; exact h3, by rw [RowV.up_xs]; exact h4.1, h4.2⟩
 ·rw [RowV.up_v, List.length_map]; exact h1
 ·rw [RowV.up_v, List.length_map]; exact h2

set_option maxHeartbeats 4000000 in
theorem ax_Outcomes_c (ts : List (List OpV)) (s : Value) (hs : SlSl M 5 encOp s ts) (hb : Sized ts) :
  Con Tryz.prog 11 #[.agg #[s]] M [] fun v M' _ => (checkP ts ≠ 0 ∧ v = .tuple #[.slice none 0 0, vi (checkP ts)]) ∨ (checkP ts = 0 ∧ ∃ s' outs, v = .tuple #[s', vi 0] ∧ Outs (evsOf ts) outs ∧ SlSlC M' 1 ei s' outs) := by
 have hs0 := hs
 obtain ⟨a, c, vs, rfl, hl, hrd, hk⟩ := hs
 refine Con.enter Q1_ok (args := [.agg #[.slice a ts.length c]]) (by simp [Q1]) fun w0 => ?_
 simp only [Q1, argE]
 repeat' first
   | refine EV.seq ?_
   | (refine EV.reg ?_; (conv => (arg 2; whnf)); (refine nx ?_; try with_reducible exact ⟨⟩))
   | ((first | with_reducible intro b | refine xrA rfl ?_ | fail); try (refine nx ?_; try with_reducible exact ⟨⟩))
   | fail
 refine Con.callS (G1 := []) (ax_of_c ts _ hs0 hb) ?_
 rintro v M1 G1 hM1 ⟨rfl, (⟨hne, rfl⟩ | ⟨hck, s', rfl, hs1⟩)⟩
 ·simp only [wpS, wpA, wpQL, push_cast, Int.cast_ofNat_Int, reduceIte, Nat.reduceEqDiff, reduceCtorEq, Nat.reduceAdd, Nat.reduceSub, Nat.reduceMul, Int.reduceToNat, Nat.reduceLeDiff]
  repeat' first
    | refine EV.seq ?_
    | (refine EV.reg ?_; (conv => (arg 2; whnf)); simp only [wpS, wpA, wpQL, push_cast, Int.cast_ofNat_Int, reduceIte, Nat.reduceEqDiff, reduceCtorEq, Nat.reduceAdd, Nat.reduceSub, Nat.reduceMul, Int.reduceToNat, Nat.reduceLeDiff, hne])
    | (refine EV.condX rfl (fun h => ?_) (fun h => ?_) <;> try exact dead h)
    | (with_reducible intro b; try simp only [wpS, wpA, wpQL, push_cast, Int.cast_ofNat_Int, reduceIte, Nat.reduceEqDiff, reduceCtorEq, Nat.reduceAdd, Nat.reduceSub, Nat.reduceMul, Int.reduceToNat, Nat.reduceLeDiff, hne])
    | (refine xw ?_; simp only [wpS, wpA, wpQL, push_cast, Int.cast_ofNat_Int, reduceIte, Nat.reduceEqDiff, reduceCtorEq, Nat.reduceAdd, Nat.reduceSub, Nat.reduceMul, Int.reduceToNat, Nat.reduceLeDiff, hne])
    | fail
  refine EV.ret Q1_ok ?_
  simp only [wpS, wpA, wpQL, push_cast, Int.cast_ofNat_Int, reduceIte, Nat.reduceEqDiff, reduceCtorEq, Nat.reduceAdd, Nat.reduceSub, Nat.reduceMul, Int.reduceToNat, Nat.reduceLeDiff, Q1]
  first | exact .inl ⟨hne, rfl⟩ | exact .inl hne | exact hne | simp [hne] | fail
 ·have hp := evs_pok hck
  have hs2 := hs1
  obtain ⟨pa, pc, rfl, hpr⟩ := hs2
  simp only [wpS, wpA, wpQL, push_cast, Int.cast_ofNat_Int, reduceIte, Nat.reduceEqDiff, reduceCtorEq, Nat.reduceAdd, Nat.reduceSub, Nat.reduceMul, Int.reduceToNat, Nat.reduceLeDiff]
  repeat' first
    | refine EV.seq ?_
    | refine EV.skip ?_
    | (refine EV.reg ?_; (conv => (arg 2; whnf)); (refine nx ?_; try with_reducible exact ⟨⟩))
    | (refine EV.condX rfl (fun h => ?_) (fun h => ?_) <;> try exact dead h)
    | ((first | with_reducible intro b | refine xsA rfl ?_ | fail); try (refine nx ?_; try with_reducible exact ⟨⟩))
    | (refine xw ?_; (refine nx ?_; try with_reducible exact ⟨⟩))
    | fail
  refine Con.callS (G1 := []) (ax_execs_c _ hp hs1) ?_
  rintro v M2 G2 hM2 ⟨g2, caps2, rfl, hit2⟩
  repeat' first
    | refine EV.block ?_
    | fail
  rename_i lb pb
  obtain ⟨ab, rfl⟩ : ∃ ab, ab = b := ⟨_, rfl⟩
  refine EV.keepS [(ab, Cl 26 [.slice none 0 0])] ?_
  generalize hR : M2.add _ = N
  have hMN : M2.le N := hR ▸ PHeap.le_add _ _
  have hpb : rd N pb 0 1 [.slice pa (evsOf ts).length pc] := hR ▸ rd_at (T := 74) (cs := [.slice pa (evsOf ts).length pc]) (by simp) rfl (by simp)
  clear hR
  have hs1N := hs1.mono (PHeap.le_trans hM2 hMN)
  have hitN := hit2.mono hMN
  refine EV.toS (ρ' := [(4, pv pb 0), (6, pv ab 0), (17, .func (.func g2) #[] caps2)]) (G' := [(ab, Cl 26 [.slice none 0 0])]) ?_ ?env1
  case env1 =>
   repeat' first
    | (refine List.forall_mem_cons.2 (And.intro ?_ ?_))
    | (intro _ hnil; cases hnil; done)
    | rfl
    | fail
  refine EV.overM rfl rfl rfl hitN (fun d es M G' => ∃ G0, G'.Perm ((d, Obj.deferred (some [])) :: G0) ∧ Gath (evsOf ts) ab (es.map (outcomeP (evsOf ts))) M G0)
   (fun d c M G' => False) ?_ ?_ ?_ ?_ ?_ ?_
  ·rintro d es M4 M5 G4 hle ⟨G0, h1, h2⟩
   exact ⟨G0, h1, h2.mono hle⟩
  ·rintro d c M4 M5 G4 hle h
   exact h
  ·intro d
   exact ⟨_, List.Perm.refl _, [], none, rfl, ⟨rfl, rfl⟩, Nat.zero_le _, fun x => by simp, fun x h => nomatch h⟩
  ·intro l d r hr1 hr2 es e v M4 G4 w1 F he hM4 ⟨G0, hp4, rs, ov, hG0, hov, hlen, hmem, hout0⟩ hel
   subst hG0
   refine EV.permG ?_ (List.Perm.cons _ hp4)
   have hx := execsP_ok hp he
   have hel0 : IsX M4 v e := hel
   obtain ⟨xf, xd, xo, xn, rfl, ⟨fa, fc, rfl, _⟩, ⟨da, dc, rfl, _⟩, ⟨oa, oc, ovs, rfl, _, _, _⟩, ⟨na, nc, rfl, _⟩⟩ := hel
   repeat' first
     | (refine EV.reg ?_; (conv => (arg 2; whnf)); (refine nx ?_; try with_reducible exact ⟨⟩))
     | (with_reducible intro b; try (refine nx ?_; try with_reducible exact ⟨⟩))
     | (refine xw ?_; (refine nx ?_; try with_reducible exact ⟨⟩))
     | fail
   refine EV.frz [(b, Cl 45 [.slice fa e.frm.length fc, .slice da e.dn.length dc, .slice oa e.ord.length oc, .slice na e.fen.length nc])] ?_
   generalize hR : M4.add _ = N4
   have hMN4 : M4.le N4 := hR ▸ PHeap.le_add _ _
   have hxb : rd N4 b 0 4 [.slice fa e.frm.length fc, .slice da e.dn.length dc, .slice oa e.ord.length oc, .slice na e.fen.length nc] := hR ▸ rd_own' 0 rfl rfl (by simp)
   clear hR
   refine EV.rbegin hr1 ?_
   refine EV.block (EV.seq ?_)
   have hpb4 := hpb.mono (PHeap.le_trans hM4 hMN4)
   have hs4 := hs1N.mono (PHeap.le_trans hM4 hMN4)
   have hout := fun G => ax_outcome_c (M := N4.add G) (evsOf ts) _ (hs4.mono (PHeap.le_add _ _)) hp e _ (hel0.mono (PHeap.le_trans hMN4 (PHeap.le_add _ _))) hx
   refine EV.any (t := Q1_7) [(ab, Cl 26 [osv ov rs.length])] (List.Sublist.cons _ (List.Sublist.cons _ (List.Sublist.cons_cons _ (List.nil_sublist _)))) ?_
   simp only [norm_cons, norm_nil, get_cons, get_nil, reduceIte, Nat.reduceEqDiff]
   repeat' first
     | ((first | refine wQ_op (by first | with_reducible assumption | rfl) (fun lq hlq => ?_) | refine wQ_nil (by first | with_reducible assumption | rfl) ?_ | fail); try (refine nz ?_; try with_reducible exact ⟨⟩))
     | refine wA_q (by first | with_reducible assumption | rfl) (fun lq tq hlq htq => ?_)
     | ((with_reducible refine Con.callN (hout _) ?_) ;  rintro v1 M1 G1 ⟨o1, rfl, ho1, rfl⟩; try (refine nz ?_; try with_reducible exact ⟨⟩))
     | (refine wA_s (by first | with_reducible assumption | rfl) (fun tq htq => ?_) (fun tq htq => ?_) <;> try (refine nz ?_; try with_reducible exact ⟨⟩))
     | (refine wA_sT (by first | with_reducible assumption | rfl) (fun tq htq => ?_) (fun tq htq => ?_) <;> try (refine nz ?_; try with_reducible exact ⟨⟩))
     | exact wA_no (by first | with_reducible assumption | rfl)
     | ((first | with_reducible intro b | refine Exists.intro _ (And.intro (rd_M (by assumption)) ?_) | refine Exists.intro _ (Exists.intro _ (Exists.intro _ (And.intro (rd_M (by assumption)) ?_))) | refine xsA rfl ?_ | refine And.intro (PHeap.le_refl _) (And.intro (mem_of_sub ?_) ?_); focus ((repeat' first | exact List.Sublist.refl _ | exact List.nil_sublist _ | exact List.sublist_append_left _ _ | refine List.Sublist.cons_cons _ ?_ | refine List.Sublist.append_left ?_ _ | refine List.sublist_append_of_sublist_right ?_ | refine List.Sublist.cons _ ?_); done) | fail); try (refine nz ?_; try with_reducible exact ⟨⟩))
     | fail
   refine ⟨[osv o1 (outcomeP (evsOf ts) e).length], Or.inr ⟨_, 0, rfl, rd_at (T := 34) (cs := [osv o1 (outcomeP (evsOf ts) e).length]) (by simp) rfl (by simp)⟩, by simp [ok1_cons, ok1_nil, Value.oneCell'], Or.inl ⟨ov, _, rfl, _, hov, _, PullL.p, by simp only [maxLen]; omega, by omega, fun o2 ho2 hnn => ?_⟩⟩
   repeat' first
     | (refine wQ_nil (by first | with_reducible assumption | rfl) ?_; try (refine nz ?_; try with_reducible exact ⟨⟩))
     | refine wA_q (by first | with_reducible assumption | rfl) (fun lq tq hlq htq => ?_)
     | (refine wA_sT (by first | with_reducible assumption | rfl) (fun tq htq => ?_) (fun tq htq => ?_) <;> try (refine nz ?_; try with_reducible exact ⟨⟩))
     | exact wA_no (by first | with_reducible assumption | rfl)
     | refine wA_fin (by first | with_reducible assumption | rfl) ?_
     | (refine xw ?_; try (refine nz ?_; try with_reducible exact ⟨⟩))
     | fail
   refine EV.keepS ((l, Obj.loop { r with state := .busy }) :: (d, Obj.deferred (some [])) :: (ab, Cl 26 [osv o2 (rs.length + 1)]) :: osg 34 o2 (rs.map RowV.v ++ [osv o1 (outcomeP (evsOf ts) e).length])) ?_
   generalize hR : N4.add _ = N5
   have hMN5 : N4.le N5 := hR ▸ PHeap.le_add _ _
   have hnew : SlC N5 1 ei (osv o1 (outcomeP (evsOf ts) e).length) (outcomeP (evsOf ts) e) := hR ▸ SlC_osv (T := 3) ho1 rfl (fun q hq => by simp [hq])
   clear hR
   have hol : (outcomeP (evsOf ts) e).length < 1000000 := by
    have h1 := outReads_len (evsOf ts) (wordsP (evsOf ts) e.frm) (evsOf ts).length
    have h2 := hp.len
    have h3 := hx.ol
    unfold outcomeP
    rw [List.length_append, List.length_map]; omega
   -- the rows, with the new one
   have hle5 := PHeap.le_trans hMN4 hMN5
   obtain ⟨rs5, hrs5⟩ : ∃ rs5 : List (RowV N5), rs5 = rs.map (RowV.up hle5) ++ [⟨(osv o1 (outcomeP (evsOf ts) e).length, outcomeP (evsOf ts) e), hnew, hol⟩] := ⟨_, rfl⟩
   have hv5 : rs.map RowV.v ++ [osv o1 (outcomeP (evsOf ts) e).length] = rs5.map RowV.v := by rw [hrs5, List.map_append, RowV.up_v]; rfl
   have hx5 : rs5.map RowV.xs = rs.map RowV.xs ++ [outcomeP (evsOf ts) e] := by rw [hrs5, List.map_append, RowV.up_xs]; rfl
   have hl5 : rs5.length = rs.length + 1 := by rw [hrs5, List.length_append, List.length_map]; rfl
   have hm5 : ∀ x, x ∈ rs5.map RowV.xs ↔ x ∈ (es ++ [e]).map (outcomeP (evsOf ts)) := by
    intro x
    rw [hx5, List.mem_append, hmem, List.map_append, List.mem_append]; rfl
   rw [hv5, ← hl5] at ho2 ⊢
   clear hnew hrs5
   have hout5 : ∀ x, x ∈ (es ++ [e]).map (outcomeP (evsOf ts)) → IsOut (evsOf ts) x := by
    intro x h
    rw [List.map_append, List.mem_append] at h
    rcases h with h | h
    ·exact hout0 x h
    ·simp only [List.map_singleton, List.mem_singleton] at h
     exact ⟨e, he, h.symm⟩
   repeat' first
     | refine EV.seq ?_
     | refine EV.skip ?_
     | refine EV.inBlock ?_
     | (refine EV.reg ?_; (conv => (arg 2; whnf)); (refine nx ?_; try with_reducible exact ⟨⟩))
     | (refine EV.condX rfl (fun h => ?_) (fun h => ?_) <;> try exact dead h)
     | (refine xsA rfl ?_; try (refine nx ?_; try with_reducible exact ⟨⟩))
     | fail
   ·rcases o2 with _ | ⟨rb, cap, sp⟩
    ·obtain ⟨h0, _⟩ := ho2
     omega
    ·obtain ⟨_, hsp, _, hcap⟩ := ho2
     simp only [osg, oad_some, ocap_some]
     refine Con.callS (G1 := [(rb, Cl 34 (rs5.map RowV.v ++ sp))]) (ax_distinct_c rs5 (by omega) (by rw [List.length_append, List.length_map] at hsp; omega)) ?_
     rintro v M6 G6 hM6 ⟨rfl, ys, sp', rfl, rfl, hc', hys, hym⟩
     simp only [List.cons_append, List.nil_append]
     repeat' first
       | refine EV.inBlock ?_
       | (refine xw ?_; (refine nx ?_; try with_reducible exact ⟨⟩))
       | fail
     have hyl : ys.length ≤ 421875 := by
      rw [← List.length_map (f := RowV.xs)]
      refine outs_few hp (evs_mono ts) (evs_few hck) ?_ fun x hx => hout5 x ((hm5 x).1 ((hym x).1 hx))
      rw [List.nodup_iff_pairwise_ne, List.pairwise_map]
      exact hys.imp fun {a b} h e => by rw [e, cmpL_self] at h; omega
     refine EV.reS (G' := (l, Obj.loop { r with state := .busy }) :: (d, Obj.deferred (some [])) :: (ab, Cl 26 [.slice (some ⟨rb, 0, none⟩) ys.length cap]) :: [(rb, Cl 34 (ys.map RowV.v ++ sp'))]) ?_
     refine EV.rend hr1 hr2 (List.Perm.refl _) ⟨_, List.Perm.refl _, ys, some (rb, cap, sp'), rfl, ?_, hyl, fun x => (hym x).trans (hm5 x), hout5⟩
     refine ⟨by rw [List.length_map]; omega, by rw [List.length_append, List.length_map]; omega, by omega, hcap⟩
   ·refine EV.rend hr1 hr2 (List.Perm.refl _) ⟨_, List.Perm.refl _, rs5, o2, rfl, ho2, by omega, hm5, hout5⟩
  ·rintro d M4 G4 hM4 ⟨G0, hp4, rs, ov, rfl, hov, hlen, hmem, hout0⟩
   refine EV.permG ?_ hp4
   repeat' first
     | refine EV.seq ?_
     | refine EV.inBlock ?_
     | (refine EV.reg ?_; (conv => (arg 2; whnf)); (refine nx ?_; try with_reducible exact ⟨⟩))
     | (refine xsA rfl ?_; try (refine nx ?_; try with_reducible exact ⟨⟩))
     | fail
   have hfin : ∀ (ys : List (RowV M4)) (N : PHeap), M4.le N → ∀ (s' : Value), (∃ a c, s' = .slice a ys.length c ∧ rdS N 1 a ys.length (ys.map RowV.v)) → ys.Pairwise (fun x y => cmpL x.xs y.xs < 0) → (∀ x, x ∈ ys.map RowV.xs ↔ x ∈ rs.map RowV.xs) →
     ∃ outs, Outs (evsOf ts) outs ∧ SlSlC N 1 ei s' outs := by
    rintro ys N hN s' ⟨a, c, rfl, hrd⟩ hpw hmm
    refine ⟨ys.map RowV.xs, ⟨?_, fun x => (hmm x).trans (hmem x)⟩, a, c, ys.map RowV.v, by rw [List.length_map], by simp, by rw [List.length_map]; exact hrd, fun i h1 h2 => ?_⟩
    ·rw [List.pairwise_map]; exact hpw
    ·simp only [List.getElem_map]
     exact (ys[i]'(by simpa using h1)).2.1.mono hN
   rcases ov with _ | ⟨rb, cap, sp⟩
   ·obtain ⟨h0, hv0⟩ := hov
    have hrs : rs = [] := List.length_eq_zero_iff.1 h0
    subst hrs
    refine Con.callS (G1 := []) ax_distinctNil_c ?_
    rintro v M6 G6 hM6 ⟨rfl, rfl⟩
    repeat' first
      | fail
    obtain ⟨outs, ho1, ho2⟩ := hfin [] M6 hM6 (.slice none 0 0) ⟨none, 0, rfl, .inl ⟨rfl, rfl⟩⟩ List.Pairwise.nil (fun x => Iff.rfl)
    refine EV.retM Q1_ok (ms := [d]) (G1 := [(ab, Cl 26 [.slice none 0 0])]) (List.Perm.refl _) ?_
    simp only [wpS, wpA, wpQL, push_cast, Int.cast_ofNat_Int, reduceIte, Nat.reduceEqDiff, reduceCtorEq, Nat.reduceAdd, Nat.reduceSub, Nat.reduceMul, Int.reduceToNat, Nat.reduceLeDiff, Q1]
    exact .inr ⟨hck, _, rfl, outs, ho1, ho2⟩
   ·obtain ⟨_, hsp, _, _⟩ := hov
    simp only [osg, oad_some, ocap_some]
    refine Con.callS (G1 := [(rb, Cl 34 (rs.map RowV.v ++ sp))]) (ax_distinct_c rs (by omega) (by rw [List.length_append, List.length_map] at hsp; omega)) ?_
    rintro v M6 G6 hM6 ⟨rfl, ys, sp', rfl, rfl, hc', hys, hym⟩
    repeat' first
      | fail
    refine EV.keepS [(d, Obj.deferred (some [])), (ab, Cl 26 [osv (some (rb, cap, sp)) rs.length])] ?_
    generalize hR : M6.add _ = N5
    have hMN5 : M6.le N5 := hR ▸ PHeap.le_add _ _
    obtain ⟨outs, ho1, ho2⟩ := hfin ys N5 hMN5 (.slice (some ⟨rb, 0, none⟩) ys.length cap) ⟨_, _, rfl, hR ▸ .inr ⟨rb, 0, rfl, rd_at (T := 34) (cs := ys.map RowV.v ++ sp') (by simp) (by rw [List.drop_zero, Nat.mul_one, List.take_left' (by rw [List.length_map])]) (by simp)⟩⟩ hys hym
    clear hR
    refine EV.retM Q1_ok (ms := [d]) (G1 := [(ab, Cl 26 [osv (some (rb, cap, sp)) rs.length])]) (List.Perm.refl _) ?_
    simp only [wpS, wpA, wpQL, push_cast, Int.cast_ofNat_Int, reduceIte, Nat.reduceEqDiff, reduceCtorEq, Nat.reduceAdd, Nat.reduceSub, Nat.reduceMul, Int.reduceToNat, Nat.reduceLeDiff, Q1]
    exact .inr ⟨hck, _, rfl, outs, ho1, ho2⟩
  ·intro d c M4 G4 hM4 h
   exact h.elim

end
end Go.EV

namespace Go.EV
open Go.Proofs

section
variable {M : PHeap}

set_option maxHeartbeats 4000000 in
theorem r1_Ints_q (xs ys : List Int) (v w : Value) (hv : Sl M 1 ei v xs) (hw : Sl M 1 ei w ys) (hx : xs.length ≤ 281474976710656) (hy : ys.length ≤ 281474976710656) :
  ConQ Tryz.prog 20 #[v, w] M (vb (decide (xs = ys))) := by
 obtain ⟨a, c, rfl, hr⟩ := hv
 obtain ⟨a2, c2, rfl, hr2⟩ := hw
 refine Con.enter Q59_ok (args := [.slice a xs.length c, .slice a2 ys.length c2]) (by simp [Q59]) fun w0 => ?_
 simp only [Q59, argE]
 repeat' first
   | refine EV.seq ?_
   | refine EV.skip ?_
   | refine EV.block ?_
   | (refine EV.reg ?_; (conv => (arg 2; whnf)); (refine nx ?_; try with_reducible exact ⟨⟩))
   | (refine EV.condX rfl (fun h => ?_) (fun h => ?_) <;> try exact dead h)
   | fail
 ·have hne : decide (xs = ys) = false := decide_eq_false fun e => h (by rw [e])
  refine EV.ret Q59_ok ?_
  simp only [wpS, wpA, wpQL, push_cast, Int.cast_ofNat_Int, reduceIte, Nat.reduceEqDiff, reduceCtorEq, Nat.reduceAdd, Nat.reduceSub, Nat.reduceMul, Int.reduceToNat, Nat.reduceLeDiff, Q59]
  rw [hne]
 ·have hl : xs.length = ys.length := by omega
  refine EV.loopTo (fun i : Nat => ([(0, .slice a xs.length c), (1, .slice a2 ys.length c2), (5, vi i)], M, [])) (fun i => i ≤ xs.length ∧ xs.take i = ys.take i) (fun i => xs.length - i) 0 rfl ⟨Nat.zero_le _, rfl⟩ ?env1 (List.Sublist.refl _) ?_
  case env1 =>
   repeat' first
    | (refine List.forall_mem_cons.2 (And.intro ?_ ?_))
    | (intro _ hnil; cases hnil; done)
    | rfl
    | fail
  rintro i ⟨hi, he⟩ ih
  dsimp only at hi he ih ⊢
  repeat' first
    | refine EV.seq ?_
    | refine EV.skip ?_
    | refine EV.block ?_
    | (refine EV.reg ?_; (conv => (arg 2; whnf)); (refine nx ?_; try with_reducible exact ⟨⟩))
    | (refine EV.condX rfl (fun h => ?_) (fun h => ?_) <;> try exact dead h)
    | (refine EV.exit rfl ?_)
    | fail
  ·have hi' : i < xs.length := by omega
   have hi2 : i < ys.length := by omega
   obtain ⟨b, o, rfl, hat⟩ := Sl.at (sz := 1) (enc := ei) (fun _ => rfl) (by decide) hr (by omega)
   obtain ⟨b2, o2, rfl, hat2⟩ := Sl.at (sz := 1) (enc := ei) (fun _ => rfl) (by decide) hr2 (by omega)
   have q1 := hat i hi'
   have q2 := hat2 i hi2
   simp only [Nat.mul_one] at q1 q2
   repeat' first
     | refine EV.seq ?_
     | refine EV.skip ?_
     | refine EV.inBlock ?_
     | ((first | refine EV.reg ?_ | refine EV.any _ (List.Sublist.refl _) ?_ | fail); (conv => (arg 2; whnf)); (refine nx ?_; try with_reducible exact ⟨⟩))
     | (refine EV.condX rfl (fun h => ?_) (fun h => ?_) <;> try exact dead h)
     | (refine And.intro (by omega) ?_)
     | (refine Exists.intro _ (And.intro (rd_M (by assumption)) ?_); try (refine nx ?_; try with_reducible exact ⟨⟩))
     | fail
   ·have hne : decide (xs = ys) = false := decide_eq_false fun e => by subst e; exact h rfl
    refine EV.ret Q59_ok ?_
    simp only [wpS, wpA, wpQL, push_cast, Int.cast_ofNat_Int, reduceIte, Nat.reduceEqDiff, reduceCtorEq, Nat.reduceAdd, Nat.reduceSub, Nat.reduceMul, Int.reduceToNat, Nat.reduceLeDiff, Q59]
    rw [hne]
   ·have hxy : xs[i] = ys[i] := by simpa using h
    refine EV.to (ih (i + 1) ⟨by omega, by rw [List.take_succ_eq_append_getElem hi', List.take_succ_eq_append_getElem hi2, he, hxy]⟩ (by omega)) ?_ (List.Sublist.refl _)
    repeat' first
     | (refine List.forall_mem_cons.2 (And.intro ?_ ?_))
     | (intro _ hnil; cases hnil; done)
     | rfl
     | (refine env_w64 rfl (by first | rfl | (push_cast; first | rfl | omega)) (by omega) (by omega); done)
     | fail
  ·have hie : i = xs.length := by omega
   subst hie
   have heq : decide (xs = ys) = true := decide_eq_true (by rwa [List.take_length, hl, List.take_length] at he)
   refine EV.ret Q59_ok ?_
   simp only [wpS, wpA, wpQL, push_cast, Int.cast_ofNat_Int, reduceIte, Nat.reduceEqDiff, reduceCtorEq, Nat.reduceAdd, Nat.reduceSub, Nat.reduceMul, Int.reduceToNat, Nat.reduceLeDiff, Q59]
   rw [heq]

theorem buffers_c : Con Tryz.prog 32 #[] M [] fun v M' _ => ∃ s, v = .agg #[s] ∧ SlSl M' 5 encOp s buffersP := by
 refine Con.enter Q57_ok (args := []) (by simp [Q57]) fun w0 => ?_
 simp only [Q57, argE]
 repeat' first
   | refine EV.seq ?_
   | (refine EV.reg ?_; (conv => (arg 2; whnf)); (refine nx ?_; try with_reducible exact ⟨⟩))
   | (with_reducible intro b; try (refine nx ?_; try with_reducible exact ⟨⟩))
   | (refine xw ?_; (refine nx ?_; try with_reducible exact ⟨⟩))
   | fail
 rename_i r0 b3 b6
 refine EV.keepS [(r0, Cl 24 [.slice (some ⟨b, 0, none⟩) 2 2])] ?_
 generalize hR : M.add _ = N
 have hMN : M.le N := hR ▸ PHeap.le_add _ _
 have k7 : rd N b 0 2 [.slice (some ⟨b3, 0, none⟩) 2 2, .slice (some ⟨b6, 0, none⟩) 2 2] := hR ▸ rd_own' 0 rfl rfl (by simp)
 have k6 : rd N b6 0 10 (encOp ⟨1, 1, 1, 0, 0⟩ ++ encOp ⟨0, 0, 0, 0, 0⟩) := hR ▸ rd_own' 1 rfl rfl (by simp)
 have k3 : rd N b3 0 10 (encOp ⟨1, 0, 1, 0, 0⟩ ++ encOp ⟨0, 1, 0, 0, 0⟩) := hR ▸ rd_own' 2 rfl rfl (by simp)
 refine EV.ret Q57_ok ?_
 simp only [wpS, wpA, wpQL, push_cast, Int.cast_ofNat_Int, reduceIte, Nat.reduceEqDiff, reduceCtorEq, Nat.reduceAdd, Nat.reduceSub, Nat.reduceMul, Int.reduceToNat, Nat.reduceLeDiff, Q57]
 refine ⟨_, rd_own' 0 rfl rfl (by simp), _, rfl, some ⟨b, 0, none⟩, 2, _, rfl, rfl, .inr ⟨b, 0, rfl, k7⟩, fun i h1 h2 => ?_⟩
 have hi : i = 0 ∨ i = 1 := by simp [buffersP] at h2; omega
 rcases hi with rfl | rfl
 ·exact ⟨some ⟨b3, 0, none⟩, 2, rfl, .inr ⟨b3, 0, rfl, k3⟩⟩
 ·exact ⟨some ⟨b6, 0, none⟩, 2, rfl, .inr ⟨b6, 0, rfl, k6⟩⟩

set_option maxHeartbeats 4000000 in
theorem awake_c : Con Tryz.prog 10 #[] M [] fun v _ _ => v = vb true := by
 refine Con.enter Q56_ok (args := []) (by simp [Q56]) fun w0 => ?_
 simp only [Q56, argE]
 repeat' first
   | refine EV.seq ?_
   | (refine EV.reg ?_; (conv => (arg 2; whnf)); (refine nx ?_; try with_reducible exact ⟨⟩))
   | fail
 refine Con.callS (G1 := []) buffers_c ?_
 rintro v M1 G1 hM1 ⟨s, rfl, hs⟩
 repeat' first
   | fail
 refine Con.callS (G1 := []) (ax_Outcomes_c buffersP s hs ⟨by decide, by decide⟩) ?_
 rintro v M2 G2 hM2 (⟨hne, _⟩ | ⟨_, s', outs, rfl, ho, hs'⟩)
 ·exact absurd buffers_ok hne
 have he := ho.eq
 rw [buffers_outs] at he
 subst he
 obtain ⟨a, c, vs, rfl, hl, hrd, hk⟩ := hs'.sl
 obtain ⟨ob, oo, rfl, hat⟩ := SlSl.at hrd hl hk (by decide)
 obtain ⟨a0, c0, hr1, hr2⟩ := hat 0 (by decide)
 have hq : ∀ (b : Nat) (G : Own), ConQ Tryz.prog 20 #[.slice a0 5 c0, .slice (some ⟨b, 0, none⟩) 5 5] (M2.add ((b, Cl 3 [vi 0, vi 0, vi 1, vi 1, vi 0]) :: G)) (vb true) := fun b G =>
  r1_Ints_q [0, 0, 1, 1, 0] [0, 0, 1, 1, 0] _ _ ⟨a0, c0, rfl, hr2.mono (PHeap.le_add _ _)⟩ ⟨_, _, rfl, .inr ⟨b, 0, rfl, rd_own' 0 rfl rfl (by simp)⟩⟩ (by decide) (by decide)
 simp only [Nat.mul_one, Nat.zero_mul, Nat.add_zero, List.getElem_cons_zero, List.length_cons, List.length_nil, Nat.zero_add, Nat.reduceAdd] at hr1 hr2
 repeat' first
   | refine EV.seq ?_
   | (refine EV.reg ?_; (conv => (arg 2; whnf)); (refine nx ?_; try with_reducible exact ⟨⟩))
   | (refine ConQ.call (hq _ _) ?_; try (refine nx ?_; try with_reducible exact ⟨⟩))
   | (refine condW.intro (fun hc => ?_) (fun hc => ?_) <;> try simp only [ne_eq, Bool.not_true, Bool.not_false, not_true_eq_false, not_false_eq_true, reduceCtorEq] at hc <;> try (exfalso; first | exact hc | omega | (simp at hc; done)))
   | (with_reducible intro b; try (refine nx ?_; try with_reducible exact ⟨⟩))
   | (refine And.intro (by omega) ?_)
   | (refine Exists.intro _ (Exists.intro _ (Exists.intro _ (And.intro (rd_M (by assumption)) ?_))); try (refine nx ?_; try with_reducible exact ⟨⟩))
   | fail
 refine EV.ret Q56_ok ?_
 simp only [wpS, wpA, wpQL, push_cast, Int.cast_ofNat_Int, reduceIte, Nat.reduceEqDiff, reduceCtorEq, Nat.reduceAdd, Nat.reduceSub, Nat.reduceMul, Int.reduceToNat, Nat.reduceLeDiff, Q56]
 rfl

end
end Go.EV

namespace Go.EV
open Go.Proofs

instance (priority := low) At.app {A G : Own} {b : Nat} {T : TypeId} {cs : List Value} [h : At G b T cs] : At (A ++ G) b T cs := ⟨List.mem_append_right _ h.mem⟩
instance (priority := low) Split.app {A G : Own} {b : Nat} {T : TypeId} {cs : List Value} {Ga Gb : Own} [h : Split G b T cs Ga Gb] : Split (A ++ G) b T cs (A ++ Ga) Gb := ⟨by rw [h.eq, List.append_assoc]⟩
theorem cmpL_nil_lt {ys : List Int} : cmpL [] ys < 0 ↔ ys ≠ [] := by
 cases ys <;> simp [cmpL]
theorem cmpL_to_nil {xs : List Int} : ¬ cmpL xs [] < 0 := by
 cases xs <;> simp [cmpL]

section
variable {M : PHeap}

set_option maxHeartbeats 4000000 in
theorem r1_Less_q (xs ys : List Int) (v w : Value) (hv : Sl M 1 ei v xs) (hw : Sl M 1 ei w ys) (hx : xs.length ≤ 281474976710656) (hy : ys.length ≤ 281474976710656) :
  ConQ Tryz.prog 31 #[v, w] M (vb (decide (cmpL xs ys < 0))) := by
 obtain ⟨a, c, rfl, hr⟩ := hv
 obtain ⟨a2, c2, rfl, hr2⟩ := hw
 refine Con.enter Q60_ok (args := [.slice a xs.length c, .slice a2 ys.length c2]) (by simp [Q60]) fun w0 => ?_
 simp only [Q60, argE]
 repeat' first
   | refine EV.seq ?_
   | refine EV.block ?_
   | (refine EV.reg ?_; (conv => (arg 2; whnf)); (refine nx ?_; try with_reducible exact ⟨⟩))
   | fail
 refine EV.loopTo (fun i : Nat => ([(0, .slice a xs.length c), (1, .slice a2 ys.length c2), (5, vi i)], M, [])) (fun i => i ≤ xs.length ∧ i ≤ ys.length ∧ xs.take i = ys.take i) (fun i => xs.length - i) 0 rfl ⟨Nat.zero_le _, Nat.zero_le _, rfl⟩ ?env1 (List.Sublist.refl _) ?_
 case env1 =>
  repeat' first
   | (refine List.forall_mem_cons.2 (And.intro ?_ ?_))
   | (intro _ hnil; cases hnil; done)
   | rfl
   | fail
 rintro i ⟨hi, hi2, he⟩ ih
 dsimp only at hi hi2 he ih ⊢
 have hdr := cmpL_drop he
 by_cases hb : i < xs.length ∧ i < ys.length
 ·obtain ⟨b1, b2⟩ := hb
  obtain ⟨b, o, rfl, hat⟩ := Sl.at (sz := 1) (enc := ei) (fun _ => rfl) (by decide) hr (by omega)
  obtain ⟨bb2, o2, rfl, hat2⟩ := Sl.at (sz := 1) (enc := ei) (fun _ => rfl) (by decide) hr2 (by omega)
  have q1 := hat i b1
  have q2 := hat2 i b2
  simp only [Nat.mul_one] at q1 q2
  rw [List.drop_eq_getElem_cons b1, List.drop_eq_getElem_cons b2] at hdr
  have k1 : ((i : Int) < (xs.length : Int)) = True := eq_true (by omega)
  have k2 : ((i : Int) < (ys.length : Int)) = True := eq_true (by omega)
  repeat' first
    | refine EV.seq ?_
    | refine EV.skip ?_
    | refine EV.block ?_
    | refine EV.inBlock ?_
    | ((first | refine EV.reg ?_ | refine EV.any _ (List.Sublist.refl _) ?_ | fail); (conv => (arg 2; whnf)); simp only [wpS, wpA, wpQL, push_cast, Int.cast_ofNat_Int, reduceIte, Nat.reduceEqDiff, reduceCtorEq, Nat.reduceAdd, Nat.reduceSub, Nat.reduceMul, Int.reduceToNat, Nat.reduceLeDiff, k1, k2, decide_true])
    | with_reducible assumption
    | (refine condW.merge ?_ (fun hc K' hK => ?_) ?_; rotate_left)
    | (refine EV.condX rfl (fun h => ?_) (fun h => ?_) <;> try exact dead h)
    | (refine And.intro (by omega) ?_)
    | (refine Exists.intro _ (And.intro (rd_M (by assumption)) ?_); try simp only [wpS, wpA, wpQL, push_cast, Int.cast_ofNat_Int, reduceIte, Nat.reduceEqDiff, reduceCtorEq, Nat.reduceAdd, Nat.reduceSub, Nat.reduceMul, Int.reduceToNat, Nat.reduceLeDiff, k1, k2, decide_true])
    | fail
  ·have hne : ¬ xs[i] = ys[i] := by simpa using h
   refine EV.ret Q60_ok ?_
   simp only [wpS, wpA, wpQL, push_cast, Int.cast_ofNat_Int, reduceIte, Nat.reduceEqDiff, reduceCtorEq, Nat.reduceAdd, Nat.reduceSub, Nat.reduceMul, Int.reduceToNat, Nat.reduceLeDiff, Q60]
   rw [hdr]
   have : (cmpL (xs[i] :: List.drop (i + 1) xs) (ys[i] :: List.drop (i + 1) ys) < 0) ↔ xs[i] < ys[i] := by
    rw [cmpL_cons_lt]
    constructor
    ·rintro (h | ⟨h, _⟩)
     ·exact h
     ·exact absurd h hne
    ·exact .inl
   rw [decide_eq_decide.2 this]
  ·have hxy : xs[i] = ys[i] := by simpa using h
   refine EV.to (ih (i + 1) ⟨by omega, by omega, by rw [List.take_succ_eq_append_getElem b1, List.take_succ_eq_append_getElem b2, he, hxy]⟩ (by omega)) ?_ (List.Sublist.refl _)
   repeat' first
    | (refine List.forall_mem_cons.2 (And.intro ?_ ?_))
    | (intro _ hnil; cases hnil; done)
    | rfl
    | (refine env_w64 rfl (by first | rfl | (push_cast; first | rfl | omega)) (by omega) (by omega); done)
    | fail
 ·have hend : (decide (cmpL xs ys < 0)) = decide ((xs.length : Int) < (ys.length : Int)) := by
   rw [decide_eq_decide, hdr]
   by_cases h1 : i = xs.length
   ·subst h1
    rw [List.drop_length, cmpL_nil_lt]
    by_cases h2 : xs.length < ys.length
    ·have : List.drop xs.length ys ≠ [] := by
      intro h; have := congrArg List.length h; simp at this; omega
     exact ⟨fun _ => by omega, fun _ => this⟩
    ·rw [List.drop_eq_nil_of_le (by omega)]
     exact ⟨fun h => absurd rfl h, fun h => by omega⟩
   ·have : i = ys.length := by omega
    subst this
    rw [List.drop_length]
    exact ⟨fun h => absurd h cmpL_to_nil, fun h => by omega⟩
  rw [hend]
  by_cases h1 : i < xs.length
  ·have k1 : ((i : Int) < (xs.length : Int)) = True := eq_true (by omega)
   have k2 : ((i : Int) < (ys.length : Int)) = False := eq_false (by omega)
   repeat' first
     | refine EV.seq ?_
     | (refine EV.reg ?_; (conv => (arg 2; whnf)); simp only [wpS, wpA, wpQL, push_cast, Int.cast_ofNat_Int, reduceIte, Nat.reduceEqDiff, reduceCtorEq, Nat.reduceAdd, Nat.reduceSub, Nat.reduceMul, Int.reduceToNat, Nat.reduceLeDiff, k1, k2, decide_true, decide_false])
     | with_reducible assumption
     | (refine condW.merge ?_ (fun hc K' hK => ?_) ?_; rotate_left)
     | (refine EV.condX rfl (fun h => ?_) (fun h => ?_) <;> try exact dead h)
     | (refine EV.exit rfl ?_)
     | fail
   refine EV.ret Q60_ok ?_
   simp only [wpS, wpA, wpQL, push_cast, Int.cast_ofNat_Int, reduceIte, Nat.reduceEqDiff, reduceCtorEq, Nat.reduceAdd, Nat.reduceSub, Nat.reduceMul, Int.reduceToNat, Nat.reduceLeDiff, Q60]
  ·have k1 : ((i : Int) < (xs.length : Int)) = False := eq_false (by omega)
   repeat' first
     | refine EV.seq ?_
     | (refine EV.reg ?_; (conv => (arg 2; whnf)); simp only [wpS, wpA, wpQL, push_cast, Int.cast_ofNat_Int, reduceIte, Nat.reduceEqDiff, reduceCtorEq, Nat.reduceAdd, Nat.reduceSub, Nat.reduceMul, Int.reduceToNat, Nat.reduceLeDiff, k1, decide_false])
     | with_reducible assumption
     | (refine condW.merge ?_ (fun hc K' hK => ?_) ?_; rotate_left)
     | (refine EV.condX rfl (fun h => ?_) (fun h => ?_) <;> try exact dead h)
     | (refine EV.exit rfl ?_)
     | fail
   refine EV.ret Q60_ok ?_
   simp only [wpS, wpA, wpQL, push_cast, Int.cast_ofNat_Int, reduceIte, Nat.reduceEqDiff, reduceCtorEq, Nat.reduceAdd, Nat.reduceSub, Nat.reduceMul, Int.reduceToNat, Nat.reduceLeDiff, Q60]

set_option maxHeartbeats 4000000 in
theorem r1_Within_q (ls : List (List Int)) (x : List Int) (v w : Value) (hv : SlSl M 1 ei v ls) (hw : Sl M 1 ei w x) (hs : ls.Pairwise fun x y => cmpL x y < 0) (hl : ls.length < 1000000000) (hx : x.length ≤ 281474976710656) (hll : ∀ y ∈ ls, y.length ≤ 281474976710656) :
  ConQ Tryz.prog 18 #[v, w] M (vb (decide (x ∈ ls))) := by
 have hp := List.pairwise_iff_getElem.1 hs
 obtain ⟨a, c, vs, rfl, hvl, hrd, hk⟩ := hv
 refine Con.enter Q61_ok (args := [.slice a ls.length c, w]) (by simp [Q61]) fun w0 => ?_
 simp only [Q61, argE]
 repeat' first
   | refine EV.seq ?_
   | refine EV.block ?_
   | (refine EV.reg ?_; (conv => (arg 2; whnf)); (refine nx ?_; try with_reducible exact ⟨⟩))
   | fail
 refine EV.loopTo (fun z : Nat × Nat => ([(0, .slice a ls.length c), (1, w), (5, vi z.1), (6, vi z.2)], M, [])) (fun z => z.1 ≤ z.2 ∧ z.2 ≤ ls.length ∧ (∀ i (h : i < ls.length), i < z.1 → cmpL ls[i] x < 0) ∧ ∀ i (h : i < ls.length), z.2 ≤ i → ¬ cmpL ls[i] x < 0) (fun z => z.2 - z.1) (0, ls.length) rfl ⟨Nat.zero_le _, Nat.le_refl _, fun i h h0 => absurd h0 (Nat.not_lt_zero _), fun i h h0 => by omega⟩ ?env1 (List.Sublist.refl _) ?_
 case env1 =>
  repeat' first
   | (refine List.forall_mem_cons.2 (And.intro ?_ ?_))
   | (intro _ hnil; cases hnil; done)
   | rfl
   | fail
 rintro ⟨lo, hi⟩ ⟨h1, h2, h3, h4⟩ ih
 dsimp only at h1 h2 h3 h4 ih ⊢
 by_cases hlt : lo < hi
 ·have k1 : ((lo : Int) < (hi : Int)) = True := eq_true (by omega)
  have hw1 : IntKind.i64.wrap ((lo : Int) + (hi : Int)) = (lo : Int) + (hi : Int) := w64 (by omega) (by omega)
  have hq : IntKind.i64.wrap (((lo : Int) + (hi : Int)).tdiv 2) = (((lo + hi) / 2 : Nat) : Int) := by
   rw [Int.tdiv_eq_ediv_of_nonneg (by omega), w64 (by omega) (by omega)]; omega
  have hm : (lo + hi) / 2 < ls.length := by omega
  obtain ⟨ub, uo, rfl, hat⟩ := SlSl.at hrd hvl hk (by omega)
  obtain ⟨a', c', hr1, hr2⟩ := hat _ hm
  have hless := fun G => r1_Less_q (M := M.add G) ls[(lo + hi) / 2] x _ w ⟨a', c', rfl, hr2.mono (PHeap.le_add _ _)⟩ (hw.mono (PHeap.le_add _ _)) (hll _ (List.getElem_mem hm)) hx
  generalize hmid : (lo + hi) / 2 = mid at *
  simp only [Nat.mul_one] at hr1
  repeat' first
    | refine EV.seq ?_
    | refine EV.skip ?_
    | refine EV.block ?_
    | refine EV.inBlock ?_
    | (refine EV.reg ?_; (conv => (arg 2; whnf)); simp only [wpS, wpA, wpQL, push_cast, Int.cast_ofNat_Int, reduceIte, Nat.reduceEqDiff, reduceCtorEq, Nat.reduceAdd, Nat.reduceSub, Nat.reduceMul, Int.reduceToNat, Nat.reduceLeDiff, k1, hw1, hq, show ¬ (2 : Int) = 0 by decide])
    | (refine ConQ.call (hless _) ?_; try simp only [wpS, wpA, wpQL, push_cast, Int.cast_ofNat_Int, reduceIte, Nat.reduceEqDiff, reduceCtorEq, Nat.reduceAdd, Nat.reduceSub, Nat.reduceMul, Int.reduceToNat, Nat.reduceLeDiff, k1, hw1, hq, show ¬ (2 : Int) = 0 by decide])
    | (refine EV.condX rfl (fun h => ?_) (fun h => ?_) <;> try exact dead h)
    | (refine And.intro (by omega) ?_)
    | (refine Exists.intro _ (Exists.intro _ (Exists.intro _ (And.intro (rd_M (by assumption)) ?_))); try simp only [wpS, wpA, wpQL, push_cast, Int.cast_ofNat_Int, reduceIte, Nat.reduceEqDiff, reduceCtorEq, Nat.reduceAdd, Nat.reduceSub, Nat.reduceMul, Int.reduceToNat, Nat.reduceLeDiff, k1, hw1, hq, show ¬ (2 : Int) = 0 by decide])
    | fail
  all_goals have hmlt : lo ≤ mid ∧ mid < hi := by omega
  ·refine EV.to (ih (mid + 1, hi) ⟨by dsimp only; omega, h2, fun i hi' hlt => ?_, h4⟩ (by dsimp only; omega)) ?_ (List.Sublist.refl _)
   ·dsimp only at hlt
    have hmx : cmpL ls[mid] x < 0 := by simpa using h
    by_cases he : i = mid
    ·subst he; exact hmx
    ·exact cmpL_trans _ _ _ (hp i mid hi' hm (by omega)) hmx
   ·repeat' first
     | (refine List.forall_mem_cons.2 (And.intro ?_ ?_))
     | (intro _ hnil; cases hnil; done)
     | rfl
     | (refine env_w64 rfl (by first | rfl | (push_cast; first | rfl | omega)) (by omega) (by omega); done)
     | fail
  ·refine EV.to (ih (lo, mid) ⟨by dsimp only; omega, by dsimp only; omega, h3, fun i hi' hge => ?_⟩ (by dsimp only; omega)) ?_ (List.Sublist.refl _)
   ·dsimp only at hge
    have hmx : ¬ cmpL ls[mid] x < 0 := by simpa using h
    by_cases he : i = mid
    ·subst he; exact hmx
    ·exact fun hlt => hmx (cmpL_trans _ _ _ (hp mid i hm hi' (by omega)) hlt)
   ·repeat' first
     | (refine List.forall_mem_cons.2 (And.intro ?_ ?_))
     | (intro _ hnil; cases hnil; done)
     | rfl
     | fail
 ·have k1 : ((lo : Int) < (hi : Int)) = False := eq_false (by omega)
  have hle : lo = hi := by omega
  subst hle
  by_cases hlo : lo < ls.length
  ·have k2 : ((lo : Int) < (ls.length : Int)) = True := eq_true (by omega)
   obtain ⟨ub, uo, rfl, hat⟩ := SlSl.at hrd hvl hk (by omega)
   obtain ⟨a', c', hr1, hr2⟩ := hat _ hlo
   have hints := fun G => r1_Ints_q (M := M.add G) ls[lo] x _ w ⟨a', c', rfl, hr2.mono (PHeap.le_add _ _)⟩ (hw.mono (PHeap.le_add _ _)) (hll _ (List.getElem_mem hlo)) hx
   simp only [Nat.mul_one] at hr1
   have hin : decide (x ∈ ls) = decide (ls[lo] = x) := by
    rw [decide_eq_decide]
    constructor
    ·intro hm
     obtain ⟨j, hj, rfl⟩ := List.getElem_of_mem hm
     rcases Nat.lt_trichotomy j lo with h5 | h5 | h5
     ·have := h3 j hj h5; rw [cmpL_self] at this; omega
     ·subst h5; rfl
     ·exact absurd (hp lo j hlo hj h5) (h4 lo hlo (Nat.le_refl _))
    ·rintro rfl; exact List.getElem_mem hlo
   rw [hin]
   repeat' first
     | refine EV.seq ?_
     | (refine EV.reg ?_; (conv => (arg 2; whnf)); simp only [wpS, wpA, wpQL, push_cast, Int.cast_ofNat_Int, reduceIte, Nat.reduceEqDiff, reduceCtorEq, Nat.reduceAdd, Nat.reduceSub, Nat.reduceMul, Int.reduceToNat, Nat.reduceLeDiff, k1, k2, decide_true])
     | (refine ConQ.call (hints _) ?_; try simp only [wpS, wpA, wpQL, push_cast, Int.cast_ofNat_Int, reduceIte, Nat.reduceEqDiff, reduceCtorEq, Nat.reduceAdd, Nat.reduceSub, Nat.reduceMul, Int.reduceToNat, Nat.reduceLeDiff, k1, k2, decide_true])
     | with_reducible assumption
     | (refine condW.merge ?_ (fun hc K' hK => ?_) ?_; rotate_left)
     | (refine EV.condX rfl (fun h => ?_) (fun h => ?_) <;> try exact dead h)
     | (refine EV.exit rfl ?_)
     | (refine And.intro (by omega) ?_)
     | (refine Exists.intro _ (Exists.intro _ (Exists.intro _ (And.intro (rd_M (by assumption)) ?_))); try simp only [wpS, wpA, wpQL, push_cast, Int.cast_ofNat_Int, reduceIte, Nat.reduceEqDiff, reduceCtorEq, Nat.reduceAdd, Nat.reduceSub, Nat.reduceMul, Int.reduceToNat, Nat.reduceLeDiff, k1, k2, decide_true])
     | fail
   refine EV.ret Q61_ok ?_
   simp only [wpS, wpA, wpQL, push_cast, Int.cast_ofNat_Int, reduceIte, Nat.reduceEqDiff, reduceCtorEq, Nat.reduceAdd, Nat.reduceSub, Nat.reduceMul, Int.reduceToNat, Nat.reduceLeDiff, Q61]
   rfl
  ·have k2 : ((lo : Int) < (ls.length : Int)) = False := eq_false (by omega)
   have hin : decide (x ∈ ls) = false := by
    rw [decide_eq_false_iff_not]
    intro hm
    obtain ⟨j, hj, rfl⟩ := List.getElem_of_mem hm
    have := h3 j hj (by omega); rw [cmpL_self] at this; omega
   rw [hin]
   repeat' first
     | refine EV.seq ?_
     | (refine EV.reg ?_; (conv => (arg 2; whnf)); simp only [wpS, wpA, wpQL, push_cast, Int.cast_ofNat_Int, reduceIte, Nat.reduceEqDiff, reduceCtorEq, Nat.reduceAdd, Nat.reduceSub, Nat.reduceMul, Int.reduceToNat, Nat.reduceLeDiff, k1, k2, decide_false])
     | (refine condW.merge ?_ (fun hc K' hK => ?_) ?_; rotate_left)
     | (refine EV.condX rfl (fun h => ?_) (fun h => ?_) <;> try exact dead h)
     | (refine EV.exit rfl ?_)
     | (exfalso; simp at hc; done)
     | exact false
     | fail
   refine EV.ret Q61_ok ?_
   simp only [wpS, wpA, wpQL, push_cast, Int.cast_ofNat_Int, reduceIte, Nat.reduceEqDiff, reduceCtorEq, Nat.reduceAdd, Nat.reduceSub, Nat.reduceMul, Int.reduceToNat, Nat.reduceLeDiff, Q61]
   rfl

end
end Go.EV

namespace Go.EV
open Go.Proofs

/-- Threads whose rows are owned. -/
abbrev Ths := List (Vec × List OpV)
def thG (l : Ths) : Own := l.flatMap fun x => osg 83 x.1 (x.2.flatMap encOp)
def thV (l : Ths) : List Value := l.map fun x => osv x.1 x.2.length
def thOk (l : Ths) : Prop := ∀ x ∈ l, osok 5 x.1 x.2.length (x.2.flatMap encOp)
theorem thG_app (l m : Ths) : thG (l ++ m) = thG l ++ thG m := List.flatMap_append
theorem thG_one (x : Vec × List OpV) : thG [x] = osg 83 x.1 (x.2.flatMap encOp) := by simp [thG]
theorem thV_len (l : Ths) : (thV l).length = l.length := by simp [thV]
theorem ops_cells (l : List OpV) : (l.flatMap encOp).length = l.length * 5 := flatMap_length (sz := 5) (fun _ => rfl) l

/-- Rows that are owned, read. -/
theorem th_sl {M : PHeap} {G : Own} {ov : Vec} {l : Ths} (hov : osok 1 ov l.length (thV l)) (hok : thOk l) (h1 : ∀ q ∈ osg 70 ov (thV l), q ∈ G) (h2 : ∀ q ∈ thG l, q ∈ G) : SlSl (M.add G) 5 encOp (osv ov l.length) (l.map (·.2)) := by
 refine ⟨oad ov, ocap ov, thV l, by rw [List.length_map], by rw [thV_len, List.length_map], ?_, fun i hi hi' => ?_⟩
 ·rw [List.length_map]; exact rd_osg hov h1
 ·simp only [thV, List.getElem_map]
  have hil : i < l.length := by simpa using hi'
  have hm := List.getElem_mem hil
  exact ⟨oad l[i].1, ocap l[i].1, rfl, rd_osg (hok _ hm) fun q hq => h2 q (List.mem_flatMap.2 ⟨l[i], hm, hq⟩)⟩

section
variable {M : PHeap}

set_option maxHeartbeats 4000000 in
theorem ref_OwnO_c (ts : List (List OpV)) (s : Value) (hs : SlSl M 5 encOp s ts) (hb : Sized ts) (hb2 : ts.length < 1000000) (hb3 : ∀ t ∈ ts, t.length < 1000000) :
  Con Tryz.prog 57 #[.agg #[s]] M [] fun v M' G' => M' = M ∧ ∃ (ov : Vec) (l : Ths), v = .agg #[osv ov l.length] ∧ osok 1 ov l.length (thV l) ∧ thOk l ∧ l.map (·.2) = ts ∧ ∃ R, G' = osg 70 ov (thV l) ++ (thG l ++ R) := by
 obtain ⟨a, c, vs, rfl, hl, hrd, hk⟩ := hs
 refine Con.enter Q62_ok (args := [.agg #[.slice a ts.length c]]) (by simp [Q62]) fun w0 => ?_
 simp only [Q62, argE]
 repeat' first
   | refine EV.seq ?_
   | refine EV.block ?_
   | (refine EV.reg ?_; (conv => (arg 2; whnf)); (refine nx ?_; try with_reducible exact ⟨⟩))
   | (with_reducible intro b; try (refine nx ?_; try with_reducible exact ⟨⟩))
   | fail
 rename_i b1 b2
 obtain ⟨b3, rfl⟩ : ∃ x, x = b := ⟨_, rfl⟩
 refine EV.loopTo (fun x : Nat × Vec × Ths => ([(1, pv b1 0), (2, pv b2 0), (3, pv b3 0), (4, vi x.1)], M, (b3, Cl 24 [osv x.2.1 x.1]) :: (b2, Cl 24 [.slice none 0 0]) :: (b1, Cl 24 [.slice a ts.length c]) :: (osg 70 x.2.1 (thV x.2.2) ++ thG x.2.2)))
  (fun x => x.1 ≤ ts.length ∧ osok 1 x.2.1 x.1 (thV x.2.2) ∧ x.2.2.length = x.1 ∧ thOk x.2.2 ∧ x.2.2.map (·.2) = ts.take x.1) (fun x => ts.length - x.1) (0, none, []) rfl ⟨Nat.zero_le _, ⟨rfl, rfl⟩, rfl, (fun x h => nomatch h), rfl⟩ ?env1 (List.Sublist.refl _) ?_
 case env1 =>
  repeat' first
   | (refine List.forall_mem_cons.2 (And.intro ?_ ?_))
   | (intro _ hnil; cases hnil; done)
   | rfl
   | fail
 rintro ⟨i, oq, l⟩ ⟨hi, hoq, hlen, hok, hts⟩ ih
 dsimp only at hi hoq hlen hok hts ih ⊢
 repeat' first
   | refine EV.seq ?_
   | refine EV.skip ?_
   | refine EV.block ?_
   | (refine EV.reg ?_; (conv => (arg 2; whnf)); (refine nx ?_; try with_reducible exact ⟨⟩))
   | (refine EV.condX rfl (fun h => ?_) (fun h => ?_) <;> try exact dead h)
   | (refine EV.exit rfl ?_)
   | ((first | refine xrA rfl ?_ | refine xsA rfl ?_ | fail); try (refine nx ?_; try with_reducible exact ⟨⟩))
   | (refine xw ?_; (refine nx ?_; try with_reducible exact ⟨⟩))
   | fail
 ·have hi' : i < ts.length := by omega
  obtain ⟨pb, po, rfl, hat⟩ := SlSl.at hrd hl hk (by omega)
  obtain ⟨a', c', hr1, hr2⟩ := hat i hi'
  simp only [Nat.mul_one] at hr1
  have hbi := hb3 ts[i] (List.getElem_mem hi')
  refine EV.any (t := Q62_4) [(b3, Cl 24 [osv oq i]), (b1, Cl 24 [.slice (some ⟨pb, po, none⟩) ts.length c])] (List.Sublist.cons_cons _ (List.Sublist.cons _ (List.Sublist.cons_cons _ (List.nil_sublist _)))) ?_
  simp only [norm_cons, norm_nil, get_cons, get_nil, reduceIte, Nat.reduceEqDiff]
  repeat' first
    | ((first | refine wQ_op (by first | with_reducible assumption | rfl) (fun lq hlq => ?_) | refine wQ_nil (by first | with_reducible assumption | rfl) ?_ | fail); try (refine nz ?_; try with_reducible exact ⟨⟩))
    | refine wA_q (by first | with_reducible assumption | rfl) (fun lq tq hlq htq => ?_)
    | (refine wA_s (by first | with_reducible assumption | rfl) (fun tq htq => ?_) (fun tq htq => ?_) <;> try (refine nz ?_; try with_reducible exact ⟨⟩))
    | exact wA_no (by first | with_reducible assumption | rfl)
    | (refine And.intro (by omega) ?_)
    | ((first | with_reducible intro b | refine Exists.intro _ (Exists.intro _ (Exists.intro _ (And.intro (rd_M (by assumption)) ?_))) | refine xsA rfl ?_ | refine And.intro (PHeap.le_refl _) (And.intro (mem_of_sub ?_) ?_); focus ((repeat' first | exact List.Sublist.refl _ | exact List.nil_sublist _ | exact List.sublist_append_left _ _ | refine List.Sublist.cons_cons _ ?_ | refine List.Sublist.append_left ?_ _ | refine List.sublist_append_of_sublist_right ?_ | refine List.Sublist.cons _ ?_); done) | fail); try (refine nz ?_; try with_reducible exact ⟨⟩))
    | fail
  refine ⟨_, rdS_M hr2, ok1_ops _, Or.inl ⟨some (b, 0, []), 0, rfl, [], ⟨rfl, rfl, Nat.le_refl _, by simp [maxLen]⟩, _, List.Perm.refl _, by simp only [maxLen]; omega, by omega, fun o1 ho1 _ => ?_⟩⟩
  simp only [Nat.zero_add, List.nil_append, List.cons_append, List.append_assoc] at ho1 ⊢
  repeat' first
    | (refine wQ_nil (by first | with_reducible assumption | rfl) ?_; try (refine nz ?_; try with_reducible exact ⟨⟩))
    | refine wA_q (by first | with_reducible assumption | rfl) (fun lq tq hlq htq => ?_)
    | (refine wA_s (by first | with_reducible assumption | rfl) (fun tq htq => ?_) (fun tq htq => ?_) <;> try (refine nz ?_; try with_reducible exact ⟨⟩))
    | (refine wA_sT (by first | with_reducible assumption | rfl) (fun tq htq => ?_) (fun tq htq => ?_) <;> try (refine nz ?_; try with_reducible exact ⟨⟩))
    | exact wA_no (by first | with_reducible assumption | rfl)
    | ((first | with_reducible intro b | refine And.intro (PHeap.le_refl _) (And.intro (mem_of_sub ?_) ?_); focus ((repeat' first | exact List.Sublist.refl _ | exact List.nil_sublist _ | exact List.sublist_append_left _ _ | refine List.Sublist.cons_cons _ ?_ | refine List.Sublist.append_left ?_ _ | refine List.sublist_append_of_sublist_right ?_ | refine List.Sublist.cons _ ?_); done) | fail); try (refine nz ?_; try with_reducible exact ⟨⟩))
    | fail
  refine ⟨[osv o1 ts[i].length], Or.inr ⟨_, 0, rfl, rd_at (T := 70) (cs := [osv o1 ts[i].length]) (by simp) rfl (by simp)⟩, by simp [ok1_cons, ok1_nil, Value.oneCell'], Or.inl ⟨oq, _, rfl, _, hoq, _, PullL.p, by simp only [maxLen]; omega, by omega, fun o2 ho2 _ => ?_⟩⟩
  simp only [List.cons_append, List.append_assoc]
  repeat' first
    | ((first | refine wQ_op (by first | with_reducible assumption | rfl) (fun lq hlq => ?_) | refine wQ_nil (by first | with_reducible assumption | rfl) ?_ | fail); try (refine nz ?_; try with_reducible exact ⟨⟩))
    | refine wA_q (by first | with_reducible assumption | rfl) (fun lq tq hlq htq => ?_)
    | (refine wA_sT (by first | with_reducible assumption | rfl) (fun tq htq => ?_) (fun tq htq => ?_) <;> try (refine nz ?_; try with_reducible exact ⟨⟩))
    | exact wA_no (by first | with_reducible assumption | rfl)
    | refine wA_fin (by first | with_reducible assumption | rfl) ?_
    | (refine xw ?_; try (refine nz ?_; try with_reducible exact ⟨⟩))
    | fail
  have hl1 : thV (l ++ [(o1, ts[i])]) = thV l ++ [osv o1 ts[i].length] := by rw [thV, List.map_append]; rfl
  have ih3 := ih (i + 1, o2, l ++ [(o1, ts[i])]) ⟨by dsimp only; omega, by dsimp only; rw [hl1]; exact ho2, by simp [hlen], fun x hx => ?_, by dsimp only; rw [List.map_append, hts, List.take_succ_eq_append_getElem hi']; rfl⟩ (by dsimp only; omega)
  ·dsimp only at ih3
   rw [hl1, thG_app, thG_one] at ih3
   repeat' first
     | refine EV.inBlock ?_
     | (refine EV.reg ?_; (conv => (arg 2; whnf)); (refine nx ?_; try with_reducible exact ⟨⟩))
     | fail
   refine EV.toS ih3 ?_
   repeat' first
    | (refine List.forall_mem_cons.2 (And.intro ?_ ?_))
    | (intro _ hnil; cases hnil; done)
    | rfl
    | (refine env_w64 rfl (by first | rfl | (push_cast; first | rfl | omega)) (by omega) (by omega); done)
    | fail
  ·rcases List.mem_append.1 hx with hx | hx
   ·exact hok x hx
   ·rw [List.mem_singleton] at hx
    subst hx; exact ho1
 ·have hie : i = ts.length := by omega
  subst hie
  refine EV.permG ?_ (show List.Perm _ ((osg 70 oq (thV l) ++ thG l) ++ [(b3, Cl 24 [osv oq ts.length]), (b2, Cl 24 [osv oq ts.length]), (b1, Cl 24 [.slice a ts.length c])]) from by simpa using @List.perm_append_comm _ [(b3, Cl 24 [osv oq ts.length]), (b2, Cl 24 [osv oq ts.length]), (b1, Cl 24 [.slice a ts.length c])] (osg 70 oq (thV l) ++ thG l))
  refine EV.ret Q62_ok ?_
  simp only [wpS, wpA, wpQL, push_cast, Int.cast_ofNat_Int, reduceIte, Nat.reduceEqDiff, reduceCtorEq, Nat.reduceAdd, Nat.reduceSub, Nat.reduceMul, Int.reduceToNat, Nat.reduceLeDiff, Q62]
  refine ⟨[osv oq ts.length], rd_at (T := 24) (cs := [osv oq ts.length]) (by simp) rfl (by simp), oq, l, by rw [hlen], by rw [hlen]; exact hoq, hok, by rw [hts, List.take_length], _, rfl⟩

end
end Go.EV

namespace Go.EV
open Go.Proofs

variable {P : Program} {f : FuncId} {args : Array Value}

/-- What is in the world at the start, to be read. -/
def heapOf (w : World) : PHeap := fun b o => w.heap[b]? = some o

theorem St_kept {w w' : World} {M0 M : PHeap} {G : Own} (h : EV.St w [] M0 M G w') : w.keptBut w' (fun _ => False) := by
 refine ⟨h.os, h.output, fun i hi => ?_⟩
 have e := h.frame i hi (by simp)
 rw [e]
 cases w.heap[i]? with
 | none => rfl
 | some o => cases o <;> simp

/-- A contract, read at one world. -/
theorem Con.at {w : World} {Φ : Value → PHeap → Own → Prop} (h : Con P f args (heapOf w) [] Φ) : Calls P f args w fun e w' => ∃ v, e = .returned v ∧ (∃ M' G', Φ v M' G') ∧ w.keptBut w' (fun _ => False) ∧ w.heap.size ≤ w'.heap.size := by
 intro cs
 obtain ⟨e, w', fr, ⟨v, he, M', G', h1, h2⟩, r⟩ := h.2 w (St.enter (G := []) (fun b o hb => hb) (by simp) (by simp) (by simp)) cs
 exact ⟨e, w', fr, ⟨v, he, ⟨M', G', h2⟩, St_kept h1, h1.size⟩, r⟩

theorem post_of_kept {H : Type} {enc : TypeId × Value → H} {f : Func} {s : ChangeSpec} {apart fresh handsOn : Bool} {W W' : World} {args : Array Value} {v : Value} {ds gs : List (DataW H)} {before pa pv : List MemPlace}
  (hW : DataW.Whole enc P f.params.toList s.vars apart W args.toList ds gs before)
  (hres : ∀ (b : Nat) (sp : Nat → Bool) (hd : Bool), DataW.TrodAll enc P W' b sp hd f.resultTypes.toList (v.resultList f.resultTypes.size) (s.fn H (ds ++ gs)).results [])
  (hargs : ∀ sp : Nat → Bool, (∀ p ∈ before, sp p.block = true) → DataW.TrodAll enc P W' 0 sp true f.params.toList args.toList (s.fn H (ds ++ gs)).args pa)
  (hvars : ∀ sp : Nat → Bool, (∀ p ∈ before, sp p.block = true) → DataW.TrodVars enc P W' sp s.vars (s.fn H (ds ++ gs)).vars pv)
  (hps : before = pa ++ pv) (hk : W.keptBut W' (fun _ => False)) :
  s.post enc P f apart fresh handsOn false W args v W' := by
 have hold : ∀ p ∈ before, (fun b => decide (b < W.heap.size)) p.block = true := fun p hp => by simpa using hW.lt p hp
 exact ⟨ds, gs, before, [], pa, pv, hW, hres _ _ _, hargs _ hold, hvars _ hold, World.keptBut_mono (fun p hp => hp.elim) hk, fun h => by cases h⟩

end Go.EV

namespace Go.EV
open Go.Proofs
section
variable {H : Type} {enc : TypeId × Value → H} {P : Program} {W : World} {base : Nat} {sp : Nat → Bool} {held : Bool}

theorem mapM_some {α β : Type} {f : α → Option β} : ∀ {l : List α} {r : List β}, l.mapM f = some r → r.length = l.length ∧ ∀ i (h : i < l.length), ∃ y, f l[i] = some y ∧ r[i]? = some y
 | [], r, h => by simp at h; subst h; simp
 | x :: l, r, h => by
  simp only [List.mapM_cons, Option.bind_eq_bind, Option.pure_def, Option.bind_eq_some_iff] at h
  obtain ⟨y, hy, r', hr', e⟩ := h
  cases e
  obtain ⟨h1, h2⟩ := mapM_some hr'
  refine ⟨by simp [h1], fun i hi => ?_⟩
  cases i with
  | zero => exact ⟨y, hy, rfl⟩
  | succ i => exact h2 i (by simpa using hi)

theorem cells_rd {a : Addr} {n : Nat} {cs : List Value} (h : W.cells? base a n = some cs) (hn : 0 < n) : ∃ b off, a = ⟨b, off, none⟩ ∧ rd (heapOf W) b off n cs := by
 unfold World.cells? at h
 split at h
 ·obtain ⟨h1, h2⟩ := mapM_some h
  rw [List.length_range] at h1
  obtain ⟨ab, ao, sa⟩ := a
  have hspot : sa = none := by
   obtain ⟨y, hy, _⟩ := h2 0 (by simpa using hn)
   simp only [List.getElem_range, World.cell?, Addr.add] at hy
   cases sa with
   | none => rfl
   | some s => exfalso; revert hy; simp; split <;> simp
  subst hspot
  refine ⟨ab, ao, rfl, ?_⟩
  have hcell : ∀ i, i < n → ∃ y, W.cell? ⟨ab, ao + i, none⟩ = some y ∧ cs[i]? = some y := fun i hi => by
   obtain ⟨y, hy, e⟩ := h2 i (by simpa using hi)
   rw [List.getElem_range, addr_add] at hy
   exact ⟨y, hy, e⟩
  cases hb : W.heap[ab]? with
  | none => obtain ⟨y, hy, _⟩ := hcell 0 hn; simp [World.cell?, hb] at hy
  | some ob =>
   cases ob with
   | cells c T fz =>
    have hc : ∀ i, i < n → c[ao + i]? = cs[i]? := fun i hi => by
     obtain ⟨y, hy, e⟩ := hcell i hi
     simp [World.cell?, hb] at hy
     rw [hy, e]
    have hle : ao + n ≤ c.size := by
     obtain ⟨y, hy, e⟩ := hcell (n - 1) (by omega)
     have h3 := hc (n - 1) (by omega)
     rw [e] at h3
     have := (Array.getElem?_eq_some_iff.1 h3).1
     omega
    refine ⟨c, T, fz, hb, hle, ?_⟩
    apply List.ext_getElem?
    intro i
    rw [List.getElem?_take]
    by_cases hi : i < n
    ·rw [if_pos hi, List.getElem?_drop, ← hc i hi]; simp
    ·rw [if_neg hi, List.getElem?_eq_none (by omega)]
   | _ => obtain ⟨y, hy, _⟩ := hcell 0 hn; simp [World.cell?, hb] at hy
 ·cases h

theorem rd_join {b off n k : Nat} {xs ys : List Value} (h1 : rd (heapOf W) b off n xs) (h2 : rd (heapOf W) b (off + n) k ys) : rd (heapOf W) b off (n + k) (xs ++ ys) := by
 obtain ⟨c, T, fz, e1, l1, rfl⟩ := h1
 obtain ⟨c', T', fz', e2, l2, rfl⟩ := h2
 have : (Obj.cells c T fz) = Obj.cells c' T' fz' := Option.some.inj (e1.symm.trans e2)
 cases this
 refine ⟨c, T, fz, e1, by omega, ?_⟩
 rw [← List.drop_drop, List.take_add]

theorem rd_rows {α : Type} {e' : α → List Value} {sz b off : Nat} (henc : ∀ z, (e' z).length = sz) : ∀ (zs : List α), 0 < zs.length → (∀ i (h : i < zs.length), rd (heapOf W) b (off + i * sz) sz (e' zs[i])) → rd (heapOf W) b off (zs.length * sz) (zs.flatMap e') := by
 intro zs
 induction zs generalizing off with
 | nil => intro h; exact absurd h (by simp)
 | cons z zs ih =>
  intro _ hr
  have h0 := hr 0 (by simp)
  simp only [Nat.zero_mul, Nat.add_zero, List.getElem_cons_zero] at h0
  cases hz : zs with
  | nil => simpa [hz] using h0
  | cons z' zs' =>
   have h1 := ih (off := off + sz) (by rw [hz]; simp) (fun i hi => by
    have := hr (i + 1) (by simpa using hi)
    rw [Nat.succ_mul] at this
    rw [show off + sz + i * sz = off + (i * sz + sz) by omega]
    simpa using this)
   have := rd_join h0 h1
   rw [hz] at this
   simpa [Nat.succ_mul, Nat.add_comm, Nat.add_left_comm] using this

theorem weightsAll_mem {e : TypeId} {ds : List (DataW H)} (h : (DataW.weightsAll P e ds).all (· ≤ reachBytes) = true) : ∀ d ∈ ds, (d.weights P e).all (· ≤ reachBytes) = true := by
 induction ds with
 | nil => intro d hd; cases hd
 | cons d ds ih =>
  rw [DataW.weightsAll, List.all_append, Bool.and_eq_true] at h
  intro d' hd
  rcases List.mem_cons.1 hd with rfl | hd
  ·exact h.1
  ·exact ih h.2 d' hd

/-- A slice that comes in. -/
theorem slice_in {α : Type} {e' : α → List Value} {Q : α → Prop} {t e : TypeId} {sz m : Nat} {v : Value} {x : DataW H × List MemPlace} (ht : P.underlying t = some (.slice e)) (hc : P.cellsOf e = sz) (hpos : 0 < sz) (hby : 0 < P.bytesOf e) (henc : ∀ z, (e' z).length = sz)
  (h : DataW.trod enc P W base sp held m t [v] = some x) (hw : (x.1.weights P t).all (· ≤ reachBytes) = true)
  (hel : ∀ m cs y, DataW.trod enc P W base sp held m e cs = some y → (y.1.weights P e).all (· ≤ reachBytes) = true → ∃ z, cs = e' z ∧ Q z) :
  ∃ (zs : List α) (a : Option Addr) (c : Nat), v = .slice a zs.length c ∧ rdS (heapOf W) sz a zs.length (zs.flatMap e') ∧ zs.length ≤ reachBytes ∧ ∀ z ∈ zs, Q z := by
 cases m with
 | zero => simp [DataW.trod] at h
 | succ m =>
  unfold DataW.trod at h
  rw [ht] at h
  split at h <;> (try (cases h; done)) <;> (try (rename_i hu _ _; cases hu; done)) <;> (try (rename_i hu _; cases hu; done)) <;> (try (rename_i hu; cases hu; done))
  ·rename_i hv
   simp only [List.cons.injEq, and_true] at hv
   exact ⟨[], none, 0, hv, .inl ⟨by simp, rfl⟩, Nat.zero_le _, fun z hz => by cases hz⟩
  ·rename_i e0 a len cap hu hv
   cases hu
   simp only [List.cons.injEq, and_true] at hv
   subst hv
   split at h
   ·rename_i hcond
    simp only [Option.bind_eq_some_iff] at h
    obtain ⟨elems, he, h⟩ := h
    obtain ⟨rest, _, h⟩ := Option.map_eq_some_iff.1 h
    subst h
    obtain ⟨hel1, he2⟩ := mapM_some he
    rw [List.length_range] at hel1
    rw [hc] at he2
    dsimp only at hw
    unfold DataW.weights at hw
    rw [ht] at hw
    dsimp only at hw
    rw [List.all_cons, Bool.and_eq_true, List.all_append, Bool.and_eq_true] at hw
    obtain ⟨hw1, hw2, _⟩ := hw
    have hlb : len ≤ reachBytes := by
     have h1 : (elems.length + rest.length) * P.bytesOf e ≤ reachBytes := by simpa using hw1
     have h2 : elems.length * 1 ≤ (elems.length + rest.length) * P.bytesOf e := Nat.mul_le_mul (by omega) hby
     omega
    have hz : ∀ i : Fin len, ∃ z, W.cells? base (a.add (i.1 * sz)) sz = some (e' z) ∧ Q z := fun i => by
     obtain ⟨y, hy, hy2⟩ := he2 i.1 (by simp)
     rw [List.getElem_range] at hy
     simp only [Option.bind_eq_some_iff] at hy
     obtain ⟨cs, hcs, hy⟩ := hy
     have hym : y ∈ elems := List.mem_of_getElem? hy2
     obtain ⟨z, rfl, hq⟩ := hel _ _ _ hy (weightsAll_mem hw2 y.1 (List.mem_map.2 ⟨y, hym, rfl⟩))
     exact ⟨z, hcs, hq⟩
    obtain ⟨zs, hzs⟩ : ∃ zs, zs = List.ofFn fun i : Fin len => Classical.choose (hz i) := ⟨_, rfl⟩
    have hlen : zs.length = len := by rw [hzs]; simp
    have hall : ∀ i (h : i < zs.length), W.cells? base (a.add (i * sz)) sz = some (e' zs[i]) ∧ Q zs[i] := fun i hi => by
     subst hzs
     simp only [List.getElem_ofFn]
     exact Classical.choose_spec (hz ⟨i, by simpa using hi⟩)
    refine ⟨zs, some a, cap, by rw [hlen], ?_, by omega, fun z hz' => ?_⟩
    ·by_cases h0 : zs.length = 0
     ·refine .inl ⟨by rw [h0]; simp, ?_⟩
      rw [List.length_eq_zero_iff.1 h0]; rfl
     ·obtain ⟨b, off, hab, _⟩ := cells_rd (hall 0 (by omega)).1 hpos
      rw [Nat.zero_mul] at hab
      have hab2 : a = ⟨b, off, none⟩ := by rw [← hab]; simp [Addr.add]
      refine .inr ⟨b, off, by rw [hab2], rd_rows henc zs (by omega) fun i hi => ?_⟩
      obtain ⟨b', off', hab', hr⟩ := cells_rd (hall i hi).1 hpos
      rw [hab2, addr_add] at hab'
      cases hab'
      exact hr
    ·obtain ⟨i, hi, rfl⟩ := List.mem_iff_getElem.1 hz'
     exact (hall i hi).2
   ·cases h

theorem int_in {t : TypeId} {m : Nat} {cs : List Value} {x : DataW H × List MemPlace} (ht : P.underlying t = some (.int .i64)) (h : DataW.trod enc P W base sp held m t cs = some x) : ∃ n, cs = [vi n] := by
 cases m with
 | zero => simp [DataW.trod] at h
 | succ m =>
  unfold DataW.trod at h
  rw [ht] at h
  split at h <;> (try (cases h; done)) <;> (try (rename_i hu _ _; cases hu; done)) <;> (try (rename_i hu _; cases hu; done)) <;> (try (rename_i hu; cases hu; done))
  rename_i k1 k2 n1 hu
  cases hu
  split at h
  ·rename_i hk
   obtain ⟨rfl, _⟩ := hk
   exact ⟨n1, rfl⟩
  ·cases h

theorem sameAt_kept {W' : World} (hf : ∀ b, b < W.heap.size → W'.heap[b]? = W.heap[b]?) {p : MemPlace} (hp : p.block < W.heap.size) : W.sameAt W' p := by
 cases p with
 | cell b off => simp only [World.sameAt, World.cell?, hf b hp]
 | map b => exact hf b hp

theorem trodAll_kept {W' : World} (K : Kids P (· < P.types.size)) (hsz : ∀ {t e : TypeId}, t < P.types.size → P.underlying t = some (.slice e) → 0 < P.cellsOf e) (hf : ∀ b, b < W.heap.size → W'.heap[b]? = W.heap[b]?) {sp' : Nat → Bool} :
  ∀ {ts : List TypeId} {vs : List Value} {ds : List (DataW H)} {ps : List MemPlace}, (∀ t ∈ ts, t < P.types.size) → DataW.TrodAll enc P W 0 (fun _ => true) true ts vs ds ps → (∀ p ∈ ps, p.block < W.heap.size) → (∀ p ∈ ps, sp' p.block = true) → DataW.TrodAll enc P W' 0 sp' true ts vs ds ps
 | [], [], [], ps, _, h, _, _ => h
 | t :: ts, v :: vs, d :: ds, ps, hts, h, hb, hs => by
  obtain ⟨p, q, ⟨m, h1⟩, h2, rfl⟩ := h
  refine ⟨p, q, ⟨m, DataW.trod_stays K hsz (fun h => by cases h) (hts t (by simp)) h1 (fun r hr => sameAt_kept hf (hb r (by simp [hr]))) (fun r hr => hs r (by simp [hr]))⟩, ?_, rfl⟩
  exact trodAll_kept K hsz hf (fun t ht => hts t (by simp [ht])) h2 (fun r hr => hb r (by simp [hr])) (fun r hr => hs r (by simp [hr]))

theorem Con.at2 {f : FuncId} {args : Array Value} {Φ : Value → PHeap → Own → Prop} (h : Con P f args (heapOf W) [] Φ) : Calls P f args W fun e W' => ∃ v, e = .returned v ∧ (∃ M' G', Φ v M' G') ∧ W.keptBut W' (fun _ => False) ∧ ∀ b, b < W.heap.size → W'.heap[b]? = W.heap[b]? := by
 intro cs
 obtain ⟨e, w', fr, ⟨v, he, M', G', h1, h2⟩, r⟩ := h.2 W (St.enter (G := []) (fun b o hb => hb) (by simp) (by simp) (by simp)) cs
 exact ⟨e, w', fr, ⟨v, he, ⟨M', G', h2⟩, St_kept h1, fun b hb => h1.frame b hb (by simp)⟩, r⟩

end
end Go.EV

namespace Go.EV
open Go.Proofs Go.ChangeShapes
theorem flatMap_one {α β : Type} (f : α → β) : ∀ zs : List α, zs.flatMap (fun z => [f z]) = zs.map f
 | [] => rfl
 | z :: zs => by rw [List.flatMap_cons, flatMap_one f zs]; rfl

section
variable {H : Type} {enc : TypeId × Value → H} {W : World} {sp : Nat → Bool} {held : Bool}

theorem cells_int : (Tryz.prog).cellsOf 3 = 1 := by kernel_rfl
theorem cells_op : (Tryz.prog).cellsOf 83 = 5 := by kernel_rfl
theorem cells_ops : (Tryz.prog).cellsOf 70 = 1 := by kernel_rfl
theorem cells_thr : (Tryz.prog).cellsOf 22 = 1 := by kernel_rfl
theorem cells_lit : (Tryz.prog).cellsOf 24 = 1 := by kernel_rfl
theorem bytes_op : 0 < (Tryz.prog).bytesOf 83 := of_decide_eq_true (by kernel_rfl)
theorem bytes_ops : 0 < (Tryz.prog).bytesOf 70 := of_decide_eq_true (by kernel_rfl)
theorem bytes_int : 0 < (Tryz.prog).bytesOf 3 := of_decide_eq_true (by kernel_rfl)

set_option maxRecDepth 100000 in
theorem op_in {m : Nat} {cs : List Value} {y : DataW H × List MemPlace} (h : DataW.trod enc Tryz.prog W 0 sp held m 83 cs = some y) : ∃ o : OpV, cs = encOp o ∧ True := by
 obtain ⟨xs, n, _, _, hl, hxl, hf⟩ := DataW.trod_struct Tryz.underlying83 h
 rw [cells_op] at hl
 have hxl5 : xs.length = 5 := hxl
 have key : ∀ i : Nat, ∀ f : Field, i < 5 → (show Array Field from _)[i]? = some f → f.type = 3 → ∃ k, ((cs.drop f.offset).take 1) = [vi k] := fun i f hi e ht => by
  have h1 := hf i f e
  rw [ht, cells_int] at h1
  obtain ⟨y, hy⟩ : ∃ y, xs[i]? = some y := ⟨xs[i], List.getElem?_eq_getElem (by omega)⟩
  rw [hy] at h1
  exact int_in Tryz.underlying3 h1
 obtain ⟨k0, e0⟩ := key 0 _ (by decide) rfl rfl
 obtain ⟨k1, e1⟩ := key 1 _ (by decide) rfl rfl
 obtain ⟨k2, e2⟩ := key 2 _ (by decide) rfl rfl
 obtain ⟨k3, e3⟩ := key 3 _ (by decide) rfl rfl
 obtain ⟨k4, e4⟩ := key 4 _ (by decide) rfl rfl
 match cs, hl with
 | [c0, c1, c2, c3, c4], _ =>
  refine ⟨⟨k0, k1, k2, k3, k4⟩, ?_, trivial⟩
  simp at e0 e1 e2 e3 e4
  simp [e0, e1, e2, e3, e4]

set_option maxRecDepth 100000 in
theorem ops_in {m : Nat} {cs : List Value} {y : DataW H × List MemPlace} (hl : cs.length = 1) (h : DataW.trod enc Tryz.prog W 0 sp held m 70 cs = some y) (hw : (y.1.weights Tryz.prog 70).all (· ≤ reachBytes) = true) :
  ∃ z : Value × List OpV, cs = [z.1] ∧ Sl (heapOf W) 5 encOp z.1 z.2 ∧ z.2.length ≤ reachBytes := by
 match cs, hl with
 | [v], _ =>
  obtain ⟨zs, a, c, rfl, h1, h2, _⟩ := slice_in (e' := encOp) (Q := fun _ => True) Tryz.underlying70 cells_op (by decide) bytes_op (fun _ => rfl) h hw (fun m cs y hy _ => op_in hy)
  exact ⟨(_, zs), rfl, ⟨a, c, rfl, h1⟩, h2⟩

set_option maxRecDepth 100000 in
theorem trod_slice_len {t e : TypeId} {m : Nat} {cs : List Value} {y : DataW H × List MemPlace} (ht : (Tryz.prog).underlying t = some (.slice e)) (h : DataW.trod enc Tryz.prog W 0 sp held m t cs = some y) : cs.length = 1 := by
 cases m with
 | zero => simp [DataW.trod] at h
 | succ m =>
  unfold DataW.trod at h
  rw [ht] at h
  split at h <;> (try (cases h; done)) <;> (try (rename_i hu _ _; cases hu; done)) <;> (try (rename_i hu _; cases hu; done)) <;> (try (rename_i hu; cases hu; done)) <;> rfl

set_option maxRecDepth 100000 in
theorem litmus_in {m : Nat} {cs : List Value} {y : DataW H × List MemPlace} (h : DataW.trod enc Tryz.prog W 0 sp held m 24 cs = some y) (hw : (y.1.weights Tryz.prog 24).all (· ≤ reachBytes) = true) :
  ∃ s ts, cs = [s] ∧ SlSl (heapOf W) 5 encOp s ts ∧ ts.length ≤ reachBytes ∧ ∀ t ∈ ts, t.length ≤ reachBytes := by
 obtain ⟨y0, n, rfl, hl, h0⟩ := ChangeShapes.trod_struct1 Tryz.underlying24 h
 rw [cells_lit] at hl
 match cs, hl with
 | [s], _ =>
  unfold DataW.weights at hw
  rw [Tryz.underlying24] at hw
  simp only [List.map_cons, List.map_nil, DataW.weightsEach, List.append_nil] at hw
  have h1 : DataW.trod enc Tryz.prog W 0 sp held n 22 [s] = some y0 := by
   have := h0
   rw [show (Tryz.prog).cellsOf (Field.type _) = 1 from cells_thr] at this
   exact this
  obtain ⟨zs, a, c, rfl, h2, h3, h4⟩ := slice_in (e' := fun z : Value × List OpV => [z.1]) (Q := fun z => Sl (heapOf W) 5 encOp z.1 z.2 ∧ z.2.length ≤ reachBytes) Tryz.underlying22 cells_ops (by decide) bytes_ops (fun _ => rfl) h1 hw (fun m cs y hy hyw => ops_in (trod_slice_len Tryz.underlying70 hy) hy hyw)
  refine ⟨_, zs.map (·.2), rfl, ⟨a, c, zs.map (·.1), by simp, by simp, ?_, ?_⟩, by simpa using h3, ?_⟩
  ·have e : zs.flatMap (fun z : Value × List OpV => [z.1]) = zs.map (·.1) := flatMap_one _ zs
   rw [e] at h2
   rw [List.length_map]
   exact h2
  ·intro i hi hi'
   simp only [List.getElem_map]
   exact (h4 _ (List.getElem_mem _)).1
  ·intro t ht
   obtain ⟨z, hz, rfl⟩ := List.mem_map.1 ht
   exact (h4 z hz).2

/-- A list of numbers that comes in. -/
theorem ints_in {m : Nat} {v : Value} {x : DataW H × List MemPlace} (h : DataW.trod enc Tryz.prog W 0 sp held m 34 [v] = some x) (hw : (x.1.weights Tryz.prog 34).all (· ≤ reachBytes) = true) :
  ∃ zs : List Int, Sl (heapOf W) 1 ei v zs ∧ zs.length ≤ reachBytes := by
 obtain ⟨zs, a, c, rfl, h1, h2, _⟩ := slice_in (e' := ei) (Q := fun _ => True) Tryz.underlying34 cells_int (by decide) bytes_int (fun _ => rfl) h hw (fun m cs y hy _ => by obtain ⟨n, rfl⟩ := int_in Tryz.underlying3 hy; exact ⟨n, rfl, trivial⟩)
 exact ⟨zs, ⟨a, c, rfl, h1⟩, h2⟩

end

set_option maxRecDepth 100000 in
theorem kids : Kids Tryz.prog (· < (Tryz.prog).types.size) := kids_rows (by kernel_rfl) (by kernel_rfl)

set_option maxRecDepth 100000 in
theorem rows_pos : ((List.range (Tryz.prog).types.size).all fun t => match (Tryz.prog).underlying t with | some (.slice e) => decide (0 < (Tryz.prog).cellsOf e) | _ => true) = true := by kernel_rfl

theorem rows_pos' {t e : TypeId} (ht : t < (Tryz.prog).types.size) (h : (Tryz.prog).underlying t = some (.slice e)) : 0 < (Tryz.prog).cellsOf e := by
 have := List.all_eq_true.1 rows_pos t (List.mem_range.2 ht)
 rw [h] at this
 simpa using this

end Go.EV
