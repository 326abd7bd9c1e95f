/- The plain law of executions: an execution of a program seen in another one. The plain law of executions: each is told once. The plain law: locations renamed. The plain law: the threads in the opposite order. The threads in the opposite order. With the threads in the opposite order the outcomes are the same: the statement. -/
import Derived.Test.YtmgnpoleilcjoaaVPaf
set_option maxRecDepth 8000
set_option linter.unusedSimpArgs false
set_option linter.unusedVariables false
set_option linter.unusedSectionVars false
namespace Go.EV
open Go.Proofs

/-! ### One ahead of another in a list -/
theorem bef_of_idx {α : Type} : ∀ (l : List α) (i j : Nat) (hij : i < j) (hj : j < l.length), List.Sublist [l[i]'(by omega), l[j]] l
  | x :: l, 0, j + 1, _, hj => by
    simp only [List.getElem_cons_zero, List.getElem_cons_succ]
    exact List.Sublist.cons_cons _ (List.singleton_sublist.2 (List.getElem_mem _))
  | x :: l, i + 1, j + 1, hij, hj => by
    simp only [List.getElem_cons_succ]
    exact List.Sublist.cons _ (bef_of_idx l i j (by omega) (by simpa using hj))
theorem idx_of_bef {α : Type} {a b : α} : ∀ {l : List α}, List.Sublist [a, b] l → ∃ (i j : Nat) (hij : i < j) (hj : j < l.length), l[i]'(by omega) = a ∧ l[j] = b
  | [], h => by cases h
  | x :: l, h => by
    cases h with
    | cons _ h =>
      obtain ⟨i, j, hij, hj, h1, h2⟩ := idx_of_bef h
      exact ⟨i + 1, j + 1, by omega, by simpa using hj, by simpa using h1, by simpa using h2⟩
    | cons_cons _ h =>
      have hb : b ∈ l := List.singleton_sublist.1 h
      obtain ⟨j, hj, rfl⟩ := List.getElem_of_mem hb
      exact ⟨0, j + 1, by omega, by simpa using hj, by simp, by simp⟩

theorem fo_of_bef {p : List Ev} {e : Exec} {a b : Nat} (hpos : ∀ x ∈ e.fen, 0 ≤ x) (h : List.Sublist [(a : Int), (b : Int)] e.fen) : TG (Fo1 e.fen) a b := by
  obtain ⟨i, j, hij, hj, h1, h2⟩ := idx_of_bef h
  have key : ∀ (d j a b : Nat), j + d + 1 < e.fen.length → numAt e.fen j = a → numAt e.fen (j + d + 1) = b → TG (Fo1 e.fen) a b := by
    intro d
    induction d with
    | zero => intro j a b h ha hb; exact .one ⟨j, h, ha, hb⟩
    | succ d ih =>
      intro j a b h ha hb
      have h1 : 0 ≤ numAt e.fen (j + d + 1) := hpos _ (mem_numAt.2 ⟨j + d + 1, by omega, rfl⟩)
      obtain ⟨c, hc⟩ : ∃ c : Nat, numAt e.fen (j + d + 1) = c := ⟨(numAt e.fen (j + d + 1)).toNat, by omega⟩
      exact (ih j a c (by omega) ha hc).trans (.one ⟨j + d + 1, by omega, hc, by rw [← hb]; congr 1⟩)
  refine key (j - i - 1) i a b (by omega) (by rw [numAt_eq (by omega)]; exact h1) (by rw [show i + (j - i - 1) + 1 = j by omega, numAt_eq hj]; exact h2)

theorem perm_of_mem {l m : List Int} (hl : l.Nodup) (hm : m.Nodup) (h : ∀ x, x ∈ l ↔ x ∈ m) : l.Perm m := (List.perm_ext_iff_of_nodup hl hm).2 h

/-! ### A program seen in another one -/
/-- ι: the events of p among those of q; j: back again. -/
structure Emb (p q : List Ev) (ι j : Nat → Nat) (σ : Int → Int) : Prop where
  lt : ∀ a, a < p.length → ι a < q.length
  inv : ∀ a, a < p.length → j (ι a) = a
  back : ∀ b, b < q.length → (evAt q b).op.kind ≠ 5 → j b < p.length ∧ ι (j b) = b
  sb : ∀ a b, a < b → b < p.length → (evAt p a).th = (evAt p b).th → ι a < ι b ∧ (evAt q (ι a)).th = (evAt q (ι b)).th
  kind : ∀ a, a < p.length → (evAt q (ι a)).op.kind = (evAt p a).op.kind
  v : ∀ a, a < p.length → (evAt q (ι a)).op.v = (evAt p a).op.v
  w : ∀ a, a < p.length → (evAt q (ι a)).op.w = (evAt p a).op.w
  loc : ∀ a, a < p.length → (evAt p a).op.kind ≠ 5 → (evAt q (ι a)).op.loc = σ (evAt p a).op.loc
  rel : ∀ a, a < p.length → (evAt p a).rel = true → (evAt q (ι a)).rel = true
  acq : ∀ a, a < p.length → (evAt p a).acq = true → (evAt q (ι a)).acq = true
  strong : ∀ a, a < p.length → (evAt p a).strong = true → (evAt q (ι a)).strong = true
  σ3 : ∀ k, 0 ≤ k → k < 3 → 0 ≤ σ k ∧ σ k < 3
  σi : ∀ k k', 0 ≤ k → k < 3 → 0 ≤ k' → k' < 3 → σ k = σ k' → k = k'

def bk (j : Nat → Nat) (x : Int) : Int := if 0 ≤ x then ((j x.toNat : Nat) : Int) else x
theorem bk_nat (j : Nat → Nat) (b : Nat) : bk j b = (j b : Nat) := by simp [bk]
theorem bk_neg (j : Nat → Nat) {x : Int} (h : x < 0) : bk j x = x := by rw [bk, if_neg (by omega)]

/-- An execution of q, seen in p. -/
def pullE (p : List Ev) (ι j : Nat → Nat) (σ : Int → Int) (e : Exec) : Exec where
  frm := (List.range p.length).map fun i => bk j (frmAt e (ι i))
  dn := (List.range p.length).map fun i => dnAt e.dn (ι i)
  ord := [0, 1, 2].map fun k : Int => (e.ord[(σ k).toNat]?.getD []).map fun x => ((j x.toNat : Nat) : Int)
  fen := (e.fen.filter fun x => decide (ι (j x.toNat) = x.toNat) && decide (j x.toNat < p.length) && (evAt p (j x.toNat)).strong).map fun x => ((j x.toNat : Nat) : Int)

theorem strong_kind {e : Ev} (h : e.strong = true) : e.op.kind = 5 := by
  simp only [Ev.strong, Bool.and_eq_true, decide_eq_true_eq] at h; exact h.1
theorem mem_fencesI {p : List Ev} {x : Int} : x ∈ fencesI p ↔ ∃ i : Nat, x = i ∧ i < p.length ∧ (evAt p i).strong = true := by
  rw [fencesI, mem_pickI]
  constructor
  · rintro ⟨i, h1, h2, h3⟩; exact ⟨i, h3, h1, h2⟩
  · rintro ⟨i, h3, h1, h2⟩; exact ⟨i, h1, h2, h3⟩

section
variable {p q : List Ev} {ι j : Nat → Nat} {σ : Int → Int} {e : Exec}

theorem pull_frm {i : Nat} (hi : i < p.length) : frmAt (pullE p ι j σ e) i = bk j (frmAt e (ι i)) := by
  simp [frmAt, pullE, hi]
theorem pull_dn {i : Nat} (hi : i < p.length) : dnAt (pullE p ι j σ e).dn i = dnAt e.dn (ι i) := by
  simp [dnAt, pullE, hi]
theorem pull_ord {k : Nat} (hk : k < 3) : (pullE p ι j σ e).ord[k]?.getD [] = (e.ord[(σ k).toNat]?.getD []).map fun x => ((j x.toNat : Nat) : Int) := by
  have : k = 0 ∨ k = 1 ∨ k = 2 := by omega
  rcases this with rfl | rfl | rfl <;> rfl
theorem numAt_map {f : Int → Int} {l : List Int} {i : Nat} (hi : i < l.length) : numAt (l.map f) i = f (numAt l i) := by
  simp [numAt, hi]

section
variable (H : Emb p q ι j σ) (hp : POk p) (hq : POk q) (hmq : Mono q) (hs : Shape q e)
include H hs

theorem pull_src {i : Nat} (hi : i < p.length) : ((evAt p i).reads = false → frmAt e (ι i) = -2) ∧ ((evAt p i).reads = true → frmAt e (ι i) = -1 ∨ ∃ w : Nat, w < p.length ∧ frmAt e (ι i) = (ι w : Nat) ∧ j (ι w) = w ∧ dnAt e.dn (ι w) = true ∧ (evAt q (ι w)).op.loc = (evAt q (ι i)).op.loc ∧ 1 ≤ (evAt p w).op.kind ∧ (evAt p w).op.kind ≤ 4) := by
  have hr : (evAt q (ι i)).reads = (evAt p i).reads := by simp only [Ev.reads, H.kind i hi]
  constructor
  · intro h; exact hs.out _ (H.lt i hi) (hr.trans h)
  · intro h
    rcases hs.src _ (H.lt i hi) (hr.trans h) with h1 | ⟨b, h1, h2, h3, h4⟩
    · exact .inl h1
    · have hk := hs.dn0 b h2 h3
      obtain ⟨q1, q2⟩ := H.back b h2 (by omega)
      refine .inr ⟨j b, q1, ?_, ?_, ?_, ?_, ?_⟩
      · rw [q2]; exact h1
      · rw [q2]
      · rw [q2]; exact h3
      · rw [q2]; exact h4
      · have := H.kind _ q1
        rw [q2] at this; omega

/-- Reading, seen below. -/
theorem pull_rf {a i : Nat} (hi : i < p.length) (h : frmAt (pullE p ι j σ e) i = (a : Nat)) : frmAt e (ι i) = (ι a : Nat) ∧ a < p.length ∧ (evAt p i).reads = true := by
  rw [pull_frm hi] at h
  obtain ⟨h1, h2⟩ := pull_src H hs hi
  cases hr : (evAt p i).reads with
  | false => rw [h1 hr, bk_neg _ (by decide)] at h; omega
  | true =>
    rcases h2 hr with h3 | ⟨w, h3, h4, h5, _⟩
    · rw [h3, bk_neg _ (by decide)] at h; omega
    · rw [h4, bk_nat, h5] at h
      have : w = a := by omega
      subst this
      exact ⟨h4, h3, rfl⟩

theorem pull_ordm {k : Nat} (hk : k < 3) : ∀ x ∈ e.ord[(σ k).toNat]?.getD [], ∃ a : Nat, a < p.length ∧ x = (ι a : Nat) ∧ j (ι a) = a ∧ dnAt e.dn (ι a) = true ∧ (evAt p a).op.kind ≠ 5 ∧ (evAt q (ι a)).op.loc = σ k := by
  intro x hx
  obtain ⟨s1, s2⟩ := H.σ3 k (by omega) (by omega)
  have := (hs.ord (σ k).toNat (by omega)).mem_iff.1 hx
  obtain ⟨b, h1, h2, h3, h4, h5⟩ := mem_writersI.1 this
  obtain ⟨q1, q2⟩ := H.back b h2 h3
  refine ⟨j b, q1, by rw [q2]; exact h1, by rw [q2], by rw [q2]; exact h4, ?_, by rw [q2]; omega⟩
  have := H.kind _ q1
  rw [q2] at this; omega

include hp in
theorem pull_loc {a i : Nat} (ha : a < p.length) (hi : i < p.length) (k1 : (evAt p a).op.kind ≠ 5) (k2 : (evAt p i).op.kind ≠ 5) (h : (evAt q (ι a)).op.loc = (evAt q (ι i)).op.loc) : (evAt p a).op.loc = (evAt p i).op.loc := by
  rw [H.loc a ha k1, H.loc i hi k2] at h
  have := hp.loc a ha; have := hp.loc i hi
  exact H.σi _ _ (by omega) (by omega) (by omega) (by omega) h

include hp in
theorem pull_shape : Shape p (pullE p ι j σ e) := by
  have hkr : ∀ {i : Nat}, (evAt p i).reads = true → (evAt p i).op.kind ≠ 5 := fun h => by
    simp only [Ev.reads, Bool.and_eq_true, decide_eq_true_eq] at h; exact h.2
  refine ⟨by simp [pullE], by simp [pullE], rfl, fun i hi hk => ?_, fun i hi hd => ?_, fun i hi hr => ?_, fun i hi hr => ?_, fun k hk => ?_, ?_⟩
  · rw [pull_dn hi]
    exact hs.dn1 _ (H.lt i hi) (by rw [H.kind i hi]; exact hk)
  · rw [pull_dn hi] at hd
    have := hs.dn0 _ (H.lt i hi) hd
    rw [H.kind i hi] at this; exact this
  · rw [pull_frm hi, (pull_src H hs hi).1 hr, bk_neg _ (by decide)]
  · rw [pull_frm hi]
    rcases (pull_src H hs hi).2 hr with h | ⟨w, h1, h2, h3, h4, h5, h6, h7⟩
    · left; rw [h, bk_neg _ (by decide)]
    · right
      refine ⟨w, by rw [h2, bk_nat, h3], h1, by rw [pull_dn h1]; exact h4, pull_loc H hp hs h1 hi (by omega) (hkr hr) h5⟩
  · rw [pull_ord hk]
    have hm := pull_ordm H hs hk
    obtain ⟨s1, s2⟩ := H.σ3 k (by omega) (by omega)
    have hnd : (e.ord[(σ k).toNat]?.getD []).Nodup := ((hs.ord (σ k).toNat (by omega)).nodup_iff).2 (asc_nodup (writers_asc _ _ _))
    refine perm_of_mem ?_ (asc_nodup (writers_asc _ _ _)) fun x => ?_
    · rw [List.nodup_iff_pairwise_ne, List.pairwise_map]
      refine List.Pairwise.imp_of_mem ?_ (List.nodup_iff_pairwise_ne.1 hnd)
      intro x y hx hy hne he
      obtain ⟨a, _, rfl, ha, _⟩ := hm x hx
      obtain ⟨b, _, rfl, hb, _⟩ := hm y hy
      rw [Int.toNat_natCast, Int.toNat_natCast, ha, hb] at he
      exact hne (by rw [show a = b by omega])
    · rw [List.mem_map, mem_writersI]
      constructor
      · rintro ⟨y, hy, rfl⟩
        obtain ⟨a, h1, rfl, h3, h4, h5, h6⟩ := hm y hy
        rw [Int.toNat_natCast, h3]
        refine ⟨a, rfl, h1, h5, by rw [pull_dn h1]; exact h4, ?_⟩
        rw [H.loc a h1 h5] at h6
        have := hp.loc a h1
        exact H.σi _ _ (by omega) (by omega) (by omega) (by omega) h6
      · rintro ⟨a, rfl, h1, h2, h3, h4⟩
        rw [pull_dn h1] at h3
        refine ⟨(ι a : Nat), ?_, by rw [Int.toNat_natCast, H.inv a h1]⟩
        refine (hs.ord (σ k).toNat (by omega)).mem_iff.2 (mem_writersI.2 ⟨ι a, rfl, H.lt a h1, by rw [H.kind a h1]; exact h2, h3, ?_⟩)
        rw [H.loc a h1 h2, h4]; omega
  · have hnd : e.fen.Nodup := (hs.fen.nodup_iff).2 (asc_nodup (fences_asc _))
    have hmem : ∀ x ∈ e.fen, ∃ b : Nat, x = b ∧ b < q.length ∧ (evAt q b).strong = true := fun x hx => mem_fencesI.1 (hs.fen.mem_iff.1 hx)
    refine perm_of_mem ?_ (asc_nodup (fences_asc _)) fun x => ?_
    · show (List.map _ _).Nodup
      rw [List.nodup_iff_pairwise_ne, List.pairwise_map]
      refine List.Pairwise.imp_of_mem ?_ (List.nodup_iff_pairwise_ne.1 (hnd.filter _))
      intro x y hx hy hne he
      obtain ⟨hx1, hx2⟩ := List.mem_filter.1 hx
      obtain ⟨hy1, hy2⟩ := List.mem_filter.1 hy
      obtain ⟨a, rfl, _⟩ := hmem x hx1
      obtain ⟨b, rfl, _⟩ := hmem y hy1
      simp only [Int.toNat_natCast, Bool.and_eq_true, decide_eq_true_eq] at hx2 hy2 he
      have : j a = j b := by omega
      exact hne (by rw [← hx2.1.1, ← hy2.1.1, this])
    · show x ∈ List.map _ _ ↔ _
      rw [List.mem_map, mem_fencesI]
      constructor
      · rintro ⟨y, hy, rfl⟩
        obtain ⟨_, hy2⟩ := List.mem_filter.1 hy
        simp only [Bool.and_eq_true, decide_eq_true_eq] at hy2
        exact ⟨_, rfl, hy2.1.2, hy2.2⟩
      · rintro ⟨a, rfl, h1, h2⟩
        refine ⟨(ι a : Nat), List.mem_filter.2 ⟨hs.fen.mem_iff.2 (mem_fencesI.2 ⟨ι a, rfl, H.lt a h1, H.strong a h1 h2⟩), ?_⟩, by rw [Int.toNat_natCast, H.inv a h1]⟩
        simp only [Int.toNat_natCast, H.inv a h1, Bool.and_eq_true, decide_eq_true_eq]
        exact ⟨⟨trivial, h1⟩, h2⟩

omit hs in
/-- Chains of program order, seen above. -/
theorem pull_sb (hmq : Mono q) {a b : Nat} (h : Sb1 p a b) : TG (Sb1 q) (ι a) (ι b) := by
  obtain ⟨rfl, h1, h2⟩ := h
  obtain ⟨h3, h4⟩ := H.sb a (a + 1) (by omega) h1 h2.symm
  have key : ∀ (d a : Nat), a + d + 1 < q.length → (evAt q a).th = (evAt q (a + d + 1)).th → TG (Sb1 q) a (a + d + 1) := by
    intro d
    induction d with
    | zero => intro a h ht; exact .one ⟨rfl, h, ht.symm⟩
    | succ d ih =>
      intro a h ht
      have h1 := hmq.between (a := a) (b := a + (d + 1) + 1) (x := a + d + 1) h (by omega) (by omega) ht
      exact (ih a (by omega) (by rw [h1]; exact ht)).trans (.one ⟨by omega, h, h1.symm⟩)
  have := key (ι (a + 1) - ι a - 1) (ι a) (by have := H.lt (a + 1) h1; omega) (by rw [show ι a + (ι (a + 1) - ι a - 1) + 1 = ι (a + 1) by omega]; exact h4)
  rwa [show ι a + (ι (a + 1) - ι a - 1) + 1 = ι (a + 1) by omega] at this

theorem pull_fo {a b : Nat} (h : Fo1 (pullE p ι j σ e).fen a b) : TG (Fo1 e.fen) (ι a) (ι b) := by
  obtain ⟨i, hi, h1, h2⟩ := h
  have hmem : ∀ x ∈ e.fen, 0 ≤ x := fun x hx => by
    obtain ⟨b, rfl, _⟩ := mem_fencesI.1 (hs.fen.mem_iff.1 hx); omega
  have hb := bef_of_idx (pullE p ι j σ e).fen i (i + 1) (by omega) hi
  rw [← numAt_eq (by omega), ← numAt_eq hi, h1, h2] at hb
  have hb2 : List.Sublist [(a : Int), (b : Int)] (List.map (fun x : Int => ((j x.toNat : Nat) : Int)) (e.fen.filter fun x => decide (ι (j x.toNat) = x.toNat) && decide (j x.toNat < p.length) && (evAt p (j x.toNat)).strong)) := hb
  obtain ⟨l', h3, h4⟩ := List.sublist_map_iff.1 hb2
  have hl : ∃ x y, l' = [x, y] := by
    rcases l' with _ | ⟨x, _ | ⟨y, _ | ⟨z, l⟩⟩⟩
    · simp at h4
    · simp at h4
    · exact ⟨x, y, rfl⟩
    · simp at h4
  obtain ⟨x, y, rfl⟩ := hl
  simp only [List.map_cons, List.map_nil, List.cons.injEq, and_true] at h4
  have hx := List.mem_filter.1 (h3.subset (List.mem_cons_self ..))
  have hy := List.mem_filter.1 (h3.subset (List.mem_cons_of_mem _ (List.mem_cons_self ..)))
  simp only [Bool.and_eq_true, decide_eq_true_eq] at hx hy
  have ex : x = (ι a : Nat) := by
    have := hmem x hx.1
    have e1 : j x.toNat = a := by omega
    have := hx.2.1.1
    rw [e1] at this; omega
  have ey : y = (ι b : Nat) := by
    have := hmem y hy.1
    have e1 : j y.toNat = b := by omega
    have := hy.2.1.1
    rw [e1] at this; omega
  rw [ex, ey] at h3
  exact fo_of_bef (p := p) hmem (h3.trans List.filter_sublist)

theorem pull_rf1 {a b : Nat} (h : Rf (pullE p ι j σ e) p.length a b) : Rf e q.length (ι a) (ι b) := ⟨H.lt b h.1, (pull_rf H hs h.1 h.2).1⟩

theorem pull_rfOk (hac : RfOk q e) : RfOk p (pullE p ι j σ e) := fun a ha => hac _ (TG.map ι ha fun _ _ h => pull_rf1 H hs h)

theorem pull_back {w v : Nat} (h : Back p (pullE p ι j σ e) w v) (hw : w < p.length) : Back q e (ι w) (ι v) ∧ v < p.length := by
  induction h with
  | here => exact ⟨.here, hw⟩
  | @on w v u h _ ih =>
    obtain ⟨h1, h2⟩ := h
    obtain ⟨h3, h4, h5⟩ := pull_rf H hs hw h2
    obtain ⟨k1, k2⟩ := ih h4
    refine ⟨.on ⟨?_, h3⟩ k1, k2⟩
    unfold exchP at h1 ⊢
    simp only [Bool.and_eq_true] at h1 ⊢
    refine ⟨by simp only [Ev.reads, H.kind w hw]; exact h5, ?_⟩
    have := pull_dn (p := p) (ι := ι) (j := j) (σ := σ) (e := e) hw
    unfold dnAt at this
    rw [← this]; exact h1.2

omit hs in
theorem pull_rel {v c : Nat} (hv : v < p.length) (h : Rel1 p v c) : Rel1 q (ι v) (ι c) := by
  obtain ⟨h1, h2⟩ := h
  rcases h2 with rfl | ⟨h2, h3, h4⟩
  · exact ⟨H.rel c hv h1, .inl rfl⟩
  · obtain ⟨k1, k2⟩ := H.sb c v h2 hv h3
    exact ⟨H.rel c (by omega) h1, .inr ⟨k1, k2, by rw [H.kind c (by omega)]; exact h4⟩⟩
omit hs in
theorem pull_acq {r c : Nat} (hr : r < p.length) (h : Acq1 p r c) : Acq1 q (ι r) (ι c) := by
  obtain ⟨h1, h2⟩ := h
  rcases h2 with rfl | ⟨h2, h3, h4, h5⟩
  · exact ⟨H.acq c hr h1, .inl rfl⟩
  · obtain ⟨k1, k2⟩ := H.sb r c h2 h3 h4.symm
    exact ⟨H.acq c h3 h1, .inr ⟨k1, H.lt c h3, k2.symm, by rw [H.kind c h3]; exact h5⟩⟩

theorem pull_sw {a b : Nat} (h : Sw p (pullE p ι j σ e) a b) : Sw q e (ι a) (ι b) := by
  obtain ⟨r, w, v, h1, h2, h3, h4, h5, h6⟩ := h
  obtain ⟨k1, k2, k3⟩ := pull_rf H hs h1 h3
  obtain ⟨k4, k5⟩ := pull_back H hs h4 k2
  exact ⟨ι r, ι w, ι v, H.lt r h1, by simp only [Ev.reads, H.kind r h1]; exact h2, k1, k4, pull_rel H k5 h5, pull_acq H h1 h6⟩

include hmq in
theorem pull_hb {a b : Nat} (h : Hb p (pullE p ι j σ e) a b) : Hb q e (ι a) (ι b) := by
  have key : ∀ a b, (Sb1 p a b ∨ Fo1 (pullE p ι j σ e).fen a b ∨ Sw p (pullE p ι j σ e) a b) → Hb q e (ι a) (ι b) := by
    rintro a b (h | h | h)
    · exact (pull_sb H hmq h).mono fun _ _ k => .inl k
    · exact (pull_fo H hs h).mono fun _ _ k => .inr (.inl k)
    · exact .one (.inr (.inr (pull_sw H hs h)))
  unfold Hb at h
  induction h with
  | one h => exact key _ _ h
  | more h _ ih => exact (key _ _ h).trans ih

theorem pull_at {k : Nat} (hk : k < 3) {i a : Nat} (hi : i < (e.ord[(σ k).toNat]?.getD []).length) (h : numAt ((e.ord[(σ k).toNat]?.getD []).map fun x => ((j x.toNat : Nat) : Int)) i = (a : Nat)) : numAt (e.ord[(σ k).toNat]?.getD []) i = (ι a : Nat) ∧ a < p.length := by
  rw [numAt_map hi] at h
  obtain ⟨b, h1, h2, h3, _⟩ := pull_ordm H hs hk _ (mem_numAt.2 ⟨i, hi, rfl⟩)
  rw [h2, Int.toNat_natCast, h3] at h
  have : b = a := by omega
  subst this
  exact ⟨h2, h1⟩

theorem pull_mem {k : Nat} (hk : k < 3) : e.ord[(σ k).toNat]?.getD [] ∈ e.ord := by
  obtain ⟨s1, s2⟩ := H.σ3 k (by omega) (by omega)
  have : (σ k).toNat < e.ord.length := by rw [hs.ol]; omega
  rw [List.getElem?_eq_getElem this, Option.getD_some]
  exact List.getElem_mem _

omit H hs in
theorem pull_ordmem {l : List Int} (hl : l ∈ (pullE p ι j σ e).ord) : ∃ k : Nat, k < 3 ∧ l = (e.ord[(σ k).toNat]?.getD []).map fun x => ((j x.toNat : Nat) : Int) := by
  obtain ⟨k, hk, rfl⟩ := List.getElem_of_mem hl
  have hk3 : k < 3 := hk
  refine ⟨k, hk3, ?_⟩
  rw [← pull_ord (p := p) hk3, List.getElem?_eq_getElem hk, Option.getD_some]

include hp in
theorem pull_com {a b : Nat} (h : Com1 p (pullE p ι j σ e) a b) : Com1 q e (ι a) (ι b) := by
  rcases h with ⟨l, hl, x, y, h1, h2, h3, h4⟩ | ⟨h1, h2⟩ | ⟨h1, h2, h3, y, h4, h5, h6⟩
  · obtain ⟨k, hk, rfl⟩ := pull_ordmem hl
    rw [List.length_map] at h2
    exact .inl ⟨_, pull_mem H hs hk, x, y, h1, h2, (pull_at H hs hk (by omega) h3).1, (pull_at H hs hk h2 h4).1⟩
  · exact .inr (.inl ⟨by simp only [Ev.reads, H.kind b h2.1]; exact h1, pull_rf1 H hs h2⟩)
  · have hk5 : (evAt p a).op.kind ≠ 5 := by
      simp only [Ev.reads, Bool.and_eq_true, decide_eq_true_eq] at h2; exact h2.2
    have hl := hp.loc a h1
    have hk : (evAt p a).op.loc.toNat < 3 := by omega
    have e1 : ordAt p (pullE p ι j σ e) a = (e.ord[(σ (evAt p a).op.loc.toNat).toNat]?.getD []).map fun x => ((j x.toNat : Nat) : Int) := pull_ord hk
    have e2 : ordAt q e (ι a) = e.ord[(σ (evAt p a).op.loc.toNat).toNat]?.getD [] := by
      unfold ordAt
      rw [H.loc a h1 hk5, show (((evAt p a).op.loc.toNat : Nat) : Int) = (evAt p a).op.loc by omega]
    rw [e1, List.length_map] at h4
    rw [e1] at h5 h6
    obtain ⟨g1, g2⟩ := pull_at H hs hk h4 h5
    refine .inr (.inr ⟨H.lt a h1, by simp only [Ev.reads, H.kind a h1]; exact h2, ?_, y, by rw [e2]; exact h4, by rw [e2]; exact g1, ?_⟩)
    · intro e
      exact h3 (by rw [← H.inv b g2, ← H.inv a h1, e])
    · rw [e2]
      rw [pull_frm h1] at h6
      rcases (pull_src H hs h1).2 h2 with h7 | ⟨w, w1, w2, w3, _⟩
      · exact .inl h7
      · rw [w2, bk_nat, w3] at h6
        rcases h6 with h6 | ⟨x, x1, x2⟩
        · omega
        · exact .inr ⟨x, x1, by rw [w2]; exact (pull_at H hs hk (by omega) x2).1⟩

include hp hmq in
theorem pull_cons (hc : Cons q e) : Cons p (pullE p ι j σ e) := by
  refine ⟨fun ⟨a, ha⟩ => hc.round ⟨ι a, ?_⟩, fun h => hc.cross ?_, fun l hl i hi hr => ?_⟩
  · have key : ∀ a b, (Sb1 p a b ∨ Fo1 (pullE p ι j σ e).fen a b ∨ Rf (pullE p ι j σ e) p.length a b) → TG (fun a b => Sb1 q a b ∨ Fo1 e.fen a b ∨ Rf e q.length a b) (ι a) (ι b) := by
      rintro a b (h | h | h)
      · exact (pull_sb H hmq h).mono fun _ _ k => .inl k
      · exact (pull_fo H hs h).mono fun _ _ k => .inr (.inl k)
      · exact .one (.inr (.inr (pull_rf1 H hs h)))
    have : ∀ {a b}, TG (fun a b => Sb1 p a b ∨ Fo1 (pullE p ι j σ e).fen a b ∨ Rf (pullE p ι j σ e) p.length a b) a b → TG (fun a b => Sb1 q a b ∨ Fo1 e.fen a b ∨ Rf e q.length a b) (ι a) (ι b) := by
      intro a b h
      induction h with
      | one h => exact key _ _ h
      | more h _ ih => exact (key _ _ h).trans ih
    exact this ha
  · rcases h with ⟨a, ha⟩ | ⟨a, b, h1, h2⟩
    · exact .inl ⟨ι a, pull_hb H hmq hs ha⟩
    · exact .inr ⟨ι a, ι b, pull_hb H hmq hs h1, TG.map ι h2 fun _ _ h => pull_com H hp hs h⟩
  · obtain ⟨k, hk, rfl⟩ := pull_ordmem hl
    rw [List.length_map] at hi
    have hm := pull_ordm H hs hk
    obtain ⟨b, h1, h2, h3, h4, _⟩ := hm _ (mem_numAt.2 ⟨i, hi, rfl⟩)
    have e1 : numAt ((e.ord[(σ k).toNat]?.getD []).map fun x => ((j x.toNat : Nat) : Int)) i = (b : Nat) := by rw [numAt_map hi, h2, Int.toNat_natCast, h3]
    rw [e1, Int.toNat_natCast] at hr ⊢
    have hn := hc.next _ (pull_mem H hs hk) i hi
    rw [h2, Int.toNat_natCast] at hn
    have hn2 := hn (by simp only [Ev.reads, H.kind b h1]; exact hr)
    rw [pull_frm h1, hn2]
    cases i with
    | zero => rfl
    | succ i =>
      have hi2 : i < (e.ord[(σ k).toNat]?.getD []).length := by omega
      show bk j (numAt _ i) = numAt _ i
      rw [numAt_map hi2]
      obtain ⟨c, _, c2, c3, _⟩ := hm _ (mem_numAt.2 ⟨i, hi2, rfl⟩)
      rw [c2, bk_nat, Int.toNat_natCast]

include hp in
theorem pull_words (hac : RfOk q e) : ∀ i, i < p.length → (wordsP p (pullE p ι j σ e).frm).R i = (wordsP q e.frm).R (ι i) ∧ (1 ≤ (evAt p i).op.kind → (evAt p i).op.kind ≤ 4 → (wordsP p (pullE p ι j σ e).frm).W i = (wordsP q e.frm).W (ι i)) := by
  have hs' := pull_shape H hp hs
  have hac' := pull_rfOk H hs hac
  have hw := hs.words hac
  have hr : ∀ i, i < p.length → (evAt q (ι i)).reads = (evAt p i).reads := fun i hi => by simp only [Ev.reads, H.kind i hi]
  refine Words.uniq hs'.fromOk hs'.srcOk hac' (fun i hi => ((hs'.xok (.inr trivial)).fr i hi).1) (hs'.words hac') ?_
  refine ⟨fun i hi h => hw.out _ (H.lt i hi) ((hr i hi).trans h), fun i hi h h0 => ?_, fun i w hi h h0 => ?_, fun i hi hk => ?_, fun i hi hk => ?_, fun i hi hk => ?_⟩
  · refine hw.init _ (H.lt i hi) ((hr i hi).trans h) ?_
    have h1 : bk j (frmAt e (ι i)) = -1 := by rw [← pull_frm (p := p) (σ := σ) hi]; exact h0
    rcases (pull_src H hs hi).2 h with h2 | ⟨w, _, h2, _⟩
    · exact h2
    · rw [h2, bk_nat] at h1; omega
  · exact hw.from_ _ _ (H.lt i hi) ((hr i hi).trans h) (pull_rf H hs hi h0).1
  · rw [hw.store _ (H.lt i hi) (by rw [H.kind i hi]; exact hk), H.v i hi]
  · rw [hw.add _ (H.lt i hi) (by rw [H.kind i hi]; exact hk), H.v i hi]
  · rw [hw.cas _ (H.lt i hi) (by rw [H.kind i hi]; exact hk), H.w i hi]

include hp hq hmq in
theorem pull_exec (hmp : Mono p) (he : e ∈ execsP q) : pullE p ι j σ e ∈ execsP p := by
  obtain ⟨_, hw, hc⟩ := (exec_iff hq hmq).1 he
  have hac := Round.rfOk hc.round
  refine (exec_iff hp hmp).2 ⟨pull_shape H hp hs, fun i hi => ?_, pull_cons H hp hmq hs hc⟩
  have h1 := hw _ (H.lt i hi)
  rw [H.kind i hi, H.v i hi, ← (pull_words H hp hs hac i hi).1, ← pull_dn (p := p) (j := j) (σ := σ) hi] at h1
  exact h1

omit H hs in
theorem outReads_eq (p : List Ev) (w : Wd) : ∀ n, outReads p w n = ((List.range n).filter fun i => (evAt p i).reads).map w.R
  | 0 => rfl
  | n + 1 => by
    rw [outReads, outReads_eq p w n, List.range_succ, List.filter_append, List.map_append]
    congr 1
    cases h : (evAt p n).reads <;> simp [h, Wd.R]

include hp in
theorem pull_outcome (hac : RfOk q e) : outcomeP p (pullE p ι j σ e) = (((List.range p.length).filter fun i => (evAt p i).reads).map fun i => (wordsP q e.frm).R (ι i)) ++ [lastOf (wordsP q e.frm) (e.ord[(σ 0).toNat]?.getD []), lastOf (wordsP q e.frm) (e.ord[(σ 1).toNat]?.getD []), lastOf (wordsP q e.frm) (e.ord[(σ 2).toNat]?.getD [])] := by
  have hwd := pull_words H hp hs hac
  unfold outcomeP
  congr 1
  · rw [outReads_eq]
    refine List.map_congr_left fun i hi => ?_
    obtain ⟨h1, _⟩ := List.mem_filter.1 hi
    exact (hwd i (by simpa using h1)).1
  · have key : ∀ k : Nat, k < 3 → lastOf (wordsP p (pullE p ι j σ e).frm) ((e.ord[(σ k).toNat]?.getD []).map fun x => ((j x.toNat : Nat) : Int)) = lastOf (wordsP q e.frm) (e.ord[(σ k).toNat]?.getD []) := by
      intro k hk
      unfold lastOf
      rw [List.length_map]
      split
      · rfl
      · rename_i hne
        have hi : (e.ord[(σ k).toNat]?.getD []).length - 1 < (e.ord[(σ k).toNat]?.getD []).length := by omega
        obtain ⟨a, h1, h2, h3, h4, h5, _⟩ := pull_ordm H hs hk _ (mem_numAt.2 ⟨_, hi, rfl⟩)
        have hkd := hs.dn0 _ (H.lt a h1) h4
        rw [H.kind a h1] at hkd
        rw [numAt_map hi, h2, Int.toNat_natCast, Int.toNat_natCast, h3]
        exact (hwd a h1).2 hkd.1 hkd.2
    show [_, _, _] = _
    simp only [List.cons.injEq, and_true]
    exact ⟨key 0 (by omega), key 1 (by omega), key 2 (by omega)⟩
end
end
end Go.EV

namespace Go.EV
open Go.Proofs

theorem nodup_flat {α β : Type} {f : α → List β} : ∀ {l : List α}, l.Nodup → (∀ x ∈ l, (f x).Nodup) → (∀ x ∈ l, ∀ y ∈ l, x ≠ y → ∀ z, z ∈ f x → z ∉ f y) → (l.flatMap f).Nodup
  | [], _, _, _ => List.nodup_nil
  | x :: l, h1, h2, h3 => by
    obtain ⟨a, b⟩ := List.nodup_cons.1 h1
    rw [List.flatMap_cons, List.nodup_append]
    refine ⟨h2 x (List.mem_cons_self ..), nodup_flat b (fun y hy => h2 y (List.mem_cons_of_mem _ hy)) (fun y hy z hz => h3 y (List.mem_cons_of_mem _ hy) z (List.mem_cons_of_mem _ hz)), ?_⟩
    intro u hu v hv e
    subst e
    obtain ⟨y, hy, hv⟩ := List.mem_flatMap.1 hv
    exact h3 x (List.mem_cons_self ..) y (List.mem_cons_of_mem _ hy) (fun e => a (e ▸ hy)) u hu hv
theorem nodup_mapI {α β : Type} {f : α → β} {l : List α} (h : l.Nodup) (hi : ∀ x ∈ l, ∀ y ∈ l, f x = f y → x = y) : (l.map f).Nodup := by
  rw [List.nodup_iff_pairwise_ne, List.pairwise_map]
  exact List.Pairwise.imp_of_mem (fun {a b} ha hb hne he => hne (hi a ha b hb he)) (List.nodup_iff_pairwise_ne.1 h)
theorem nodup_rangeN (n : Nat) : (List.range n).Nodup := List.nodup_range

theorem donesP_nodup (p : List Ev) : (donesP p).Nodup := by
  refine nodup_mapI (nodup_rangeN _) fun a ha b hb he => ?_
  rw [List.mem_range] at ha hb
  refine Nat.eq_of_testBit_eq fun j => ?_
  by_cases hj : j < (freeP p).length
  · have hin : numAt (freeP p) j ∈ freeP p := mem_numAt.2 ⟨j, hj, rfl⟩
    obtain ⟨w, hw1, _, hw2⟩ := mem_pickI.1 hin
    have h1 := (doneK_get p a w hw1 _ (Nat.le_refl _)).1 j hj hw2
    have h2 := (doneK_get p b w hw1 _ (Nat.le_refl _)).1 j hj hw2
    unfold doneOf at he
    rw [← h1, ← h2, he]
  · rw [Nat.testBit_lt_two_pow (Nat.lt_of_lt_of_le ha (Nat.pow_le_pow_right (by decide) (by omega))), Nat.testBit_lt_two_pow (Nat.lt_of_lt_of_le hb (Nat.pow_le_pow_right (by decide) (by omega)))]

theorem mergesN_nodup {p : List Ev} : ∀ (n : Nat) (l : List Int), l.length = n → l.Pairwise (· < ·) → (mergesN p n l).Nodup
  | 0, _, _, _ => by simp [mergesN]
  | n + 1, l, hl, ha => by
    refine nodup_flat (nodup_rangeN _) (fun i hi => ?_) (fun i hi j hj hne z hz hz2 => ?_)
    · rw [List.mem_range] at hi
      split
      · exact List.nodup_nil
      · refine nodup_mapI (mergesN_nodup n _ (by rw [List.length_eraseIdx_of_lt (by omega)]; omega) (ha.sublist (List.eraseIdx_sublist ..))) fun x _ y _ e => ?_
        simpa using e
    · rw [List.mem_range] at hi hj
      have key : ∀ i, z ∈ (if blockedAt p l i = true then [] else (mergesN p n (l.eraseIdx i)).map (numAt l i :: ·)) → z.head? = some (numAt l i) := by
        intro i h
        split at h
        · exact absurd h List.not_mem_nil
        · obtain ⟨m, _, rfl⟩ := List.mem_map.1 h; rfl
      have h1 := key i hz
      have h2 := key j hz2
      rw [h1] at h2
      exact hne (asc_num ha (by omega) (by omega) (Option.some.inj h2))
theorem mergesP_nodup {p : List Ev} {l : List Int} (h : l.Pairwise (· < ·)) : (mergesP p l).Nodup := mergesN_nodup _ l rfl h

theorem ordersN_nodup {p : List Ev} {dn : List Bool} : ∀ (k : Nat) (loc : Int), (ordersN p dn k loc).Nodup
  | 0, _ => by simp [ordersN]
  | k + 1, loc => by
    refine nodup_flat (mergesP_nodup (writers_asc _ _ _)) (fun x _ => nodup_mapI (ordersN_nodup k (loc + 1)) fun a _ b _ e => by simpa using e) (fun x _ y _ hne z hz hz2 => ?_)
    obtain ⟨a, _, rfl⟩ := List.mem_map.1 hz
    obtain ⟨b, _, e⟩ := List.mem_map.1 hz2
    simp only [List.cons.injEq] at e
    exact hne e.1.symm

theorem fromsN_nodup {p : List Ev} {dn : List Bool} {ord : List (List Int)} (hc : ∀ i, (choicesP p dn ord i).Nodup) : ∀ (k i : Nat), (fromsN p dn ord k i).Nodup
  | 0, _ => by simp [fromsN]
  | k + 1, i => by
    refine nodup_flat (hc i) (fun x _ => nodup_mapI (fromsN_nodup hc k (i + 1)) fun a _ b _ e => by simpa using e) (fun x _ y _ hne z hz hz2 => ?_)
    obtain ⟨a, _, rfl⟩ := List.mem_map.1 hz
    obtain ⟨b, _, e⟩ := List.mem_map.1 hz2
    simp only [List.cons.injEq] at e
    exact hne e.1.symm

theorem choices_nodup {p : List Ev} {dn : List Bool} {ord : List (List Int)} (ho : ord ∈ ordersP p dn) (i : Nat) : (choicesP p dn ord i).Nodup := by
  unfold choicesP
  split
  · simp
  · split
    · simp
    · unfold srcL
      rcases hq : ord[(evAt p i).op.loc.toNat]? with _ | l
      · simp
      · rw [Option.getD_some]
        obtain ⟨hk, rfl⟩ := List.getElem?_eq_some_iff.1 hq
        obtain ⟨h1, h2⟩ := (mem_ordersN 3 0 ord).1 ho
        have hm := h2 (evAt p i).op.loc.toNat (by omega)
        rw [hq, Option.getD_some] at hm
        have hp := mergesP_perm hm
        refine List.nodup_cons.2 ⟨fun h => ?_, (hp.nodup_iff).2 (asc_nodup (writers_asc _ _ _))⟩
        obtain ⟨w, hw, _⟩ := mem_writersI.1 (hp.mem_iff.1 h)
        omega

theorem execsP_nodup (p : List Ev) : (execsP p).Nodup := by
  have hF : ∀ dn ord frm z, z ∈ execsF p dn ord frm → z.dn = dn ∧ z.ord = ord ∧ z.frm = frm := by
    intro dn ord frm z h
    unfold execsF at h
    split at h
    · obtain ⟨h, _⟩ := List.mem_filter.1 h
      obtain ⟨f, _, rfl⟩ := List.mem_map.1 h
      exact ⟨rfl, rfl, rfl⟩
    · exact absurd h List.not_mem_nil
  have hO : ∀ dn ord z, z ∈ execsO p dn ord → z.dn = dn ∧ z.ord = ord := by
    intro dn ord z h
    obtain ⟨f, _, h⟩ := List.mem_flatMap.1 h
    have := hF _ _ _ _ h; exact ⟨this.1, this.2.1⟩
  have hD : ∀ dn z, z ∈ execsD p dn → z.dn = dn := by
    intro dn z h
    obtain ⟨o, _, h⟩ := List.mem_flatMap.1 h
    exact (hO _ _ _ h).1
  refine nodup_flat (donesP_nodup p) (fun dn _ => ?_) (fun x _ y _ hne z h1 h2 => hne ((hD _ _ h1).symm.trans (hD _ _ h2)))
  refine nodup_flat (ordersN_nodup 3 0) (fun ord ho => ?_) (fun x _ y _ hne z h1 h2 => hne ((hO _ _ _ h1).2.symm.trans (hO _ _ _ h2).2))
  refine nodup_flat (fromsN_nodup (choices_nodup ho) _ _) (fun frm _ => ?_) (fun x _ y _ hne z h1 h2 => hne ((hF _ _ _ _ h1).2.2.symm.trans (hF _ _ _ _ h2).2.2))
  unfold execsF
  split
  · refine List.Nodup.sublist List.filter_sublist (nodup_mapI (mergesP_nodup (fences_asc p)) fun a _ b _ e => ?_)
    simpa using e
  · exact List.nodup_nil

/-- As many executions, where each of one is told by one of the other. -/
theorem len_inj {α : Type} {l m : List α} (hl : l.Nodup) (f : α → α) (hf : ∀ x ∈ l, f x ∈ m) (hi : ∀ x ∈ l, ∀ y ∈ l, f x = f y → x = y) : l.length ≤ m.length := by
  have key : ∀ {l m : List α}, l.Nodup → (∀ x ∈ l, x ∈ m) → l.length ≤ m.length := by
    intro l
    induction l with
    | nil => intro m _ _; exact Nat.zero_le _
    | cons x l ih =>
      intro m hn h
      obtain ⟨h1, h2⟩ := List.nodup_cons.1 hn
      have hx : x ∈ m := h x (List.mem_cons_self ..)
      obtain ⟨s, t, rfl⟩ := List.append_of_mem hx
      have := ih (m := s ++ t) h2 fun y hy => by
        have := h y (List.mem_cons_of_mem _ hy)
        simp only [List.mem_append, List.mem_cons] at this ⊢
        rcases this with h | h | h
        · exact .inl h
        · subst h; exact absurd hy h1
        · exact .inr h
      simp only [List.length_append, List.length_cons] at this ⊢
      omega
  have := key (nodup_mapI hl hi) fun y hy => by
    obtain ⟨x, hx, rfl⟩ := List.mem_map.1 hy
    exact hf x hx
  rwa [List.length_map] at this

/-- An execution is told by what is seen of it, where all events are seen. -/
theorem pull_inj {p q : List Ev} {ι j : Nat → Nat} {σ : Int → Int} (H : Emb p q ι j σ) (hb : ∀ b, b < q.length → j b < p.length ∧ ι (j b) = b) (hst : ∀ b, b < q.length → (evAt q b).strong = true → (evAt p (j b)).strong = true)
    (hσ : ∀ k : Nat, k < 3 → ∃ k' : Nat, k' < 3 ∧ σ k' = k) {e e' : Exec} (h : Shape q e) (h' : Shape q e') (he : pullE p ι j σ e = pullE p ι j σ e') : e = e' := by
  have hj : ∀ a b : Nat, a < q.length → b < q.length → j a = j b → a = b := fun a b ha hb' e => by rw [← (hb a ha).2, ← (hb b hb').2, e]
  have hmapj : ∀ {l m : List Int}, (∀ x ∈ l, ∃ a : Nat, x = a ∧ a < q.length) → (∀ x ∈ m, ∃ a : Nat, x = a ∧ a < q.length) → (l.map fun x => ((j x.toNat : Nat) : Int)) = (m.map fun x => ((j x.toNat : Nat) : Int)) → l = m := by
    intro l
    induction l with
    | nil => intro m _ _ e; cases m with
      | nil => rfl
      | cons y m => simp at e
    | cons x l ih => intro m hl hm e; cases m with
      | nil => simp at e
      | cons y m =>
        simp only [List.map_cons, List.cons.injEq] at e
        obtain ⟨a, rfl, ha⟩ := hl x (List.mem_cons_self ..)
        obtain ⟨b, rfl, hb'⟩ := hm y (List.mem_cons_self ..)
        have := hj a b ha hb' (by have := e.1; simp only [Int.toNat_natCast] at this; omega)
        subst this
        rw [ih (fun x hx => hl x (List.mem_cons_of_mem _ hx)) (fun x hx => hm x (List.mem_cons_of_mem _ hx)) e.2]
  have hfr : ∀ {e : Exec}, Shape q e → ∀ b, b < q.length → frmAt e b = -2 ∨ frmAt e b = -1 ∨ ∃ w : Nat, frmAt e b = w ∧ w < q.length := by
    intro e h b hb'
    cases hr : (evAt q b).reads with
    | false => exact .inl (h.out b hb' hr)
    | true =>
      rcases h.src b hb' hr with h1 | ⟨w, h1, h2, _⟩
      · exact .inr (.inl h1)
      · exact .inr (.inr ⟨w, h1, h2⟩)
  have e1 : e.frm = e'.frm := by
    refine List.ext_getElem (h.fl.trans h'.fl.symm) fun b h1 h2 => ?_
    have hbq : b < q.length := by rw [← h.fl]; exact h1
    obtain ⟨k1, k2⟩ := hb b hbq
    have := congrArg (fun x : Exec => frmAt x (j b)) he
    rw [pull_frm k1, pull_frm k1, k2] at this
    have f1 : frmAt e b = e.frm[b] := by simp [frmAt, h1]
    have f2 : frmAt e' b = e'.frm[b] := by simp [frmAt, h2]
    rw [← f1, ← f2]
    rcases hfr h b hbq with g | g | ⟨w, g, gl⟩ <;> rcases hfr h' b hbq with g' | g' | ⟨w', g', gl'⟩ <;> rw [g, g'] at this ⊢
    · rw [bk_neg _ (by decide), bk_neg _ (by decide)] at this; exact this
    · rw [bk_neg _ (by decide), bk_nat] at this; omega
    · rw [bk_neg _ (by decide), bk_neg _ (by decide)] at this; exact this
    · rw [bk_neg _ (by decide), bk_nat] at this; omega
    · rw [bk_nat, bk_neg _ (by decide)] at this; omega
    · rw [bk_nat, bk_neg _ (by decide)] at this; omega
    · rw [bk_nat, bk_nat] at this
      rw [hj w w' gl gl' (by omega)]
  have e2 : e.dn = e'.dn := by
    refine dnAt_ext (h.dl.trans h'.dl.symm) fun b h1 => ?_
    have hbq : b < q.length := by rw [← h.dl]; exact h1
    obtain ⟨k1, k2⟩ := hb b hbq
    have := congrArg (fun x : Exec => dnAt x.dn (j b)) he
    rwa [pull_dn k1, pull_dn k1, k2] at this
  have e3 : e.ord = e'.ord := by
    refine List.ext_getElem (h.ol.trans h'.ol.symm) fun k h1 h2 => ?_
    have hk3 : k < 3 := by rw [← h.ol]; exact h1
    obtain ⟨k', hk', hσk⟩ := hσ k hk3
    have := congrArg (fun x : Exec => x.ord[k']?.getD []) he
    rw [pull_ord hk', pull_ord hk', hσk, Int.toNat_natCast] at this
    have hin : ∀ {e : Exec}, Shape q e → ∀ x ∈ e.ord[k]?.getD [], ∃ a : Nat, x = a ∧ a < q.length := by
      intro e h x hx
      obtain ⟨w, q1, q2, _⟩ := mem_writersI.1 ((h.ord k hk3).mem_iff.1 hx)
      exact ⟨w, q1, q2⟩
    have := hmapj (hin h) (hin h') this
    rwa [List.getElem?_eq_getElem h1, List.getElem?_eq_getElem h2, Option.getD_some, Option.getD_some] at this
  have e4 : e.fen = e'.fen := by
    have hin : ∀ {e : Exec}, Shape q e → ∀ x ∈ e.fen, ∃ a : Nat, x = a ∧ a < q.length ∧ (evAt q a).strong = true := fun h x hx => mem_fencesI.1 (h.fen.mem_iff.1 hx)
    have hall : ∀ {e : Exec}, Shape q e → (e.fen.filter fun x => decide (ι (j x.toNat) = x.toNat) && decide (j x.toNat < p.length) && (evAt p (j x.toNat)).strong) = e.fen := by
      intro e h
      rw [List.filter_eq_self]
      intro x hx
      obtain ⟨a, rfl, ha, hs⟩ := hin h x hx
      obtain ⟨k1, k2⟩ := hb a ha
      simp only [Int.toNat_natCast, Bool.and_eq_true, decide_eq_true_eq]
      exact ⟨⟨k2, k1⟩, hst a ha hs⟩
    have := congrArg (fun x : Exec => x.fen) he
    simp only [pullE] at this
    rw [hall h, hall h'] at this
    exact hmapj (fun x hx => by obtain ⟨a, h1, h2, _⟩ := hin h x hx; exact ⟨a, h1, h2⟩) (fun x hx => by obtain ⟨a, h1, h2, _⟩ := hin h' x hx; exact ⟨a, h1, h2⟩) this
  obtain ⟨a, b, c, d⟩ := e
  obtain ⟨a', b', c', d'⟩ := e'
  simp only at e1 e2 e3 e4
  subst e1 e2 e3 e4
  rfl

end Go.EV

namespace Go.EV
open Go.Proofs

/-- An operation at another location. -/
def rot (k : Int) (x : Int) : Int := (x + k).tmod 3
def renO (k : Int) (o : OpV) : OpV := if o.kind ≠ 5 then { o with loc := rot k o.loc } else o
def renT (k : Int) (ts : List (List OpV)) : List (List OpV) := ts.map fun t => t.map (renO k)
def renE (k : Int) (e : Ev) : Ev := ⟨renO k e.op, e.th⟩

theorem rot_in {k x : Int} (hk : k = 1 ∨ k = 2) (h0 : 0 ≤ x) (h3 : x < 3) : 0 ≤ rot k x ∧ rot k x < 3 ∧ (rot k x = if x + k < 3 then x + k else x + k - 3) := by
  unfold rot
  have : x = 0 ∨ x = 1 ∨ x = 2 := by omega
  rcases hk with rfl | rfl <;> rcases this with rfl | rfl | rfl <;> decide

theorem evsGo_map (f : OpV → OpV) : ∀ (l : List (List OpV)) (n : Nat), evsGo n (l.map fun t => t.map f) = (evsGo n l).map fun e => ⟨f e.op, e.th⟩
  | [], _ => rfl
  | t :: l, n => by rw [List.map_cons, evsGo, evsGo, evsGo_map f l (n + 1), List.map_append, List.map_map, List.map_map]; rfl
theorem expOp_ren (k : Int) (o : OpV) : expOp (renO k o) = (expOp o).map (renO k) := by
  unfold expOp
  have ha : accessP (renO k o) = accessP o := by unfold accessP renO; split <;> rfl
  have ho : (renO k o).ord = o.ord := by unfold renO; split <;> rfl
  have hkd : (renO k o).kind = o.kind := by unfold renO; split <;> rfl
  rw [ha, ho, hkd]
  split
  · rfl
  · simp only [List.map_cons, List.map_nil, List.cons.injEq, and_true]
    refine ⟨by simp [renO], ?_, by simp [renO]⟩
    unfold renO; split <;> rfl
theorem evs_ren (k : Int) (ts : List (List OpV)) : evsOf (renT k ts) = (evsOf ts).map (renE k) := by
  unfold evsOf renT
  have : (ts.map fun t => t.map (renO k)).map expT = (ts.map expT).map fun t => t.map (renO k) := by
    rw [List.map_map, List.map_map]
    refine List.map_congr_left fun t _ => ?_
    simp only [Function.comp, expT, List.flatMap_def, List.map_map, List.map_flatten]
    congr 1
    exact List.map_congr_left fun o _ => expOp_ren k o
  rw [this, evsGo_map]; rfl

theorem ren_at (k : Int) {p : List Ev} {i : Nat} (hi : i < p.length) : evAt (p.map (renE k)) i = renE k (evAt p i) := by
  simp [evAt, hi]

theorem renO_same (k : Int) (o : OpV) : (renO k o).kind = o.kind ∧ (renO k o).v = o.v ∧ (renO k o).w = o.w ∧ (renO k o).ord = o.ord ∧ (o.kind ≠ 5 → (renO k o).loc = rot k o.loc) := by
  unfold renO; split
  · exact ⟨rfl, rfl, rfl, rfl, fun _ => rfl⟩
  · rename_i h; exact ⟨rfl, rfl, rfl, rfl, fun h2 => absurd h2 h⟩

/-- The program, seen in the one whose locations are renamed. -/
theorem ren_emb {k : Int} (hk : k = 1 ∨ k = 2) (p : List Ev) : Emb p (p.map (renE k)) id id (rot k) := by
  have hl : (p.map (renE k)).length = p.length := List.length_map _
  have hat : ∀ a, a < p.length → evAt (p.map (renE k)) a = renE k (evAt p a) := fun a ha => ren_at k ha
  refine ⟨fun a ha => by rw [hl]; exact ha, fun a ha => rfl, fun b hb _ => ⟨by rw [hl] at hb; exact hb, rfl⟩, fun a b h1 h2 h3 => ⟨h1, ?_⟩, fun a ha => ?_, fun a ha => ?_, fun a ha => ?_, fun a ha h5 => ?_, fun a ha hr => ?_, fun a ha hr => ?_, fun a ha hr => ?_, fun x h0 h3 => ?_, fun x y a b c d e => ?_⟩
  · show (evAt (p.map (renE k)) a).th = (evAt (p.map (renE k)) b).th
    rw [hat a (by omega), hat b h2]; exact h3
  · show (evAt (p.map (renE k)) a).op.kind = _
    rw [hat a ha]; exact (renO_same k _).1
  · show (evAt (p.map (renE k)) a).op.v = _
    rw [hat a ha]; exact (renO_same k _).2.1
  · show (evAt (p.map (renE k)) a).op.w = _
    rw [hat a ha]; exact (renO_same k _).2.2.1
  · show (evAt (p.map (renE k)) a).op.loc = _
    rw [hat a ha]; exact (renO_same k _).2.2.2.2 h5
  · show (evAt (p.map (renE k)) a).rel = true
    rw [hat a ha]; simp only [Ev.rel, renE, (renO_same k _).2.2.2.1] at hr ⊢; exact hr
  · show (evAt (p.map (renE k)) a).acq = true
    rw [hat a ha]; simp only [Ev.acq, renE, (renO_same k _).2.2.2.1] at hr ⊢; exact hr
  · show (evAt (p.map (renE k)) a).strong = true
    rw [hat a ha]; simp only [Ev.strong, renE, (renO_same k _).2.2.2.1, (renO_same k _).1] at hr ⊢; exact hr
  · have := rot_in hk h0 h3; exact ⟨this.1, this.2.1⟩
  · have h1 := (rot_in hk a b).2.2
    have h2 := (rot_in hk c d).2.2
    rw [h1, h2] at e
    split at e <;> split at e <;> omega

/-- There and back again. -/
theorem ren_back {k : Int} (hk : k = 1 ∨ k = 2) {o : OpV} (h0 : o.kind ≠ 5 → 0 ≤ o.loc ∧ o.loc < 3) : renO (3 - k) (renO k o) = o := by
  by_cases h5 : o.kind ≠ 5
  · obtain ⟨a, b⟩ := h0 h5
    have h1 := rot_in hk a b
    have h2 := rot_in (k := 3 - k) (by omega) h1.1 h1.2.1
    unfold renO
    rw [if_pos h5]
    have : (({ o with loc := rot k o.loc } : OpV).kind) ≠ 5 := h5
    rw [if_pos this]
    have e : rot (3 - k) (rot k o.loc) = o.loc := by
      rw [h2.2.2, h1.2.2]; split <;> split <;> omega
    show ({ o with loc := rot (3 - k) (rot k o.loc) } : OpV) = o
    rw [e]
  · unfold renO
    rw [if_neg h5, if_neg h5]

/-- What the program with locations renamed has. -/
theorem okOp_ren {k : Int} (hk : k = 1 ∨ k = 2) {o : OpV} (h : okOp o = true) : okOp (renO k o) = true := by
  obtain ⟨q1, q2, q3⟩ := (okOp_iff o).1 h
  refine (okOp_iff _).2 ?_
  obtain ⟨e1, e2, e3, e4, e5⟩ := renO_same k o
  refine ⟨by rw [e1, e4]; exact q1, by rw [e1, e4]; exact q2, ?_⟩
  by_cases h5 : o.kind = 5
  · have : renO k o = o := by unfold renO; rw [if_neg (by simpa using h5)]
    rw [this]; exact q3
  · have hl := e5 h5
    unfold fitsP at q3 ⊢
    simp only [Bool.and_eq_true, decide_eq_true_eq] at q3 ⊢
    obtain ⟨⟨l0, l3⟩, q4⟩ := q3
    have := rot_in hk l0 l3
    rw [e1, e2, e3, hl]
    refine ⟨⟨this.1, this.2.1⟩, ?_⟩
    rw [if_neg h5] at q4 ⊢
    exact q4

/-- The count of the writes of a location. -/
def LimS.wk (s : LimS) (k : Int) : Int := if k = 0 then s.w0 else if k = 1 then s.w1 else s.w2
theorem lim_ren {k : Int} (hk : k = 1 ∨ k = 2) (l : List OpV) (hall : ∀ o ∈ l, okOp o = true) :
    (limOf (l.map (renO k))).acc = (limOf l).acc ∧ (limOf (l.map (renO k))).fen = (limOf l).fen ∧ ∀ x : Int, 0 ≤ x → x < 3 → (limOf (l.map (renO k))).wk (rot k x) = (limOf l).wk x := by
  have key : ∀ (l : List OpV) (s s' : LimS), (∀ o ∈ l, okOp o = true) → s'.acc = s.acc → s'.fen = s.fen → (∀ x : Int, 0 ≤ x → x < 3 → s'.wk (rot k x) = s.wk x) →
      (((l.map (renO k)).foldl limStep s').acc = (l.foldl limStep s).acc ∧ ((l.map (renO k)).foldl limStep s').fen = (l.foldl limStep s).fen ∧ ∀ x : Int, 0 ≤ x → x < 3 → ((l.map (renO k)).foldl limStep s').wk (rot k x) = (l.foldl limStep s).wk x) := by
    intro l
    induction l with
    | nil => intro s s' _ h1 h2 h3; exact ⟨h1, h2, h3⟩
    | cons o l ih =>
      intro s s' h h1 h2 h3
      rw [List.map_cons, List.foldl_cons, List.foldl_cons]
      refine ih _ _ (fun x hx => h x (List.mem_cons_of_mem _ hx)) ?_ ?_ ?_
      all_goals
        obtain ⟨e1, e2, e3, e4, e5⟩ := renO_same k o
        have ha : accessP (renO k o) = accessP o := by unfold accessP; rw [e1]
      · unfold limStep; rw [e1, ha, e4]
        split
        · exact h1
        · split
          · simp only [h1]
          · exact h1
      · unfold limStep; rw [e1, ha, e4]
        split
        · simp only [h2]
        · split
          · simp only [h2]
          · exact h2
      · intro x hx0 hx3
        unfold limStep; rw [e1, ha, e4]
        split
        · exact h3 x hx0 hx3
        · rename_i h5
          split
          · rename_i hacc
            obtain ⟨_, _, q3⟩ := (okOp_iff o).1 (h o (List.mem_cons_self ..))
            have hl : 0 ≤ o.loc ∧ o.loc < 3 := by simp only [fitsP, Bool.and_eq_true, decide_eq_true_eq] at q3; exact q3.1
            have r1 := rot_in hk hl.1 hl.2
            have r2 := rot_in hk hx0 hx3
            have hx := h3 x hx0 hx3
            rw [e5 h5]
            generalize rot k o.loc = a at r1
            generalize rot k x = b at r2 hx
            unfold LimS.wk at hx ⊢
            dsimp only
            have ho : o.loc = 0 ∨ o.loc = 1 ∨ o.loc = 2 := by omega
            have hxc : x = 0 ∨ x = 1 ∨ x = 2 := by omega
            rcases hk with rfl | rfl <;> rcases ho with ho | ho | ho <;> rcases hxc with rfl | rfl | rfl <;> rw [ho] at r1 <;> simp at r1 r2 <;> simp only [r1, r2, ho] at hx ⊢ <;> simp at hx ⊢ <;> first | exact hx | (split <;> first | exact hx | omega | simp_all)
          · exact h3 x hx0 hx3
  have h0 : ∀ x : Int, LimS.wk ⟨0, 0, 0, 0, 0⟩ x = 0 := fun x => by
    unfold LimS.wk
    split
    · rfl
    · split <;> rfl
  refine key l ⟨0, 0, 0, 0, 0⟩ ⟨0, 0, 0, 0, 0⟩ hall rfl rfl fun x _ _ => ?_
  rw [h0, h0]

theorem check_ren {k : Int} (hk : k = 1 ∨ k = 2) {ts : List (List OpV)} (h : checkP ts = 0) : checkP (renT k ts) = 0 := by
  obtain ⟨hl, hn, hall⟩ := checkP_zero h
  have hall' := List.all_eq_true.1 hall
  have hf : (renT k ts).flatten = ts.flatten.map (renO k) := by unfold renT; rw [List.map_flatten]
  obtain ⟨l1, l2, l3⟩ := lim_ren hk ts.flatten hall'
  have hlen : (renT k ts).length = ts.length := List.length_map _
  unfold checkP
  have hlim : limitsP (renT k ts) = true := by
    unfold limitsP at hl ⊢
    rw [hf, hlen, l1, l2]
    simp only [Bool.and_eq_true, decide_eq_true_eq] at hl ⊢
    obtain ⟨⟨⟨⟨⟨a, b⟩, c⟩, d⟩, e⟩, f⟩ := hl
    have m0 := l3 0 (by omega) (by omega)
    have m1 := l3 1 (by omega) (by omega)
    have m2 := l3 2 (by omega) (by omega)
    generalize limOf (ts.flatten.map (renO k)) = s at m0 m1 m2 ⊢
    generalize limOf ts.flatten = s0 at m0 m1 m2 b c d e f
    rcases hk with rfl | rfl <;> simp [rot, LimS.wk] at m0 m1 m2 <;> exact ⟨⟨⟨⟨⟨a, b⟩, c⟩, by omega⟩, by omega⟩, by omega⟩
  rw [if_neg (by rw [hlim]; decide), if_neg (by rw [hlen]; exact hn), if_pos]
  rw [hf, List.all_map, List.all_eq_true]
  intro o ho
  exact okOp_ren hk (hall' o ho)

/-! ### Outcomes -/
/-- An outcome, its last words in another order. -/
def rotO (k : Int) (x : List Int) : List Int :=
  x.take (x.length - 3) ++ (if k = 1 then [numAt x (x.length - 3 + 2), numAt x (x.length - 3), numAt x (x.length - 3 + 1)] else [numAt x (x.length - 3 + 1), numAt x (x.length - 3 + 2), numAt x (x.length - 3)])
theorem rotO_app (k : Int) (r : List Int) (a b c : Int) : rotO k (r ++ [a, b, c]) = r ++ (if k = 1 then [c, a, b] else [b, c, a]) := by
  unfold rotO
  have e : (r ++ [a, b, c]).length - 3 = r.length := by simp
  have h : ∀ i, i < 3 → numAt (r ++ [a, b, c]) (r.length + i) = numAt [a, b, c] i := fun i hi => by
    unfold numAt; rw [List.getElem?_append_right (by omega)]; congr 2; omega
  rw [e, List.take_left' rfl]
  have h0 := h 0 (by omega); have h1 := h 1 (by omega); have h2 := h 2 (by omega)
  rw [Nat.add_zero] at h0
  rw [h0, h1, h2]; rfl

theorem outcome_shape {p : List Ev} {e : Exec} (hol : e.ord.length = 3) : ∃ r a b c, outcomeP p e = r ++ [a, b, c] ∧ r = outReads p (wordsP p e.frm) p.length ∧ a = lastOf (wordsP p e.frm) (e.ord[0]?.getD []) ∧ b = lastOf (wordsP p e.frm) (e.ord[1]?.getD []) ∧ c = lastOf (wordsP p e.frm) (e.ord[2]?.getD []) := by
  rcases ho : e.ord with _ | ⟨a, _ | ⟨b, _ | ⟨c, _ | ⟨d, l⟩⟩⟩⟩ <;> rw [ho] at hol <;> simp at hol
  exact ⟨_, _, _, _, by rw [outcomeP, ho]; rfl, rfl, rfl, rfl, rfl⟩

/-- Each outcome of the renamed program is one of the program, renamed back. -/
theorem ren_out {k : Int} (hk : k = 1 ∨ k = 2) {p : List Ev} (hp : POk p) (hmp : Mono p) (hq : POk (p.map (renE k))) (hmq : Mono (p.map (renE k))) {x : List Int} (h : IsOut (p.map (renE k)) x) : IsOut p (rotO (3 - k) x) := by
  obtain ⟨e, he, rfl⟩ := h
  have H := ren_emb hk p
  obtain ⟨hs, _, hc⟩ := (exec_iff hq hmq).1 he
  refine ⟨pullE p id id (rot k) e, pull_exec H hp hq hmq hs hmp he, ?_⟩
  rw [pull_outcome H hp hs (Round.rfOk hc.round)]
  obtain ⟨r, a, b, c, h1, h2, h3, h4, h5⟩ := outcome_shape (p := p.map (renE k)) (e := e) hs.ol
  rw [h1, rotO_app]
  have hr : (((List.range p.length).filter fun i => (evAt p i).reads).map fun i => (wordsP (p.map (renE k)) e.frm).R (id i)) = r := by
    rw [h2, outReads_eq, List.length_map]
    have : ((List.range p.length).filter fun i => (evAt p i).reads) = (List.range p.length).filter fun i => (evAt (p.map (renE k)) i).reads := by
      refine List.filter_congr fun i hi => ?_
      rw [ren_at k (by simpa using hi)]
      simp only [Ev.reads, renE, (renO_same k _).1]
    rw [this]; rfl
  rw [hr, h3, h4, h5]
  rcases hk with rfl | rfl <;> rfl

theorem ren_isOut {k : Int} (hk : k = 1 ∨ k = 2) {ts : List (List OpV)} (h : checkP ts = 0) {x : List Int} (hx : IsOut (evsOf ts) x) : IsOut (evsOf (renT k ts)) (rotO k x) := by
  have hq := check_ren hk h
  have hback : renT (3 - k) (renT k ts) = ts := by
    obtain ⟨_, _, hall⟩ := checkP_zero h
    unfold renT
    rw [List.map_map]
    conv => rhs; rw [← List.map_id ts]
    refine List.map_congr_left fun t ht => ?_
    show (t.map (renO k)).map (renO (3 - k)) = t
    rw [List.map_map]
    conv => rhs; rw [← List.map_id t]
    refine List.map_congr_left fun o ho => ?_
    have hok := List.all_eq_true.1 hall o (List.mem_flatten.2 ⟨t, ht, ho⟩)
    obtain ⟨_, _, q3⟩ := (okOp_iff o).1 hok
    exact ren_back hk fun _ => by simp only [fitsP, Bool.and_eq_true, decide_eq_true_eq] at q3; exact q3.1
  have e1 : evsOf ts = (evsOf (renT k ts)).map (renE (3 - k)) := by rw [← evs_ren, hback]
  have hp' := evs_pok hq
  have hpt := evs_pok h
  have hmt := evs_mono ts
  rw [e1] at hx hpt hmt
  have := ren_out (k := 3 - k) (by omega) hp' (evs_mono _) hpt hmt hx
  rwa [show (3 - (3 - k) : Int) = k by omega] at this

theorem outs_iff {p : List Ev} {l : List (List Int)} (h : Outs p l) {x : List Int} : x ∈ l ↔ IsOut p x := by
  rw [h.2 x, List.mem_map]; rfl
theorem Outs.nodup {p : List Ev} {l : List (List Int)} (h : Outs p l) : l.Nodup := by
  rw [List.nodup_iff_pairwise_ne]
  exact h.1.imp fun {a b} h e => by rw [e, cmpL_self] at h; omega
theorem isOut_len {p : List Ev} (hp : POk p) {x : List Int} (h : IsOut p x) : ∃ r a b c, x = r ++ [a, b, c] ∧ r.length ≤ p.length := by
  obtain ⟨e, he, rfl⟩ := h
  obtain ⟨r, a, b, c, h1, h2, _⟩ := outcome_shape (p := p) (e := e) (execsP_ok hp he).ol
  exact ⟨r, a, b, c, h1, by rw [h2]; exact outReads_len _ _ _⟩

theorem rotO_back {k : Int} (hk : k = 1 ∨ k = 2) (r : List Int) (a b c : Int) : rotO (3 - k) (rotO k (r ++ [a, b, c])) = r ++ [a, b, c] := by
  rw [rotO_app]
  rcases hk with rfl | rfl
  · rw [if_pos rfl, rotO_app]; rfl
  · rw [if_neg (by decide), rotO_app]; rfl

/-- As many outcomes. -/
theorem ren_len {k : Int} (hk : k = 1 ∨ k = 2) {ts : List (List OpV)} (h : checkP ts = 0) {l m : List (List Int)} (hl : Outs (evsOf ts) l) (hm : Outs (evsOf (renT k ts)) m) : l.length = m.length := by
  have hq := check_ren hk h
  have inj : ∀ (k : Int), (k = 1 ∨ k = 2) → ∀ {p : List Ev}, POk p → ∀ {l : List (List Int)}, Outs p l → (l.map (rotO k)).Nodup := by
    intro k hk p hp l hl
    rw [List.nodup_iff_pairwise_ne, List.pairwise_map]
    refine List.Pairwise.imp_of_mem ?_ (List.nodup_iff_pairwise_ne.1 hl.nodup)
    intro x y hx hy hne he
    obtain ⟨r, a, b, c, rfl, _⟩ := isOut_len hp ((outs_iff hl).1 hx)
    obtain ⟨r', a', b', c', rfl, _⟩ := isOut_len hp ((outs_iff hl).1 hy)
    exact hne (by rw [← rotO_back hk r a b c, he, rotO_back hk])
  have h1 : l.length ≤ m.length := by
    rw [← List.length_map (f := rotO k)]
    refine len_le_of_sub (inj k hk (evs_pok h) hl) fun x hx => ?_
    obtain ⟨y, hy, rfl⟩ := List.mem_map.1 hx
    exact (outs_iff hm).2 (ren_isOut hk h ((outs_iff hl).1 hy))
  have h2 : m.length ≤ l.length := by
    rw [show m.length = (m.map (rotO (3 - k))).length from (List.length_map _).symm]
    refine len_le_of_sub (inj (3 - k) (by omega) (evs_pok hq) hm) fun x hx => ?_
    obtain ⟨y, hy, rfl⟩ := List.mem_map.1 hx
    have hpq := evs_pok hq
    have hmq := evs_mono (renT k ts)
    have hy' := (outs_iff hm).1 hy
    rw [evs_ren] at hpq hmq hy'
    exact (outs_iff hl).2 (ren_out hk (evs_pok h) (evs_mono ts) hpq hmq hy')
  omega

end Go.EV

namespace Go.EV
open Go.Proofs

def opAt (l : List OpV) (i : Nat) : OpV := l[i]?.getD ⟨0, 0, 0, 0, 0⟩
/-- Three threads' events. -/
def blk (A : List OpV) (x : Int) (B : List OpV) (y : Int) (C : List OpV) (z : Int) : List Ev := A.map (fun o => ⟨o, x⟩) ++ (B.map (fun o => ⟨o, y⟩) ++ C.map fun o => ⟨o, z⟩)
theorem blk_len (A : List OpV) (x : Int) (B : List OpV) (y : Int) (C : List OpV) (z : Int) : (blk A x B y C z).length = A.length + (B.length + C.length) := by simp [blk]
theorem blk_at (A : List OpV) (x : Int) (B : List OpV) (y : Int) (C : List OpV) (z : Int) (i : Nat) (h : i < A.length + (B.length + C.length)) : evAt (blk A x B y C z) i =
    if i < A.length then ⟨opAt A i, x⟩ else if i < A.length + B.length then ⟨opAt B (i - A.length), y⟩ else ⟨opAt C (i - (A.length + B.length)), z⟩ := by
  unfold evAt blk opAt
  by_cases h1 : i < A.length
  · rw [if_pos h1, List.getElem?_append_left (by simpa using h1), List.getElem?_map, List.getElem?_eq_getElem h1]; rfl
  · rw [if_neg h1, List.getElem?_append_right (by simpa using h1), List.length_map]
    by_cases h2 : i < A.length + B.length
    · have h3 : i - A.length < B.length := by omega
      rw [if_pos h2, List.getElem?_append_left (by simpa using h3), List.getElem?_map, List.getElem?_eq_getElem h3]; rfl
    · have h3 : i - (A.length + B.length) < C.length := by omega
      rw [if_neg h2, List.getElem?_append_right (by rw [List.length_map]; omega), List.length_map, List.getElem?_map]
      have e : i - A.length - B.length = i - (A.length + B.length) := by omega
      rw [e, List.getElem?_eq_getElem h3]; rfl

/-- From the turned blocks to the blocks. -/
def ιT (a b c : Nat) (i : Nat) : Nat := if i < c then a + b + i else if i < c + b then a + (i - c) else i - (c + b)

theorem turn_emb (A B C : List OpV) {x y z x' y' z' : Int} (hd : x ≠ y ∧ y ≠ z ∧ x ≠ z) (hd' : x' ≠ y' ∧ y' ≠ z' ∧ x' ≠ z') : Emb (blk C z' B y' A x') (blk A x B y C z) (ιT A.length B.length C.length) (ιT C.length B.length A.length) id := by
  have hl1 := blk_len C z' B y' A x'
  have hl2 := blk_len A x B y C z
  have hι : ∀ i, i < (blk C z' B y' A x').length → ιT A.length B.length C.length i < (blk A x B y C z).length := by
    intro i hi
    rw [hl1] at hi; rw [hl2]; unfold ιT
    split
    · omega
    · split <;> omega
  have hop : ∀ i, i < (blk C z' B y' A x').length → (evAt (blk A x B y C z) (ιT A.length B.length C.length i)).op = (evAt (blk C z' B y' A x') i).op := by
    intro i hi
    have h2 := hι i hi
    rw [hl2] at h2; rw [hl1] at hi
    rw [blk_at _ _ _ _ _ _ _ h2, blk_at _ _ _ _ _ _ _ hi]
    unfold ιT
    by_cases h1 : i < C.length
    · rw [if_pos h1, if_pos h1, if_neg (by omega), if_neg (by omega)]
      show opAt C _ = opAt C _
      congr 1; omega
    · rw [if_neg h1, if_neg h1]
      by_cases h3 : i < C.length + B.length
      · rw [if_pos h3, if_pos h3, if_neg (by omega), if_pos (by omega)]
        show opAt B _ = opAt B _
        congr 1; omega
      · rw [if_neg h3, if_neg h3, if_pos (by omega)]
  refine ⟨hι, fun i hi => ?_, fun b hb _ => ?_, fun a b hab hb hth => ?_, fun a ha => by rw [hop a ha], fun a ha => by rw [hop a ha], fun a ha => by rw [hop a ha], fun a ha _ => by rw [hop a ha]; rfl, fun a ha hr => ?_, fun a ha hr => ?_, fun a ha hr => ?_, fun k h0 h3 => ⟨h0, h3⟩, fun k k' _ _ _ _ h => h⟩
  · rw [hl1] at hi; unfold ιT
    by_cases h1 : i < C.length
    · rw [if_pos h1, if_neg (by omega), if_neg (by omega)]; omega
    · rw [if_neg h1]
      by_cases h3 : i < C.length + B.length
      · rw [if_pos h3, if_neg (by omega), if_pos (by omega)]; omega
      · rw [if_neg h3, if_pos (by omega)]; omega
  · rw [hl2] at hb; rw [hl1]; unfold ιT
    by_cases h1 : b < A.length
    · rw [if_pos h1]
      refine ⟨by omega, ?_⟩
      rw [if_neg (by omega), if_neg (by omega)]; omega
    · rw [if_neg h1]
      by_cases h3 : b < A.length + B.length
      · rw [if_pos h3]
        refine ⟨by omega, ?_⟩
        rw [if_neg (by omega), if_pos (by omega)]; omega
      · rw [if_neg h3]
        refine ⟨by omega, ?_⟩
        rw [if_pos (by omega)]; omega
  · have ha : a < (blk C z' B y' A x').length := by omega
    have h1 := hι a ha
    have h2 := hι b hb
    rw [hl2] at h1 h2
    rw [hl1] at ha hb
    rw [blk_at _ _ _ _ _ _ _ ha, blk_at _ _ _ _ _ _ _ hb] at hth
    rw [blk_at _ _ _ _ _ _ _ h1, blk_at _ _ _ _ _ _ _ h2]
    unfold ιT at h1 h2 ⊢
    obtain ⟨d1, d2, d3⟩ := hd'
    by_cases ca : a < C.length
    · rw [if_pos ca] at hth
      by_cases cb : b < C.length
      · rw [if_pos ca, if_pos cb, if_neg (by omega), if_neg (by omega), if_neg (by omega), if_neg (by omega)]
        exact ⟨by omega, rfl⟩
      · rw [if_neg cb] at hth
        by_cases cb2 : b < C.length + B.length
        · rw [if_pos cb2] at hth; exact absurd hth (fun e => d2 e.symm)
        · rw [if_neg cb2] at hth; exact absurd hth (fun e => d3 e.symm)
    · rw [if_neg ca] at hth
      have cb : ¬ b < C.length := by omega
      rw [if_neg cb] at hth
      by_cases ca2 : a < C.length + B.length
      · rw [if_pos ca2] at hth
        by_cases cb2 : b < C.length + B.length
        · rw [if_neg ca, if_neg cb, if_pos ca2, if_pos cb2, if_neg (by omega), if_pos (by omega), if_neg (by omega), if_pos (by omega)]
          exact ⟨by omega, rfl⟩
        · rw [if_neg cb2] at hth; exact absurd hth (fun e => d1 e.symm)
      · have cb2 : ¬ b < C.length + B.length := by omega
        rw [if_neg ca, if_neg cb, if_neg ca2, if_neg cb2, if_pos (by omega), if_pos (by omega)]
        exact ⟨by omega, rfl⟩
  · simp only [Ev.rel, hop a ha] at hr ⊢; exact hr
  · simp only [Ev.acq, hop a ha] at hr ⊢; exact hr
  · simp only [Ev.strong, hop a ha] at hr ⊢; exact hr

/-! ### What is read, thread by thread -/
def isRd (o : OpV) : Bool := decide (o.kind ≠ 1) && decide (o.kind ≠ 5)
def rdsAt (L : List OpV) (R : Nat → Int) (off : Nat) : List Int := ((List.range L.length).filter fun i => isRd (opAt L i)).map fun i => R (off + i)
theorem range_add' (a b : Nat) : List.range (a + b) = List.range a ++ (List.range b).map (a + ·) := by
  induction b with
  | zero => simp
  | succ b ih => rw [← Nat.add_assoc, List.range_succ, ih, List.range_succ, List.map_append, List.append_assoc]; rfl
theorem reads_blk (A : List OpV) (x : Int) (B : List OpV) (y : Int) (C : List OpV) (z : Int) (R : Nat → Int) :
    (((List.range (blk A x B y C z).length).filter fun i => (evAt (blk A x B y C z) i).reads).map R) = rdsAt A R 0 ++ (rdsAt B R A.length ++ rdsAt C R (A.length + B.length)) := by
  have hl := blk_len A x B y C z
  rw [hl, range_add', range_add', List.map_append, List.filter_append, List.filter_append, List.map_append, List.map_append]
  have hA : (List.filter (fun i => (evAt (blk A x B y C z) i).reads) (List.range A.length)).map R = rdsAt A R 0 := by
    unfold rdsAt
    have : (List.filter (fun i => (evAt (blk A x B y C z) i).reads) (List.range A.length)) = (List.range A.length).filter fun i => isRd (opAt A i) := by
      refine List.filter_congr fun i hi => ?_
      rw [List.mem_range] at hi
      rw [blk_at _ _ _ _ _ _ _ (by omega), if_pos hi]; rfl
    rw [this]
    exact List.map_congr_left fun i _ => by rw [Nat.zero_add]
  have hB : (List.filter (fun i => (evAt (blk A x B y C z) i).reads) ((List.range B.length).map (A.length + ·))).map R = rdsAt B R A.length := by
    rw [List.filter_map, List.map_map]
    unfold rdsAt
    have : (List.filter ((fun i => (evAt (blk A x B y C z) i).reads) ∘ (A.length + ·)) (List.range B.length)) = (List.range B.length).filter fun i => isRd (opAt B i) := by
      refine List.filter_congr fun i hi => ?_
      rw [List.mem_range] at hi
      show (evAt (blk A x B y C z) (A.length + i)).reads = _
      rw [blk_at _ _ _ _ _ _ _ (by omega), if_neg (by omega), if_pos (by omega), Nat.add_sub_cancel_left]; rfl
    rw [this]; rfl
  have hC : (List.filter (fun i => (evAt (blk A x B y C z) i).reads) (((List.range C.length).map (B.length + ·)).map (A.length + ·))).map R = rdsAt C R (A.length + B.length) := by
    rw [List.map_map, List.filter_map, List.map_map]
    unfold rdsAt
    have : (List.filter ((fun i => (evAt (blk A x B y C z) i).reads) ∘ ((A.length + ·) ∘ (B.length + ·))) (List.range C.length)) = (List.range C.length).filter fun i => isRd (opAt C i) := by
      refine List.filter_congr fun i hi => ?_
      rw [List.mem_range] at hi
      show (evAt (blk A x B y C z) (A.length + (B.length + i))).reads = _
      rw [blk_at _ _ _ _ _ _ _ (by omega), if_neg (by omega), if_neg (by omega)]
      have e : A.length + (B.length + i) - (A.length + B.length) = i := by omega
      rw [e]; rfl
    rw [this]
    exact List.map_congr_left fun i _ => by show R (A.length + (B.length + i)) = _; rw [Nat.add_assoc]
  rw [hA, hB, hC]

/-- An outcome of the blocks, and the one of the turned blocks. -/
theorem turn_outcome (A B C : List OpV) {x y z x' y' z' : Int} (hd : x ≠ y ∧ y ≠ z ∧ x ≠ z) (hd' : x' ≠ y' ∧ y' ≠ z' ∧ x' ≠ z') (hp : POk (blk C z' B y' A x')) (hmp : Mono (blk C z' B y' A x')) (hq : POk (blk A x B y C z)) (hmq : Mono (blk A x B y C z)) {u : List Int}
    (h : IsOut (blk A x B y C z) u) : ∃ s0 s1 s2 l, u = s0 ++ (s1 ++ s2) ++ l ∧ l.length = 3 ∧ s0.length = (A.filter isRd).length ∧ s1.length = (B.filter isRd).length ∧ s2.length = (C.filter isRd).length ∧ IsOut (blk C z' B y' A x') (s2 ++ (s1 ++ s0) ++ l) := by
  obtain ⟨e, he, rfl⟩ := h
  have H := turn_emb A B C hd hd'
  obtain ⟨hs, _, hc⟩ := (exec_iff hq hmq).1 he
  have hfl : ∀ (L : List OpV) (R : Nat → Int) (off : Nat), (rdsAt L R off).length = (L.filter isRd).length := by
    intro L R off
    unfold rdsAt
    rw [List.length_map]
    have e1 : (List.range L.length).map (opAt L) = L := by
      refine List.ext_getElem (by simp) fun i h1 h2 => ?_
      rw [List.getElem_map, List.getElem_range, opAt, List.getElem?_eq_getElem h2, Option.getD_some]
    conv => rhs; rw [← e1]
    rw [List.filter_map, List.length_map]; rfl
  refine ⟨rdsAt A (wordsP (blk A x B y C z) e.frm).R 0, rdsAt B (wordsP (blk A x B y C z) e.frm).R A.length, rdsAt C (wordsP (blk A x B y C z) e.frm).R (A.length + B.length), e.ord.map (lastOf (wordsP (blk A x B y C z) e.frm)), ?_, by rw [List.length_map, hs.ol], hfl _ _ _, hfl _ _ _, hfl _ _ _,
    pullE _ (ιT A.length B.length C.length) (ιT C.length B.length A.length) id e, pull_exec H hp hq hmq hs hmp he, ?_⟩
  · rw [outcomeP, outReads_eq, reads_blk]
  · rw [pull_outcome H hp hs (Round.rfOk hc.round), reads_blk]
    congr 1
    · have k1 : rdsAt C (fun i => (wordsP (blk A x B y C z) e.frm).R (ιT A.length B.length C.length i)) 0 = rdsAt C (wordsP (blk A x B y C z) e.frm).R (A.length + B.length) := by
        refine List.map_congr_left fun i hi => ?_
        have := (List.mem_filter.1 hi).1
        rw [List.mem_range] at this
        show (wordsP (blk A x B y C z) e.frm).R (ιT A.length B.length C.length (0 + i)) = _
        unfold ιT
        rw [if_pos (by omega), Nat.zero_add]
      have k2 : rdsAt B (fun i => (wordsP (blk A x B y C z) e.frm).R (ιT A.length B.length C.length i)) C.length = rdsAt B (wordsP (blk A x B y C z) e.frm).R A.length := by
        refine List.map_congr_left fun i hi => ?_
        have := (List.mem_filter.1 hi).1
        rw [List.mem_range] at this
        show (wordsP (blk A x B y C z) e.frm).R (ιT A.length B.length C.length (C.length + i)) = _
        unfold ιT
        rw [if_neg (by omega), if_pos (by omega), Nat.add_sub_cancel_left]
      have k3 : rdsAt A (fun i => (wordsP (blk A x B y C z) e.frm).R (ιT A.length B.length C.length i)) (C.length + B.length) = rdsAt A (wordsP (blk A x B y C z) e.frm).R 0 := by
        refine List.map_congr_left fun i hi => ?_
        have := (List.mem_filter.1 hi).1
        rw [List.mem_range] at this
        show (wordsP (blk A x B y C z) e.frm).R (ιT A.length B.length C.length (C.length + B.length + i)) = _
        unfold ιT
        rw [if_neg (by omega), if_neg (by omega), Nat.add_sub_cancel_left, Nat.zero_add]
      rw [k1, k2, k3]
    · have hol := hs.ol
      rcases ho : e.ord with _ | ⟨a, _ | ⟨b, _ | ⟨c, _ | ⟨d, l⟩⟩⟩⟩ <;> rw [ho] at hol <;> simp at hol
      rfl

/-- As many executions. -/
theorem turn_count (A B C : List OpV) {x y z x' y' z' : Int} (hd : x ≠ y ∧ y ≠ z ∧ x ≠ z) (hd' : x' ≠ y' ∧ y' ≠ z' ∧ x' ≠ z') (hp : POk (blk C z' B y' A x')) (hmp : Mono (blk C z' B y' A x')) (hq : POk (blk A x B y C z)) (hmq : Mono (blk A x B y C z)) :
    (execsP (blk A x B y C z)).length ≤ (execsP (blk C z' B y' A x')).length := by
  have H := turn_emb A B C hd hd'
  have H' := turn_emb C B A (x := z') (y := y') (z := x') (x' := z) (y' := y) (z' := x) ⟨fun e => hd'.2.1 e.symm, fun e => hd'.1 e.symm, fun e => hd'.2.2 e.symm⟩ ⟨fun e => hd.2.1 e.symm, fun e => hd.1 e.symm, fun e => hd.2.2 e.symm⟩
  have hb : ∀ b, b < (blk A x B y C z).length → ιT C.length B.length A.length b < (blk C z' B y' A x').length ∧ ιT A.length B.length C.length (ιT C.length B.length A.length b) = b := fun b hb => ⟨H'.lt b hb, H'.inv b hb⟩
  refine len_inj (execsP_nodup _) (pullE (blk C z' B y' A x') (ιT A.length B.length C.length) (ιT C.length B.length A.length) id) (fun e he => ?_) (fun e he e' he' heq => ?_)
  · exact pull_exec H hp hq hmq ((exec_iff hq hmq).1 he).1 hmp he
  · refine pull_inj H hb (fun b hb' hst => H'.strong b hb' hst) (fun k hk => ⟨k, hk, rfl⟩) ((exec_iff hq hmq).1 he).1 ((exec_iff hq hmq).1 he').1 heq

/-! ### Programs whose threads stand in the opposite order -/
theorem blk_evs1 (a : List OpV) : evsOf [a] = blk (expT a) 0 [] 1 [] 2 := by simp [evsOf, evsGo, blk]
theorem blk_evs2 (a b : List OpV) : evsOf [a, b] = blk (expT a) 0 (expT b) 1 [] 2 := by simp [evsOf, evsGo, blk]
theorem blk_evs3 (a b c : List OpV) : evsOf [a, b, c] = blk (expT a) 0 (expT b) 1 (expT c) 2 := by simp [evsOf, evsGo, blk]
theorem blk_turn1 (a : List OpV) : evsOf [a] = blk [] (-2) [] (-1) (expT a) 0 := by simp [evsOf, evsGo, blk]
theorem blk_turn2 (a b : List OpV) : evsOf [b, a] = blk [] (-1) (expT b) 0 (expT a) 1 := by simp [evsOf, evsGo, blk]

def rdsN (t : List OpV) : Nat := (t.filter isRd).length
theorem rdsN_exp (t : List OpV) : ((expT t).filter isRd).length = rdsN t := expT_filter (g := isRd) (by decide) (fun _ _ => rfl) t

theorem lim_app (l m : List OpV) : (limOf (l ++ m)).acc = (limOf l).acc + (limOf m).acc ∧ (limOf (l ++ m)).fen = (limOf l).fen + (limOf m).fen ∧ (limOf (l ++ m)).w0 = (limOf l).w0 + (limOf m).w0 ∧ (limOf (l ++ m)).w1 = (limOf l).w1 + (limOf m).w1 ∧ (limOf (l ++ m)).w2 = (limOf l).w2 + (limOf m).w2 := by
  have key : ∀ (m : List OpV) (s : LimS), (m.foldl limStep s).acc = s.acc + (limOf m).acc ∧ (m.foldl limStep s).fen = s.fen + (limOf m).fen ∧ (m.foldl limStep s).w0 = s.w0 + (limOf m).w0 ∧ (m.foldl limStep s).w1 = s.w1 + (limOf m).w1 ∧ (m.foldl limStep s).w2 = s.w2 + (limOf m).w2 := by
    intro m
    induction m with
    | nil => intro s; simp [limOf]
    | cons o m ih =>
      intro s
      have h1 := ih (limStep s o)
      have h2 := ih (limStep ⟨0, 0, 0, 0, 0⟩ o)
      have e : limOf (o :: m) = m.foldl limStep (limStep ⟨0, 0, 0, 0, 0⟩ o) := rfl
      rw [List.foldl_cons, e]
      generalize m.foldl limStep (limStep s o) = z1 at h1 ⊢
      generalize m.foldl limStep (limStep ⟨0, 0, 0, 0, 0⟩ o) = z2 at h2 ⊢
      have e3 : (limStep s o).acc = s.acc + (limStep ⟨0, 0, 0, 0, 0⟩ o).acc ∧ (limStep s o).fen = s.fen + (limStep ⟨0, 0, 0, 0, 0⟩ o).fen ∧ (limStep s o).w0 = s.w0 + (limStep ⟨0, 0, 0, 0, 0⟩ o).w0 ∧ (limStep s o).w1 = s.w1 + (limStep ⟨0, 0, 0, 0, 0⟩ o).w1 ∧ (limStep s o).w2 = s.w2 + (limStep ⟨0, 0, 0, 0, 0⟩ o).w2 := by
        unfold limStep
        split
        · simp
        · split
          · dsimp only
            refine ⟨by omega, ?_, ?_, ?_, ?_⟩ <;> split <;> omega
          · simp
      omega
  have := key m (limOf l)
  rw [limOf, List.foldl_append]
  exact this

theorem lim_rev : ∀ ts : List (List OpV), limOf ts.reverse.flatten = limOf ts.flatten
  | [] => rfl
  | t :: ts => by
    have ih := lim_rev ts
    have h1 := lim_app ts.reverse.flatten t
    have h2 := lim_app t ts.flatten
    rw [List.reverse_cons, List.flatten_append, List.flatten_cons, List.flatten_cons, List.flatten_nil, List.append_nil]
    rw [ih] at h1
    generalize limOf (ts.reverse.flatten ++ t) = z1 at h1 ⊢
    generalize limOf (t ++ ts.flatten) = z2 at h2 ⊢
    cases z1; cases z2
    simp only at h1 h2
    simp only [LimS.mk.injEq]
    omega

theorem check_rev (ts : List (List OpV)) : checkP ts.reverse = checkP ts := by
  have h1 : limitsP ts.reverse = limitsP ts := by unfold limitsP; rw [lim_rev, List.length_reverse]
  have h2 : ts.reverse.flatten.all okOp = ts.flatten.all okOp := by
    rw [Bool.eq_iff_iff, List.all_eq_true, List.all_eq_true]
    have : ∀ o, o ∈ ts.reverse.flatten ↔ o ∈ ts.flatten := fun o => by simp [List.mem_flatten]
    exact ⟨fun h o ho => h o ((this o).2 ho), fun h o ho => h o ((this o).1 ho)⟩
  unfold checkP
  rw [h1, List.length_reverse, h2]

/-- An outcome, what each thread read in the opposite order: so many threads so far. -/
def preR (ts : List (List OpV)) (t : Nat) : Nat := ((ts.take t).map rdsN).foldl (· + ·) 0
def turnGo (ts : List (List OpV)) (y : List Int) : Nat → List Int
  | 0 => []
  | u + 1 => turnGo ts y u ++ (y.drop (preR ts (ts.length - (u + 1)))).take (rdsN (ts[ts.length - (u + 1)]?.getD []))
def turnedO (ts : List (List OpV)) (y : List Int) : List Int := turnGo ts y ts.length ++ y.drop (y.length - 3)

theorem turned3 {a b c : List OpV} {s0 s1 s2 l : List Int} (h0 : s0.length = rdsN a) (h1 : s1.length = rdsN b) (h2 : s2.length = rdsN c) (hl : l.length = 3) : turnedO [a, b, c] (s0 ++ (s1 ++ s2) ++ l) = s2 ++ (s1 ++ s0) ++ l := by
  have e3 : (s0 ++ (s1 ++ s2) ++ l).length - 3 = (s0 ++ (s1 ++ s2)).length := by rw [List.length_append, hl]; omega
  unfold turnedO
  rw [e3, List.drop_left' rfl]
  congr 1
  have g2 : ((s0 ++ (s1 ++ s2) ++ l).drop (rdsN a + rdsN b)).take (rdsN c) = s2 := by
    rw [show s0 ++ (s1 ++ s2) ++ l = (s0 ++ s1) ++ (s2 ++ l) by simp, List.drop_left' (by rw [List.length_append]; omega), List.take_left' h2]
  have g1 : ((s0 ++ (s1 ++ s2) ++ l).drop (rdsN a)).take (rdsN b) = s1 := by
    rw [show s0 ++ (s1 ++ s2) ++ l = s0 ++ (s1 ++ (s2 ++ l)) by simp, List.drop_left' h0, List.take_left' h1]
  have g0 : (s0 ++ (s1 ++ s2) ++ l).take (rdsN a) = s0 := by
    rw [show s0 ++ (s1 ++ s2) ++ l = s0 ++ (s1 ++ (s2 ++ l)) by simp, List.take_left' h0]
  generalize s0 ++ (s1 ++ s2) ++ l = Y at g0 g1 g2 ⊢
  simp [turnGo, preR, g0, g1, g2]
theorem turned2 {a b : List OpV} {s0 s1 l : List Int} (h0 : s0.length = rdsN a) (h1 : s1.length = rdsN b) (hl : l.length = 3) : turnedO [a, b] (s0 ++ s1 ++ l) = s1 ++ s0 ++ l := by
  have e3 : (s0 ++ s1 ++ l).length - 3 = (s0 ++ s1).length := by rw [List.length_append, hl]; omega
  unfold turnedO
  rw [e3, List.drop_left' rfl]
  congr 1
  have g1 : ((s0 ++ s1 ++ l).drop (rdsN a)).take (rdsN b) = s1 := by
    rw [show s0 ++ s1 ++ l = s0 ++ (s1 ++ l) by simp, List.drop_left' h0, List.take_left' h1]
  have g0 : (s0 ++ s1 ++ l).take (rdsN a) = s0 := by
    rw [show s0 ++ s1 ++ l = s0 ++ (s1 ++ l) by simp, List.take_left' h0]
  generalize s0 ++ s1 ++ l = Y at g0 g1 ⊢
  simp [turnGo, preR, g0, g1]
theorem turned1 {a : List OpV} {s0 l : List Int} (h0 : s0.length = rdsN a) (hl : l.length = 3) : turnedO [a] (s0 ++ l) = s0 ++ l := by
  have e3 : (s0 ++ l).length - 3 = s0.length := by rw [List.length_append, hl]; omega
  unfold turnedO
  rw [e3, List.drop_left' rfl]
  congr 1
  simp only [turnGo, List.length_cons, List.length_nil, preR, List.nil_append]
  simp [List.take_left' h0]

/-- The outcomes of the program whose threads stand in the opposite order, there and back. -/
theorem turn_out {ts : List (List OpV)} (h : checkP ts = 0) {u : List Int} (hu : IsOut (evsOf ts) u) : IsOut (evsOf ts.reverse) (turnedO ts u) ∧ turnedO ts.reverse (turnedO ts u) = u := by
  have h' : checkP ts.reverse = 0 := by rw [check_rev]; exact h
  have hsm := checkP_small h
  obtain ⟨_, hn, _⟩ := checkP_zero h
  have p1 := evs_pok h
  have m1 := evs_mono ts
  have p2 := evs_pok h'
  have m2 := evs_mono ts.reverse
  rcases ts with _ | ⟨a, _ | ⟨b, _ | ⟨c, _ | ⟨d, r⟩⟩⟩⟩
  · exact absurd rfl hn
  · have e : ([a] : List (List OpV)).reverse = [a] := rfl
    rw [e] at p2 m2 ⊢
    rw [blk_evs1] at hu p1 m1
    rw [blk_turn1] at p2 m2 ⊢
    obtain ⟨s0, s1, s2, l, rfl, hl, q0, q1, q2, ho⟩ := turn_outcome (expT a) [] [] (by decide) (x' := 0) (y' := -1) (z' := -2) (by decide) p2 m2 p1 m1 hu
    rw [rdsN_exp] at q0
    have z1 : s1 = [] := List.length_eq_zero_iff.1 q1
    have z2 : s2 = [] := List.length_eq_zero_iff.1 q2
    subst z1 z2
    simp only [List.append_nil, List.nil_append] at ho ⊢
    rw [turned1 q0 hl]
    exact ⟨ho, turned1 q0 hl⟩
  · have e : ([a, b] : List (List OpV)).reverse = [b, a] := rfl
    rw [e] at p2 m2 ⊢
    rw [blk_evs2] at hu p1 m1
    rw [blk_turn2] at p2 m2 ⊢
    obtain ⟨s0, s1, s2, l, rfl, hl, q0, q1, q2, ho⟩ := turn_outcome (expT a) (expT b) [] (by decide) (x' := 1) (y' := 0) (z' := -1) (by decide) p2 m2 p1 m1 hu
    rw [rdsN_exp] at q0 q1
    have z2 : s2 = [] := List.length_eq_zero_iff.1 q2
    subst z2
    simp only [List.append_nil, List.nil_append] at ho ⊢
    rw [turned2 q0 q1 hl]
    exact ⟨ho, turned2 q1 q0 hl⟩
  · have e : ([a, b, c] : List (List OpV)).reverse = [c, b, a] := rfl
    rw [e] at p2 m2 ⊢
    rw [blk_evs3] at hu p1 m1 p2 m2 ⊢
    obtain ⟨s0, s1, s2, l, rfl, hl, q0, q1, q2, ho⟩ := turn_outcome (expT a) (expT b) (expT c) (by decide) (x' := 2) (y' := 1) (z' := 0) (by decide) p2 m2 p1 m1 hu
    rw [rdsN_exp] at q0 q1 q2
    rw [turned3 q0 q1 q2 hl]
    exact ⟨ho, turned3 q2 q1 q0 hl⟩
  · simp at hsm

theorem turn_len {ts : List (List OpV)} (h : checkP ts = 0) {l m : List (List Int)} (hl : Outs (evsOf ts) l) (hm : Outs (evsOf ts.reverse) m) : l.length = m.length := by
  have h' : checkP ts.reverse = 0 := by rw [check_rev]; exact h
  have key : ∀ {ts : List (List OpV)}, checkP ts = 0 → ∀ {l m : List (List Int)}, Outs (evsOf ts) l → Outs (evsOf ts.reverse) m → l.length ≤ m.length := by
    intro ts h l m hl hm
    rw [← List.length_map (f := turnedO ts)]
    refine len_le_of_sub (nodup_mapI hl.nodup fun x hx y hy e => ?_) fun x hx => ?_
    · rw [← (turn_out h ((outs_iff hl).1 hx)).2, e, (turn_out h ((outs_iff hl).1 hy)).2]
    · obtain ⟨y, hy, rfl⟩ := List.mem_map.1 hx
      exact (outs_iff hm).2 (turn_out h ((outs_iff hl).1 hy)).1
  have h1 := key h hl hm
  have h2 := key h' hm (by rw [List.reverse_reverse]; exact hl)
  omega

theorem turn_execs {ts : List (List OpV)} (h : checkP ts = 0) : (execsP (evsOf ts)).length = (execsP (evsOf ts.reverse)).length := by
  have key : ∀ {ts : List (List OpV)}, checkP ts = 0 → (execsP (evsOf ts)).length ≤ (execsP (evsOf ts.reverse)).length := by
    intro ts h
    have h' : checkP ts.reverse = 0 := by rw [check_rev]; exact h
    have hsm := checkP_small h
    obtain ⟨_, hn, _⟩ := checkP_zero h
    have p1 := evs_pok h
    have m1 := evs_mono ts
    have p2 := evs_pok h'
    have m2 := evs_mono ts.reverse
    rcases ts with _ | ⟨a, _ | ⟨b, _ | ⟨c, _ | ⟨d, r⟩⟩⟩⟩
    · exact absurd rfl hn
    · exact Nat.le_refl _
    · have e : ([a, b] : List (List OpV)).reverse = [b, a] := rfl
      rw [e] at p2 m2 ⊢
      rw [blk_evs2] at p1 m1 ⊢
      rw [blk_turn2] at p2 m2 ⊢
      exact turn_count (expT a) (expT b) [] (by decide) (x' := 1) (y' := 0) (z' := -1) (by decide) p2 m2 p1 m1
    · have e : ([a, b, c] : List (List OpV)).reverse = [c, b, a] := rfl
      rw [e] at p2 m2 ⊢
      rw [blk_evs3] at p1 m1 p2 m2 ⊢
      rw [blk_evs3]
      exact turn_count (expT a) (expT b) (expT c) (by decide) (x' := 2) (y' := 1) (z' := 0) (by decide) p2 m2 p1 m1
    · simp at hsm
  have h' : checkP ts.reverse = 0 := by rw [check_rev]; exact h
  have h1 := key h
  have h2 := key h'
  rw [List.reverse_reverse] at h2
  omega

end Go.EV

namespace Go.EV
open Go.Proofs

theorem preR_succ {ts : List (List OpV)} {t : Nat} (h : t < ts.length) : preR ts (t + 1) = preR ts t + rdsN ts[t] := by
  unfold preR
  rw [List.take_succ_eq_append_getElem h, List.map_append, List.foldl_append]; rfl
theorem preR_mono {ts : List (List OpV)} : ∀ {a b : Nat}, a ≤ b → b ≤ ts.length → preR ts a ≤ preR ts b := by
  intro a b hab
  induction hab with
  | refl => intro _; exact Nat.le_refl _
  | @step b h ih =>
    intro hb
    have := ih (by omega)
    rw [preR_succ (show b < ts.length by omega)]; omega
theorem rdsN_le (t : List OpV) : rdsN t ≤ t.length := List.length_filter_le _ _
theorem turnGo_len {ts : List (List OpV)} {y : List Int} (hy : preR ts ts.length ≤ y.length) : ∀ u, u ≤ ts.length → (turnGo ts y u).length = preR ts ts.length - preR ts (ts.length - u)
  | 0, _ => by simp [turnGo]
  | u + 1, hu => by
    have ih := turnGo_len hy u (by omega)
    have h1 : ts.length - (u + 1) < ts.length := by omega
    have h2 := preR_succ h1
    have e : ts.length - (u + 1) + 1 = ts.length - u := by omega
    rw [e] at h2
    have h3 := preR_mono (ts := ts) (show ts.length - u ≤ ts.length by omega) (Nat.le_refl _)
    rw [turnGo, List.length_append, ih, List.length_take, List.length_drop, List.getElem?_eq_getElem h1, Option.getD_some]
    omega
theorem preR_flat (ts : List (List OpV)) : ∀ t, t ≤ ts.length → preR ts t = ((ts.take t).flatten.filter isRd).length
  | 0, _ => by simp [preR]
  | t + 1, h => by
    rw [preR_succ (show t < ts.length by omega), preR_flat ts t (by omega), List.take_succ_eq_append_getElem (show t < ts.length by omega), List.flatten_append, List.filter_append, List.length_append]
    simp [rdsN]
theorem isOut_len2 {ts : List (List OpV)} (h : checkP ts = 0) {y : List Int} (hy : IsOut (evsOf ts) y) : y.length = preR ts ts.length + 3 := by
  obtain ⟨e, he, rfl⟩ := hy
  have hol := (execsP_ok (evs_pok h) he).ol
  rw [outcomeP, List.length_append, List.length_map, hol, outReads_eq, List.length_map, filter_range (evsOf ts) Ev.reads, preR_flat ts _ (Nat.le_refl _), List.take_length, ← evs_filter (g := isRd) (by decide) (fun _ _ => rfl) ts]
  rfl
/-- What a thread's first operations read. -/
def cntI (t : List OpV) (i : Nat) : Nat := ((t.take i).filter isRd).length
theorem cntI_succ {t : List OpV} {i : Nat} (h : i < t.length) : cntI t (i + 1) = cntI t i + (if isRd t[i] then 1 else 0) := by
  unfold cntI
  rw [List.take_succ_eq_append_getElem h, List.filter_append, List.length_append]
  congr 1
  cases hr : isRd t[i] <;> simp [hr]
theorem cntI_end (t : List OpV) : cntI t t.length = rdsN t := by rw [cntI, List.take_length]; rfl
theorem cntI_le (t : List OpV) (i : Nat) : cntI t i ≤ i := Nat.le_trans (List.length_filter_le _ _) (by rw [List.length_take]; omega)

/-- A piece of a row. -/
theorem sub_rd {H : PHeap} {a : Option Addr} {n c l x : Nat} {cs : List Value} (h : rdS H 1 a n cs) (h1 : l ≤ x) (h2 : x ≤ n) (h3 : n ≤ c) : rdS H 1 (if c = l then a else a.map (fun z => z.add l)) (x - l) ((cs.drop l).take (x - l)) := by
  by_cases h0 : x - l = 0
  · rw [h0]; exact .inl ⟨by simp, by simp⟩
  · rcases h with ⟨hn, _⟩ | ⟨b, off, rfl, hr⟩
    · omega
    · rw [if_neg (by omega)]
      refine .inr ⟨b, off + l, ?_, ?_⟩
      · simp only [Option.map_some, Addr.add]
        split
        · rename_i hz; rw [hz]; rfl
        · rfl
      · have := hr.part (i := l) (m := (x - l) * 1) (by omega)
        rw [Nat.mul_one] at this
        rw [Nat.mul_one]; exact this
theorem ok1_sub (y : List Int) (l k : Nat) : ok1 (((y.map vi).drop l).take k) := by
  rw [← List.map_drop, ← List.map_take]; exact ok1_vi _

section
variable {M : PHeap}

set_option maxHeartbeats 4000000 in
theorem r_turned_c (ts : List (List OpV)) (s : Value) (hs : SlSl M 5 encOp s ts) (hck : checkP ts = 0) (y : List Int) (v : Value) (hv : SlC M 1 ei v y) (hy : y.length = preR ts ts.length + 3) (hyl : y.length < 1000000) :
    Con Try.prog 14 #[.agg #[s], v] M [] (Ints (turnedO ts y)) := by
  have hsm := checkP_small hck
  have hall : ∀ t ∈ ts, ∀ o ∈ t, 0 ≤ o.kind ∧ o.kind ≤ 5 := fun t ht o ho => by
    obtain ⟨_, _, hall⟩ := checkP_zero hck
    obtain ⟨q1, _, _⟩ := (okOp_iff o).1 (List.all_eq_true.1 hall o (List.mem_flatten.2 ⟨t, ht, ho⟩))
    simp only [mayR, Bool.and_eq_true, decide_eq_true_eq] at q1; omega
  have hthl : ∀ t ∈ ts, t.length ≤ 14 := fun t ht => by
    obtain ⟨i, hi, rfl⟩ := List.getElem_of_mem ht
    have h1 := flat_take hi
    have h2 := flat_take_le ts (i + 1)
    rw [h1, List.length_append] at h2; omega
  obtain ⟨a, c, vs, rfl, hl, hrd, hk⟩ := hs
  obtain ⟨ya, yc, rfl, hyc, hyr⟩ := hv
  rw [flatMap_ei] at hyr
  refine Con.enter Q65_ok (args := [.agg #[.slice a ts.length c], .slice ya y.length yc]) (by simp [Q65]) fun w0 => ?_
  simp only [Q65, argE]
  have hat0 : IntKind.i64.wrap ((y.length : Int) - 3) = ((preR ts ts.length : Nat) : Int) := by rw [w64 (by omega) (by omega)]; omega
  have hm1 : IntKind.i64.wrap ((ts.length : Int) - 1) = (ts.length : Int) - 1 := w64 (by omega) (by omega)
  repeat' first
      | refine EV.seq ?_
      | refine EV.block ?_
      | (refine EV.reg ?_; (conv => (arg 2; whnf)); simp only [wpS, wpA, wpQL, push_cast, Int.cast_ofNat_Int, reduceIte, Nat.reduceEqDiff, reduceCtorEq, Nat.reduceAdd, Nat.reduceSub, Nat.reduceMul, Int.reduceToNat, Nat.reduceLeDiff, hat0, hm1])
      | ((first | with_reducible intro b | refine xsA rfl ?_ | fail); try simp only [wpS, wpA, wpQL, push_cast, Int.cast_ofNat_Int, reduceIte, Nat.reduceEqDiff, reduceCtorEq, Nat.reduceAdd, Nat.reduceSub, Nat.reduceMul, Int.reduceToNat, Nat.reduceLeDiff, hat0, hm1])
      | fail
  obtain ⟨pb, rfl⟩ : ∃ x, x = b := ⟨_, rfl⟩
  rw [show ((ts.length : Int) - 1) = (ts.length : Int) - 1 - ((0 : Nat) : Int) by omega]
  refine EV.loopTo (fun x : Nat × Vec => ([(1, .slice ya y.length yc), (2, pv pb 0), (4, .slice none 0 0), (5, osv x.2 (turnGo ts y x.1).length), (6, vi (preR ts (ts.length - x.1) : Nat)), (7, vi (preR ts ts.length : Nat)), (8, vi ((ts.length : Int) - 1 - x.1))], M, (pb, Cl 24 [.slice a ts.length c]) :: osg 3 x.2 ((turnGo ts y x.1).map vi)))
    (fun x => x.1 ≤ ts.length ∧ osok 1 x.2 (turnGo ts y x.1).length ((turnGo ts y x.1).map vi)) (fun x => ts.length - x.1) (0, none) rfl ⟨Nat.zero_le _, rfl, rfl⟩ ?env1 (List.Sublist.refl _) ?_
  case env1 =>
    repeat' first
      | (refine List.forall_mem_cons.2 (And.intro ?_ ?_))
      | (intro _ hnil; cases hnil; done)
      | rfl
      | fail
  rintro ⟨u, ov⟩ ⟨hu, hov⟩ ih
  dsimp only at hu hov ih ⊢
  by_cases hlt : u < ts.length
  · obtain ⟨t, ht⟩ : ∃ t : Nat, t = ts.length - 1 - u := ⟨_, rfl⟩
    have htl : t < ts.length := by omega
    have hti : (ts.length : Int) - 1 - (u : Int) = (t : Int) := by omega
    have hpre := preR_succ htl
    have hmu : ts.length - u = t + 1 := by omega
    have hmu1 : ts.length - (u + 1) = t := by omega
    have hpm := preR_mono (ts := ts) (show t + 1 ≤ ts.length by omega) (Nat.le_refl _)
    have hgl := turnGo_len (ts := ts) (y := y) (by omega) u (by omega)
    have hth := hthl _ (List.getElem_mem htl)
    have hrl := rdsN_le ts[t]
    obtain ⟨ub, uo, rfl, hat⟩ := SlSl.at hrd hl hk (by omega)
    obtain ⟨a', c', hr1, hr2⟩ := hat t htl
    simp only [Nat.mul_one] at hr1
    rw [hti, hmu]
    have k1 : (0 ≤ (t : Int)) = True := eq_true (by omega)
    repeat' first
        | refine EV.seq ?_
        | refine EV.skip ?_
        | refine EV.block ?_
        | (refine EV.reg ?_; (conv => (arg 2; whnf)); simp only [wpS, wpA, wpQL, push_cast, Int.cast_ofNat_Int, reduceIte, Nat.reduceEqDiff, reduceCtorEq, Nat.reduceAdd, Nat.reduceSub, Nat.reduceMul, Int.reduceToNat, Nat.reduceLeDiff, k1])
        | (refine EV.condX rfl (fun h => ?_) (fun h => ?_) <;> try exact dead h)
        | fail
    refine EV.loopTo (fun i : Nat => ([(1, .slice ya y.length yc), (2, pv pb 0), (4, .slice none 0 0), (5, osv ov (turnGo ts y u).length), (6, vi (preR ts (t + 1) : Nat)), (7, vi (preR ts ts.length : Nat)), (8, vi t), (9, vi (cntI ts[t] i)), (10, vi i)], M, (pb, Cl 24 [.slice (some ⟨ub, uo, none⟩) ts.length c]) :: osg 3 ov ((turnGo ts y u).map vi)))
      (fun i => i ≤ ts[t].length) (fun i => ts[t].length - i) 0 rfl (Nat.zero_le _) ?env2 (List.Sublist.refl _) ?_
    case env2 =>
      repeat' first
        | (refine List.forall_mem_cons.2 (And.intro ?_ ?_))
        | (intro _ hnil; cases hnil; done)
        | rfl
        | fail
    intro i hi ih2
    dsimp only at hi ih2 ⊢
    by_cases hit : i < ts[t].length
    · have k2 : ((i : Int) < (ts[t].length : Int)) = True := eq_true (by omega)
      obtain ⟨qb, qo, rfl, hat2⟩ := Sl.at (enc := encOp) (fun _ => rfl) (by decide) hr2 (by omega)
      have hr4 : rd M qb (qo + i * 5) 1 [vi ts[t][i].kind] := (hat2 i hit).part (i := 0) (m := 1) (by omega)
      have hkd := hall _ (List.getElem_mem htl) _ (List.getElem_mem hit)
      have hc := cntI_succ hit
      have hcl := cntI_le ts[t] i
      repeat' first
          | refine EV.seq ?_
          | refine EV.skip ?_
          | refine EV.block ?_
          | refine EV.inBlock ?_
          | (refine EV.reg ?_; (conv => (arg 2; whnf)); simp only [wpS, wpA, wpQL, push_cast, Int.cast_ofNat_Int, reduceIte, Nat.reduceEqDiff, reduceCtorEq, Nat.reduceAdd, Nat.reduceSub, Nat.reduceMul, Int.reduceToNat, Nat.reduceLeDiff, k2])
          | with_reducible assumption
          | (refine condW.merge ?_ (fun hc K' hK => ?_) ?_; rotate_left)
          | (refine EV.condX rfl (fun h => ?_) (fun h => ?_) <;> try exact dead h)
          | (refine And.intro (by omega) ?_)
          | ((first | refine Exists.intro _ (And.intro (rd_M (by assumption)) ?_) | refine Exists.intro _ (Exists.intro _ (Exists.intro _ (And.intro (rd_M (by assumption)) ?_))) | refine xsA rfl ?_ | fail); try simp only [wpS, wpA, wpQL, push_cast, Int.cast_ofNat_Int, reduceIte, Nat.reduceEqDiff, reduceCtorEq, Nat.reduceAdd, Nat.reduceSub, Nat.reduceMul, Int.reduceToNat, Nat.reduceLeDiff, k2])
          | fail
      · have hrd1 : isRd ts[t][i] = true := by
          unfold isRd; rw [Bool.and_eq_true, decide_eq_true_eq, decide_eq_true_eq]; omega
        rw [hrd1, if_pos rfl] at hc
        have hc2 : IntKind.i64.wrap (((cntI ts[t] i : Nat) : Int) + 1) = ((cntI ts[t] (i + 1) : Nat) : Int) := by rw [w64 (by omega) (by omega)]; omega
        refine EV.to (ih2 (i + 1) (by omega) (by omega)) ?_ (List.Sublist.refl _)
        repeat' first
          | (refine List.forall_mem_cons.2 (And.intro ?_ ?_))
          | (intro _ hnil; cases hnil; done)
          | rfl
          | (refine env_w64 rfl (by first | rfl | (push_cast; first | rfl | omega)) (by omega) (by omega); done)
          | fail
      · have hrd1 : isRd ts[t][i] = false := by
          cases hq : isRd ts[t][i] with
          | false => rfl
          | true => unfold isRd at hq; rw [Bool.and_eq_true, decide_eq_true_eq, decide_eq_true_eq] at hq; omega
        rw [hrd1, if_neg (by decide)] at hc
        have hc2 : cntI ts[t] (i + 1) = cntI ts[t] i := by omega
        have ih3 := ih2 (i + 1) (by omega) (by omega)
        rw [hc2] at ih3
        refine EV.to ih3 ?_ (List.Sublist.refl _)
        repeat' first
          | (refine List.forall_mem_cons.2 (And.intro ?_ ?_))
          | (intro _ hnil; cases hnil; done)
          | rfl
          | (refine env_w64 rfl (by first | rfl | (push_cast; first | rfl | omega)) (by omega) (by omega); done)
          | fail
    · have hie : i = ts[t].length := by omega
      have k2 : ((i : Int) < (ts[t].length : Int)) = False := eq_false (by omega)
      subst hie
      rw [cntI_end]
      have hsub : IntKind.i64.wrap (((preR ts (t + 1) : Nat) : Int) - ((rdsN ts[t] : Nat) : Int)) = ((preR ts t : Nat) : Int) := by rw [w64 (by omega) (by omega)]; omega
      have k3 : (((preR ts t : Nat) : Int) < 0) = False := eq_false (by omega)
      have hadd : IntKind.i64.wrap (((preR ts t : Nat) : Int) + ((rdsN ts[t] : Nat) : Int)) = ((preR ts (t + 1) : Nat) : Int) := by rw [w64 (by omega) (by omega)]; omega
      repeat' first
          | refine EV.seq ?_
          | refine EV.skip ?_
          | (refine EV.reg ?_; (conv => (arg 2; whnf)); simp only [wpS, wpA, wpQL, push_cast, Int.cast_ofNat_Int, reduceIte, Nat.reduceEqDiff, reduceCtorEq, Nat.reduceAdd, Nat.reduceSub, Nat.reduceMul, Int.reduceToNat, Nat.reduceLeDiff, k2, hsub, k3, hadd])
          | (refine EV.condX rfl (fun h => ?_) (fun h => ?_) <;> try exact dead h)
          | (refine EV.exit rfl ?_)
          | (refine And.intro (by omega) ?_)
          | ((first | refine Exists.intro _ (Exists.intro _ (Exists.intro _ (And.intro (rd_M (by assumption)) ?_))) | refine xsA rfl ?_ | fail); try simp only [wpS, wpA, wpQL, push_cast, Int.cast_ofNat_Int, reduceIte, Nat.reduceEqDiff, reduceCtorEq, Nat.reduceAdd, Nat.reduceSub, Nat.reduceMul, Int.reduceToNat, Nat.reduceLeDiff, k2, hsub, k3, hadd])
          | fail
      simp only [Option.map_some, onv_some]
      refine ⟨preR ts t, rfl, preR ts (t + 1), rfl, by omega, by omega, Or.inl rfl, ?_⟩
      refine ⟨_, rdS_M (sub_rd hyr (by omega) (by omega) hyc), ok1_sub _ _ _, Or.inl ⟨ov, _, rfl, _, hov, _, PullL.p, by simp only [maxLen]; omega, by omega, fun o2 ho2 _ => ?_⟩⟩
      have hgo : turnGo ts y (u + 1) = turnGo ts y u ++ (y.drop (preR ts t)).take (rdsN ts[t]) := by rw [turnGo, hmu1, List.getElem?_eq_getElem htl, Option.getD_some]
      have hgl2 := turnGo_len (ts := ts) (y := y) (by omega) (u + 1) (by omega)
      rw [hmu1] at hgl2
      rw [hmu] at hgl
      have e1 : (turnGo ts y u).map vi ++ ((y.map vi).drop (preR ts t)).take (preR ts (t + 1) - preR ts t) = (turnGo ts y (u + 1)).map vi := by
        rw [hgo, List.map_append, List.map_take, List.map_drop, show preR ts (t + 1) - preR ts t = rdsN ts[t] by omega]
      have e2 : (turnGo ts y u).length + (preR ts (t + 1) - preR ts t) = (turnGo ts y (u + 1)).length := by omega
      rw [e1, e2] at ho2 ⊢
      have hdec : IntKind.i64.wrap ((t : Int) - 1) = (ts.length : Int) - 1 - ((u : Int) + 1) := by rw [w64 (by omega) (by omega)]; omega
      have ih3 := ih (u + 1, o2) ⟨by dsimp only; omega, ho2⟩ (by dsimp only; omega)
      dsimp only at ih3
      rw [hmu1] at ih3
      simp only [List.cons_append, List.nil_append]
      repeat' first
          | refine EV.inBlock ?_
          | (refine EV.reg ?_; (conv => (arg 2; whnf)); (refine nx ?_; try with_reducible exact ⟨⟩))
          | fail
      refine EV.toS ih3 ?_
      repeat' first
        | (refine List.forall_mem_cons.2 (And.intro ?_ ?_))
        | (intro _ hnil; cases hnil; done)
        | rfl
        | (refine env_w64 rfl (by first | rfl | (push_cast; first | rfl | omega)) (by omega) (by omega); done)
        | fail
  · have hue : u = ts.length := by omega
    subst hue
    have k1 : (0 ≤ (ts.length : Int) - 1 - ((ts.length : Nat) : Int)) = False := eq_false (by omega)
    repeat' first
        | refine EV.seq ?_
        | (refine EV.reg ?_; (conv => (arg 2; whnf)); simp only [wpS, wpA, wpQL, push_cast, Int.cast_ofNat_Int, reduceIte, Nat.reduceEqDiff, reduceCtorEq, Nat.reduceAdd, Nat.reduceSub, Nat.reduceMul, Int.reduceToNat, Nat.reduceLeDiff, k1])
        | (refine EV.condX rfl (fun h => ?_) (fun h => ?_) <;> try exact dead h)
        | (refine EV.exit rfl ?_)
        | fail
    simp only [Option.map_some, onv_some]
    have hgl := turnGo_len (ts := ts) (y := y) (by omega) ts.length (Nat.le_refl _)
    refine ⟨preR ts ts.length, rfl, by omega, by omega, Or.inr rfl, ?_⟩
    refine ⟨_, rdS_M (sub_rd hyr (by omega) (Nat.le_refl _) hyc), ok1_sub _ _ _, Or.inl ⟨ov, _, rfl, _, hov, _, PullL.p, by simp only [maxLen]; omega, by omega, fun o2 ho2 _ => ?_⟩⟩
    have hdone : turnedO ts y = turnGo ts y ts.length ++ (y.drop (preR ts ts.length)).take (y.length - preR ts ts.length) := by
      rw [turnedO, show y.length - 3 = preR ts ts.length by omega, List.take_of_length_le (by rw [List.length_drop]; omega)]
    have e1 : (turnGo ts y ts.length).map vi ++ ((y.map vi).drop (preR ts ts.length)).take (y.length - preR ts ts.length) = (turnedO ts y).map vi := by
      rw [hdone, List.map_append, List.map_take, List.map_drop]
    have e2 : (turnGo ts y ts.length).length + (y.length - preR ts ts.length) = (turnedO ts y).length := by
      rw [hdone, List.length_append, List.length_take, List.length_drop]; omega
    rw [e1, e2] at ho2 ⊢
    simp only [List.cons_append, List.nil_append]
    repeat' first
        | fail
    refine EV.keepS (osg 3 o2 ((turnedO ts y).map vi)) ?_
    refine EV.ret Q65_ok ?_
    simp only [wpS, wpA, wpQL, push_cast, Int.cast_ofNat_Int, reduceIte, Nat.reduceEqDiff, reduceCtorEq, Nat.reduceAdd, Nat.reduceSub, Nat.reduceMul, Int.reduceToNat, Nat.reduceLeDiff, Q65]
    exact ⟨o2, rfl, ho2, rfl⟩

set_option maxHeartbeats 4000000 in
theorem AxiomTurned_c (ts : List (List OpV)) (s : Value) (hs : SlSl M 5 encOp s ts) (hb : Sized ts) : Con Try.prog 5 #[.agg #[s]] M [] fun u _ _ => u = vb true := by
  have hs0 := hs
  obtain ⟨a, c, vs, rfl, hl, hrd, hk⟩ := hs
  refine Con.enter Q62_ok (args := [.agg #[.slice a ts.length c]]) (by simp [Q62]) fun w0 => ?_
  simp only [Q62, argE]
  have hbl := hb.1
  have hm1 : IntKind.i64.wrap ((ts.length : Int) - 1) = (ts.length : Int) - 1 := w64 (by omega) (by omega)
  repeat' first
      | refine EV.seq ?_
      | (refine EV.reg ?_; (conv => (arg 2; whnf)); (refine nx ?_; try with_reducible exact ⟨⟩))
      | (with_reducible intro b; try (refine nx ?_; try with_reducible exact ⟨⟩))
      | fail
  refine Con.callS (G1 := []) awake_c ?_
  rintro v M1 G1 hM1 rfl
  simp only [wpS, wpA, wpQL, push_cast, Int.cast_ofNat_Int, reduceIte, Nat.reduceEqDiff, reduceCtorEq, Nat.reduceAdd, Nat.reduceSub, Nat.reduceMul, Int.reduceToNat, Nat.reduceLeDiff]
  obtain ⟨pb, rfl⟩ : ∃ x, x = b := ⟨_, rfl⟩
  repeat' first
      | refine EV.skip ?_
      | (refine EV.condX rfl (fun h => ?_) (fun h => ?_) <;> try exact dead h)
      | fail
  refine EV.seq ?_
  repeat' first
      | (refine EV.reg ?_; (conv => (arg 2; whnf)); (refine nx ?_; try with_reducible exact ⟨⟩))
      | (with_reducible intro b; try (refine nx ?_; try with_reducible exact ⟨⟩))
      | fail
  obtain ⟨qb, rfl⟩ : ∃ x, x = b := ⟨_, rfl⟩
  refine EV.seq ?_
  have hgt : ∀ (ρ : Env) (i : Nat) (v : Value), get ρ i = some v → get ρ i = some v := fun _ _ _ h => h
  refine EV.thru (fun ρ' M' G' => M' = M1 ∧ ∃ (ov : Vec) (u : Nat), get ρ' 1 = some (pv pb 0) ∧ get ρ' 2 = some (.bool false) ∧ get ρ' 3 = some (pv qb 0) ∧ G' = (qb, Cl 24 [osv ov u]) :: (pb, Cl 24 [.slice a ts.length c]) :: osg 31 ov (vs.reverse.take u) ∧
    osok 1 ov u (vs.reverse.take u) ∧ u = if ts.length < 4 then ts.length else 0) ?_ ?_
  · intro k' hk'
    repeat' first
        | refine EV.seq ?_
        | refine EV.block ?_
        | (refine EV.reg ?_; (conv => (arg 2; whnf)); simp only [wpS, wpA, wpQL, push_cast, Int.cast_ofNat_Int, reduceIte, Nat.reduceEqDiff, reduceCtorEq, Nat.reduceAdd, Nat.reduceSub, Nat.reduceMul, Int.reduceToNat, Nat.reduceLeDiff, hm1])
        | (refine xsA rfl ?_; try simp only [wpS, wpA, wpQL, push_cast, Int.cast_ofNat_Int, reduceIte, Nat.reduceEqDiff, reduceCtorEq, Nat.reduceAdd, Nat.reduceSub, Nat.reduceMul, Int.reduceToNat, Nat.reduceLeDiff, hm1])
        | fail
    rw [show ((ts.length : Int) - 1) = (ts.length : Int) - 1 - ((0 : Nat) : Int) by omega]
    refine EV.reS (G' := [(qb, Cl 24 [.slice none 0 0]), (pb, Cl 24 [.slice a ts.length c])]) ?_
    refine EV.loopTo (fun x : Nat × Vec => ([(1, pv pb 0), (2, .bool false), (3, pv qb 0), (4, vi ((ts.length : Int) - 1 - x.1))], M1, (qb, Cl 24 [osv x.2 x.1]) :: (pb, Cl 24 [.slice a ts.length c]) :: osg 31 x.2 (vs.reverse.take x.1)))
      (fun x => x.1 ≤ ts.length ∧ (4 ≤ ts.length → x.1 = 0) ∧ osok 1 x.2 x.1 (vs.reverse.take x.1)) (fun x => ts.length - x.1) (0, none) rfl ⟨Nat.zero_le _, fun _ => rfl, rfl, rfl⟩ ?env1 (List.Sublist.refl _) ?_
    case env1 =>
      repeat' first
        | (refine List.forall_mem_cons.2 (And.intro ?_ ?_))
        | (intro _ hnil; cases hnil; done)
        | rfl
        | fail
    rintro ⟨u, ov⟩ ⟨hu, hu4, hov⟩ ih
    dsimp only at hu hu4 hov ih ⊢
    by_cases hgo : u < ts.length ∧ ts.length < 4
    · obtain ⟨g1, g2⟩ := hgo
      obtain ⟨t, ht⟩ : ∃ t : Nat, t = ts.length - 1 - u := ⟨_, rfl⟩
      have htl : t < ts.length := by omega
      have hti : (ts.length : Int) - 1 - (u : Int) = (t : Int) := by omega
      have h1 : rdS M1 1 a vs.length (vs.flatMap fun v => [v]) := by rw [flatMap_single, hl]; exact hrd.mono hM1
      obtain ⟨ub, uo, rfl, hat⟩ := Sl.at (sz := 1) (enc := fun v => [v]) (fun _ => rfl) (by decide) h1 (by omega)
      have hr1 := hat t (by omega)
      obtain ⟨a', c', e', hr2⟩ := hk t (by omega) htl
      rw [e'] at hr1
      simp only [Nat.mul_one] at hr1
      have hrev : vs.reverse.take (u + 1) = vs.reverse.take u ++ [.slice a' ts[t].length c'] := by
        rw [List.take_succ_eq_append_getElem (by rw [List.length_reverse]; omega), List.getElem_reverse]
        congr 2
        rw [← e']; congr 1; omega
      rw [hti]
      have k1 : (0 ≤ (t : Int)) = True := eq_true (by omega)
      have k2 : ((ts.length : Int) < 4) = True := eq_true (by omega)
      repeat' first
          | refine EV.seq ?_
          | refine EV.skip ?_
          | refine EV.block ?_
          | (refine EV.reg ?_; (conv => (arg 2; whnf)); simp only [wpS, wpA, wpQL, push_cast, Int.cast_ofNat_Int, reduceIte, Nat.reduceEqDiff, reduceCtorEq, Nat.reduceAdd, Nat.reduceSub, Nat.reduceMul, Int.reduceToNat, Nat.reduceLeDiff, k1, k2, decide_true])
          | with_reducible assumption
          | (refine condW.merge ?_ (fun hc K' hK => ?_) ?_; rotate_left)
          | (refine EV.condX rfl (fun h => ?_) (fun h => ?_) <;> try exact dead h)
          | (refine xsA rfl ?_; try simp only [wpS, wpA, wpQL, push_cast, Int.cast_ofNat_Int, reduceIte, Nat.reduceEqDiff, reduceCtorEq, Nat.reduceAdd, Nat.reduceSub, Nat.reduceMul, Int.reduceToNat, Nat.reduceLeDiff, k1, k2, decide_true])
          | fail
      refine EV.any (t := Q62_6) [(qb, Cl 24 [osv ov u]), (pb, Cl 24 [.slice (some ⟨ub, uo, none⟩) ts.length c])] (List.Sublist.cons_cons _ (List.Sublist.cons_cons _ (List.nil_sublist _))) ?_
      simp only [norm_cons, norm_nil, get_cons, get_nil, reduceIte, Nat.reduceEqDiff]
      repeat' first
          | ((first | refine wQ_op (by first | with_reducible assumption | rfl) (fun lq hlq => ?_) | refine wQ_nil (by first | with_reducible assumption | rfl) ?_ | fail); try (refine nz ?_; try with_reducible exact ⟨⟩))
          | refine wA_q (by first | with_reducible assumption | rfl) (fun lq tq hlq htq => ?_)
          | (refine wA_s (by first | with_reducible assumption | rfl) (fun tq htq => ?_) (fun tq htq => ?_) <;> try (refine nz ?_; try with_reducible exact ⟨⟩))
          | (refine wA_sT (by first | with_reducible assumption | rfl) (fun tq htq => ?_) (fun tq htq => ?_) <;> try (refine nz ?_; try with_reducible exact ⟨⟩))
          | exact wA_no (by first | with_reducible assumption | rfl)
          | (refine And.intro (by omega) ?_)
          | ((first | with_reducible intro b | refine Exists.intro _ (Exists.intro _ (Exists.intro _ (And.intro (rd_M (by assumption)) ?_))) | refine xsA rfl ?_ | refine And.intro (PHeap.le_refl _) (And.intro (mem_of_sub ?_) ?_); focus ((repeat' first | exact List.Sublist.refl _ | exact List.nil_sublist _ | exact List.sublist_append_left _ _ | refine List.Sublist.cons_cons _ ?_ | refine List.Sublist.append_left ?_ _ | refine List.sublist_append_of_sublist_right ?_ | refine List.Sublist.cons _ ?_); done) | fail); try (refine nz ?_; try with_reducible exact ⟨⟩))
          | fail
      refine ⟨[.slice a' ts[t].length c'], Or.inr ⟨_, 0, rfl, rd_at (T := 31) (cs := [.slice a' ts[t].length c']) (by simp) rfl (by simp)⟩, by simp [ok1_cons, ok1_nil, Value.oneCell'], Or.inl ⟨ov, _, rfl, _, hov, _, PullL.p, by simp only [maxLen]; omega, by omega, fun o2 ho2 _ => ?_⟩⟩
      simp only [List.cons_append, List.append_assoc]
      repeat' first
          | ((first | refine wQ_op (by first | with_reducible assumption | rfl) (fun lq hlq => ?_) | refine wQ_nil (by first | with_reducible assumption | rfl) ?_ | fail); try (refine nz ?_; try with_reducible exact ⟨⟩))
          | refine wA_q (by first | with_reducible assumption | rfl) (fun lq tq hlq htq => ?_)
          | (refine wA_sT (by first | with_reducible assumption | rfl) (fun tq htq => ?_) (fun tq htq => ?_) <;> try (refine nz ?_; try with_reducible exact ⟨⟩))
          | exact wA_no (by first | with_reducible assumption | rfl)
          | refine wA_fin (by first | with_reducible assumption | rfl) ?_
          | (refine xw ?_; try (refine nz ?_; try with_reducible exact ⟨⟩))
          | fail
      have hdec : IntKind.i64.wrap ((t : Int) - 1) = (ts.length : Int) - 1 - ((u : Int) + 1) := by rw [w64 (by omega) (by omega)]; omega
      rw [← hrev] at ho2 ⊢
      have ih3 := ih (u + 1, o2) ⟨by dsimp only; omega, fun h => by omega, ho2⟩ (by dsimp only; omega)
      dsimp only at ih3
      repeat' first
          | refine EV.inBlock ?_
          | (refine EV.reg ?_; (conv => (arg 2; whnf)); (refine nx ?_; try with_reducible exact ⟨⟩))
          | fail
      refine EV.toS ih3 ?_
      repeat' first
        | (refine List.forall_mem_cons.2 (And.intro ?_ ?_))
        | (intro _ hnil; cases hnil; done)
        | rfl
        | (refine env_w64 rfl (by first | rfl | (push_cast; first | rfl | omega)) (by omega) (by omega); done)
        | fail
    · by_cases h4 : ts.length < 4
      · have hue : u = ts.length := by omega
        subst hue
        have k1 : (0 ≤ (ts.length : Int) - 1 - ((ts.length : Nat) : Int)) = False := eq_false (by omega)
        repeat' first
            | refine EV.seq ?_
            | (refine EV.reg ?_; (conv => (arg 2; whnf)); simp only [wpS, wpA, wpQL, push_cast, Int.cast_ofNat_Int, reduceIte, Nat.reduceEqDiff, reduceCtorEq, Nat.reduceAdd, Nat.reduceSub, Nat.reduceMul, Int.reduceToNat, Nat.reduceLeDiff, k1, decide_false])
            | with_reducible assumption
            | (refine condW.merge ?_ (fun hc K' hK => ?_) ?_; rotate_left)
            | (refine EV.condX rfl (fun h => ?_) (fun h => ?_) <;> try exact dead h)
            | (refine EV.exit rfl ?_)
            | (refine xsA rfl ?_; try simp only [wpS, wpA, wpQL, push_cast, Int.cast_ofNat_Int, reduceIte, Nat.reduceEqDiff, reduceCtorEq, Nat.reduceAdd, Nat.reduceSub, Nat.reduceMul, Int.reduceToNat, Nat.reduceLeDiff, k1, decide_false])
            | fail
        refine hk' _ _ _ ⟨rfl, ov, ts.length, rfl, rfl, rfl, rfl, hov, by rw [if_pos h4]⟩
      · have hu0 := hu4 (by omega)
        subst hu0
        have k1 : (0 ≤ (ts.length : Int) - 1 - ((0 : Nat) : Int)) = True := eq_true (by omega)
        have k2 : ((ts.length : Int) < 4) = False := eq_false (by omega)
        repeat' first
            | refine EV.seq ?_
            | (refine EV.reg ?_; (conv => (arg 2; whnf)); simp only [wpS, wpA, wpQL, push_cast, Int.cast_ofNat_Int, reduceIte, Nat.reduceEqDiff, reduceCtorEq, Nat.reduceAdd, Nat.reduceSub, Nat.reduceMul, Int.reduceToNat, Nat.reduceLeDiff, k1, k2, decide_true, decide_false])
            | with_reducible assumption
            | (refine condW.merge ?_ (fun hc K' hK => ?_) ?_; rotate_left)
            | (refine EV.condX rfl (fun h => ?_) (fun h => ?_) <;> try exact dead h)
            | (refine EV.exit rfl ?_)
            | (refine xsA rfl ?_; try simp only [wpS, wpA, wpQL, push_cast, Int.cast_ofNat_Int, reduceIte, Nat.reduceEqDiff, reduceCtorEq, Nat.reduceAdd, Nat.reduceSub, Nat.reduceMul, Int.reduceToNat, Nat.reduceLeDiff, k1, k2, decide_true, decide_false])
            | fail
        refine hk' _ _ _ ⟨rfl, ov, 0, rfl, rfl, rfl, rfl, hov, by rw [if_neg h4]⟩
  rintro ρ2 M2 _ ⟨rfl, ov, u, e1, e2, e3, rfl, hov, hu⟩
  refine EV.to (ρ' := [(1, pv pb 0), (2, .bool false), (3, pv qb 0)]) ?_ (by simp only [List.forall_mem_cons]; exact ⟨e1, e2, e3, fun _ h => nomatch h⟩) (List.Sublist.refl _)
  clear e1 e2 e3 hgt
  obtain ⟨tsq, htsq⟩ : ∃ q : List (List OpV), q = if ts.length < 4 then ts.reverse else [] := ⟨_, rfl⟩
  refine EV.keepS [(qb, Cl 24 [osv ov u]), (pb, Cl 24 [.slice a ts.length c])] ?_
  generalize hR : M2.add _ = N
  have hMN : M2.le N := hR ▸ PHeap.le_add _ _
  have hro : rdS N 1 (oad ov) u (vs.reverse.take u) := hR ▸ rd_osg (T := 31) hov (fun q hq => by simp [hq])
  clear hR
  have hsN := hs0.mono (PHeap.le_trans hM1 hMN)
  have hsq : SlSl N 5 encOp (osv ov u) tsq := by
    by_cases h4 : ts.length < 4
    · rw [if_pos h4] at hu htsq
      subst hu htsq
      rw [List.take_of_length_le (by rw [List.length_reverse]; omega)] at hro
      refine ⟨oad ov, ocap ov, vs.reverse, by rw [List.length_reverse], by rw [List.length_reverse, List.length_reverse, hl], by rw [List.length_reverse]; exact hro, fun i h1 h2 => ?_⟩
      rw [List.length_reverse] at h1 h2
      rw [List.getElem_reverse, List.getElem_reverse]
      have e0 : vs.length - 1 - i = ts.length - 1 - i := by omega
      simp only [e0]
      exact (hk _ _ _).mono (PHeap.le_trans hM1 hMN)
    · rw [if_neg h4] at hu htsq
      subst hu htsq
      exact ⟨oad ov, ocap ov, [], rfl, rfl, .inl ⟨rfl, rfl⟩, fun i h1 _ => absurd h1 (Nat.not_lt_zero _)⟩
  have hbq : Sized tsq := by
    rw [htsq]; split
    · exact ⟨by rw [List.length_reverse]; exact hb.1, fun t ht => hb.2 t (by simpa using ht)⟩
    · exact ⟨Nat.zero_le _, fun t ht => nomatch ht⟩
  have hckq : checkP ts ≠ 0 → checkP tsq ≠ 0 := fun h => by
    rw [htsq]; split
    · rw [check_rev]; exact h
    · decide
  repeat' first
      | refine EV.seq ?_
      | (refine EV.reg ?_; (conv => (arg 2; whnf)); (refine nx ?_; try with_reducible exact ⟨⟩))
      | (refine xrA rfl ?_; try (refine nx ?_; try with_reducible exact ⟨⟩))
      | fail
  refine Con.callS (G1 := []) (ax_Outcomes_c ts _ hsN hb) ?_
  rintro v M3 G3 hM3 (⟨hne, rfl⟩ | ⟨hck, s1, outs, rfl, ho, hs1⟩)
  · simp only [wpS, wpA, wpQL, push_cast, Int.cast_ofNat_Int, reduceIte, Nat.reduceEqDiff, reduceCtorEq, Nat.reduceAdd, Nat.reduceSub, Nat.reduceMul, Int.reduceToNat, Nat.reduceLeDiff]
    repeat' first
        | refine EV.seq ?_
        | (refine EV.reg ?_; (conv => (arg 2; whnf)); (refine nx ?_; try with_reducible exact ⟨⟩))
        | (refine xrA rfl ?_; try (refine nx ?_; try with_reducible exact ⟨⟩))
        | fail
    refine Con.callS (G1 := []) (ax_Outcomes_c tsq _ (hsq.mono hM3) hbq) ?_
    rintro v M4 G4 hM4 (⟨hne2, rfl⟩ | ⟨hck2, _⟩)
    · have h34 := PHeap.le_trans hM3 hM4
      simp only [wpS, wpA, wpQL, push_cast, Int.cast_ofNat_Int, reduceIte, Nat.reduceEqDiff, reduceCtorEq, Nat.reduceAdd, Nat.reduceSub, Nat.reduceMul, Int.reduceToNat, Nat.reduceLeDiff]
      repeat' first
          | refine EV.seq ?_
          | (refine EV.reg ?_; (conv => (arg 2; whnf)); (refine nx ?_; try with_reducible exact ⟨⟩))
          | (refine xrA rfl ?_; try (refine nx ?_; try with_reducible exact ⟨⟩))
          | fail
      refine Con.callS (G1 := []) (ax_Count_c ts _ (hsN.mono h34) hb) ?_
      rintro v M5 G5 hM5 rfl
      have h35 := PHeap.le_trans h34 hM5
      simp only [wpS, wpA, wpQL, push_cast, Int.cast_ofNat_Int, reduceIte, Nat.reduceEqDiff, reduceCtorEq, Nat.reduceAdd, Nat.reduceSub, Nat.reduceMul, Int.reduceToNat, Nat.reduceLeDiff]
      repeat' first
          | refine EV.seq ?_
          | (refine EV.reg ?_; (conv => (arg 2; whnf)); (refine nx ?_; try with_reducible exact ⟨⟩))
          | (refine xrA rfl ?_; try (refine nx ?_; try with_reducible exact ⟨⟩))
          | fail
      refine Con.callS (G1 := []) (ax_Count_c tsq _ (hsq.mono h35) hbq) ?_
      rintro v M6 G6 hM6 rfl
      simp only [wpS, wpA, wpQL, push_cast, Int.cast_ofNat_Int, reduceIte, Nat.reduceEqDiff, reduceCtorEq, Nat.reduceAdd, Nat.reduceSub, Nat.reduceMul, Int.reduceToNat, Nat.reduceLeDiff]
      repeat' first
          | refine EV.seq ?_
          | (refine EV.reg ?_; (conv => (arg 2; whnf)); simp only [wpS, wpA, wpQL, push_cast, Int.cast_ofNat_Int, reduceIte, Nat.reduceEqDiff, reduceCtorEq, Nat.reduceAdd, Nat.reduceSub, Nat.reduceMul, Int.reduceToNat, Nat.reduceLeDiff, hne, hne2])
          | (refine EV.condX rfl (fun h => ?_) (fun h => ?_) <;> try exact dead h)
          | fail
      refine EV.ret Q62_ok ?_
      simp only [wpS, wpA, wpQL, push_cast, Int.cast_ofNat_Int, reduceIte, Nat.reduceEqDiff, reduceCtorEq, Nat.reduceAdd, Nat.reduceSub, Nat.reduceMul, Int.reduceToNat, Nat.reduceLeDiff, Q62]
      rfl
    · exact absurd hck2 (hckq hne)
  have hsm := checkP_small hck
  rw [if_pos (by omega)] at htsq
  have hck2 : checkP tsq = 0 := by rw [htsq, check_rev]; exact hck
  simp only [wpS, wpA, wpQL, push_cast, Int.cast_ofNat_Int, reduceIte, Nat.reduceEqDiff, reduceCtorEq, Nat.reduceAdd, Nat.reduceSub, Nat.reduceMul, Int.reduceToNat, Nat.reduceLeDiff]
  repeat' first
      | refine EV.seq ?_
      | (refine EV.reg ?_; (conv => (arg 2; whnf)); (refine nx ?_; try with_reducible exact ⟨⟩))
      | (refine xrA rfl ?_; try (refine nx ?_; try with_reducible exact ⟨⟩))
      | fail
  refine Con.callS (G1 := []) (ax_Outcomes_c tsq _ (hsq.mono hM3) hbq) ?_
  rintro v M4 G4 hM4 (⟨hne2, rfl⟩ | ⟨_, s2, outs2, rfl, ho2, hs2⟩)
  · exact absurd hck2 hne2
  have h34 := PHeap.le_trans hM3 hM4
  simp only [wpS, wpA, wpQL, push_cast, Int.cast_ofNat_Int, reduceIte, Nat.reduceEqDiff, reduceCtorEq, Nat.reduceAdd, Nat.reduceSub, Nat.reduceMul, Int.reduceToNat, Nat.reduceLeDiff]
  repeat' first
      | refine EV.seq ?_
      | (refine EV.reg ?_; (conv => (arg 2; whnf)); (refine nx ?_; try with_reducible exact ⟨⟩))
      | (refine xrA rfl ?_; try (refine nx ?_; try with_reducible exact ⟨⟩))
      | fail
  refine Con.callS (G1 := []) (ax_Count_c ts _ (hsN.mono h34) hb) ?_
  rintro v M5 G5 hM5 rfl
  have h35 := PHeap.le_trans h34 hM5
  simp only [wpS, wpA, wpQL, push_cast, Int.cast_ofNat_Int, reduceIte, Nat.reduceEqDiff, reduceCtorEq, Nat.reduceAdd, Nat.reduceSub, Nat.reduceMul, Int.reduceToNat, Nat.reduceLeDiff]
  repeat' first
      | refine EV.seq ?_
      | (refine EV.reg ?_; (conv => (arg 2; whnf)); (refine nx ?_; try with_reducible exact ⟨⟩))
      | (refine xrA rfl ?_; try (refine nx ?_; try with_reducible exact ⟨⟩))
      | fail
  refine Con.callS (G1 := []) (ax_Count_c tsq _ (hsq.mono h35) hbq) ?_
  rintro v M6 G6 hM6 rfl
  have hcnt : countP tsq = countP ts := by unfold countP; rw [hck, hck2, htsq, turn_execs hck]
  have ho2' : Outs (evsOf ts.reverse) outs2 := htsq ▸ ho2
  have hlen := turn_len hck ho ho2'
  have hle : ((outs.length : Int) = (outs2.length : Int)) = True := eq_true (by omega)
  have hp1 := evs_pok hck
  have hp2 := evs_pok hck2
  have hfew := outs_few hp1 (evs_mono ts) (evs_few hck) ho.nodup (fun x hx => (outs_iff ho).1 hx)
  have hout2l : ∀ x ∈ outs2, x.length ≤ 281474976710656 := fun x hx => by
    obtain ⟨r, a, b, c, rfl, hr⟩ := isOut_len hp2 ((outs_iff ho2).1 hx)
    have := hp2.len
    rw [List.length_append]; simp; omega
  obtain ⟨ua, uc, us, rfl, hul, hurd, huk⟩ := hs1
  obtain ⟨ma, mc, ms, rfl, hml, hmrd, hmk⟩ := hs2.sl
  simp only [wpS, wpA, wpQL, push_cast, Int.cast_ofNat_Int, reduceIte, Nat.reduceEqDiff, reduceCtorEq, Nat.reduceAdd, Nat.reduceSub, Nat.reduceMul, Int.reduceToNat, Nat.reduceLeDiff]
  repeat' first
      | refine EV.seq ?_
      | refine EV.skip ?_
      | refine EV.block ?_
      | (refine EV.reg ?_; (conv => (arg 2; whnf)); simp only [wpS, wpA, wpQL, push_cast, Int.cast_ofNat_Int, reduceIte, Nat.reduceEqDiff, reduceCtorEq, Nat.reduceAdd, Nat.reduceSub, Nat.reduceMul, Int.reduceToNat, Nat.reduceLeDiff, hck, hck2, hcnt, hle])
      | with_reducible assumption
      | (refine condW.merge ?_ (fun hc K' hK => ?_) ?_; rotate_left)
      | (refine EV.condX rfl (fun h => ?_) (fun h => ?_) <;> try exact dead h)
      | fail
  · exfalso; simp at h
  refine EV.reS (G' := [(pb, Cl 24 [.slice a ts.length c])]) ?_
  have hN6 := PHeap.le_trans h35 hM6
  have hsT := hsN.mono hN6
  refine EV.loopTo (fun i : Nat => ([(1, pv pb 0), (2, .bool false), (5, .slice ua outs.length uc), (7, .slice ma outs2.length mc), (13, vi i)], M6, [(pb, Cl 24 [.slice a ts.length c])])) (fun i => i ≤ outs.length) (fun i => outs.length - i) 0 rfl (Nat.zero_le _) ?env3 (List.Sublist.refl _) ?_
  case env3 =>
    repeat' first
      | (refine List.forall_mem_cons.2 (And.intro ?_ ?_))
      | (intro _ hnil; cases hnil; done)
      | rfl
      | fail
  intro i hi ih
  dsimp only at hi ih ⊢
  repeat' first
      | refine EV.seq ?_
      | refine EV.skip ?_
      | refine EV.block ?_
      | (refine EV.reg ?_; (conv => (arg 2; whnf)); (refine nx ?_; try with_reducible exact ⟨⟩))
      | (refine EV.condX rfl (fun h => ?_) (fun h => ?_) <;> try exact dead h)
      | (refine EV.exit rfl ?_)
      | fail
  · have hi' : i < outs.length := by omega
    obtain ⟨ub, uo, rfl, hat⟩ := SlSlC.at hurd hul huk (by omega)
    obtain ⟨a', c', hr1, hcc, hr2⟩ := hat i hi'
    have h46 := PHeap.le_trans hM4 (PHeap.le_trans hM5 hM6)
    have hr1 := hr1.mono h46
    have hr2 := hr2.mono h46
    simp only [Nat.mul_one] at hr1
    have hyo := (outs_iff ho).1 (List.getElem_mem hi')
    have hyl := isOut_len2 hck hyo
    have hyin : turnedO ts outs[i] ∈ outs2 := (outs_iff ho2').2 (turn_out hck hyo).1
    have htl := isOut_len2 hck2 ((outs_iff ho2).1 hyin)
    obtain ⟨_, _, _, _, hsh, hrl⟩ := isOut_len hp1 hyo
    have hyl2 : outs[i].length < 1000000 := by rw [hsh, List.length_append]; have := hp1.len; simp; omega
    obtain ⟨_, _, _, _, hsh2, hrl2⟩ := isOut_len hp2 ((outs_iff ho2).1 hyin)
    have htl2 : (turnedO ts outs[i]).length < 1000000 := by rw [hsh2, List.length_append]; have := hp2.len; simp; omega
    have hturn := fun G => r_turned_c (M := M6.add G) ts (.slice a ts.length c) (hsT.mono (PHeap.le_add _ _)) hck outs[i] (.slice a' outs[i].length c') ⟨a', c', rfl, hcc, hr2.mono (PHeap.le_add _ _)⟩ hyl hyl2
    have hwi : ∀ (o1 : Vec) (G : Own), osok 1 o1 (turnedO ts outs[i]).length ((turnedO ts outs[i]).map vi) → (∀ q ∈ osg 3 o1 ((turnedO ts outs[i]).map vi), q ∈ G) → ConQ Try.prog 12 #[.slice ma outs2.length mc, osv o1 (turnedO ts outs[i]).length] (M6.add G) (vb true) := fun o1 G hok hG => by
      have := r1_Within_q (M := M6.add G) outs2 (turnedO ts outs[i]) (.slice ma outs2.length mc) (osv o1 (turnedO ts outs[i]).length) ⟨ma, mc, ms, rfl, hml, (hmrd.mono (PHeap.le_trans hM5 hM6)).mono (PHeap.le_add _ _), fun j a b => ((hmk j a b).mono (PHeap.le_trans hM5 hM6)).mono (PHeap.le_add _ _)⟩
        ⟨oad o1, ocap o1, rfl, by rw [flatMap_ei]; exact rd_osg hok hG⟩ ho2.1 (by omega) (by omega) hout2l
      rwa [decide_eq_true hyin] at this
    refine EV.any (t := Q62_18) [(pb, Cl 24 [.slice a ts.length c])] (List.Sublist.refl _) ?_
    simp only [norm_cons, norm_nil, get_cons, get_nil, reduceIte, Nat.reduceEqDiff]
    repeat' first
        | ((first | refine wQ_op (by first | with_reducible assumption | rfl) (fun lq hlq => ?_) | refine wQ_nil (by first | with_reducible assumption | rfl) ?_ | fail); try (refine nz ?_; try with_reducible exact ⟨⟩))
        | refine wA_q (by first | with_reducible assumption | rfl) (fun lq tq hlq htq => ?_)
        | ((with_reducible refine Con.callN (hturn _) ?_) ;  rintro v1 M7 G7 ⟨o1, rfl, ho1, rfl⟩; try (refine nz ?_; try with_reducible exact ⟨⟩))
        | (refine wA_s (by first | with_reducible assumption | rfl) (fun tq htq => ?_) (fun tq htq => ?_) <;> try (refine nz ?_; try with_reducible exact ⟨⟩))
        | (refine wA_sT (by first | with_reducible assumption | rfl) (fun tq htq => ?_) (fun tq htq => ?_) <;> try (refine nz ?_; try with_reducible exact ⟨⟩))
        | exact wA_no (by first | with_reducible assumption | rfl)
        | (refine And.intro (by omega) ?_)
        | ((first | refine Exists.intro _ (Exists.intro _ (Exists.intro _ (And.intro (rd_M (by assumption)) ?_))) | refine xrA rfl ?_ | refine And.intro (PHeap.le_refl _) (And.intro (mem_of_sub ?_) ?_); focus ((repeat' first | exact List.Sublist.refl _ | exact List.nil_sublist _ | exact List.sublist_append_left _ _ | refine List.Sublist.cons_cons _ ?_ | refine List.Sublist.append_left ?_ _ | refine List.sublist_append_of_sublist_right ?_ | refine List.Sublist.cons _ ?_); done) | fail); try (refine nz ?_; try with_reducible exact ⟨⟩))
        | fail
    refine ConQ.call (hwi o1 _ ho1 (fun q hq => by simp [hq])) ?_
    repeat' first
        | ((first | refine wQ_op (by first | with_reducible assumption | rfl) (fun lq hlq => ?_) | refine wQ_nil (by first | with_reducible assumption | rfl) ?_ | fail); try (refine nz ?_; try with_reducible exact ⟨⟩))
        | refine wA_q (by first | with_reducible assumption | rfl) (fun lq tq hlq htq => ?_)
        | refine wA_fin (by first | with_reducible assumption | rfl) ?_
        | fail
    repeat' first
        | refine EV.skip ?_
        | refine EV.inBlock ?_
        | (refine EV.reg ?_; (conv => (arg 2; whnf)); (refine nx ?_; try with_reducible exact ⟨⟩))
        | (refine EV.condX rfl (fun h => ?_) (fun h => ?_) <;> try exact dead h)
        | fail
    refine EV.to (ih (i + 1) (by omega) (by omega)) ?_ (List.Sublist.cons_cons _ (List.nil_sublist _))
    repeat' first
      | (refine List.forall_mem_cons.2 (And.intro ?_ ?_))
      | (intro _ hnil; cases hnil; done)
      | rfl
      | (refine env_w64 rfl (by first | rfl | (push_cast; first | rfl | omega)) (by omega) (by omega); done)
      | fail
  · refine EV.ret Q62_ok ?_
    simp only [wpS, wpA, wpQL, push_cast, Int.cast_ofNat_Int, reduceIte, Nat.reduceEqDiff, reduceCtorEq, Nat.reduceAdd, Nat.reduceSub, Nat.reduceMul, Int.reduceToNat, Nat.reduceLeDiff, Q62]

end
end Go.EV

namespace Go.Proofs.Ytmgnpoleilcjoaa.axiomTurned
open Go.ChangeShapes Go.WideShapes Go.ChangeAt Go.RowKit Go.EV
set_option linter.unusedVariables false

theorem own : ownKnob Try.prog.godebug = none := by kernel_rfl

set_option maxRecDepth 100000 in
theorem lifted (os : Os) (started : os.Started) (H : Type) (enc : TypeId × Value → H) :
    ReturnsInHanded {} Try.checked os 5 .any (Rows.axiomTurnedSpec.pre6 enc Try.prog Try.f5 Rows.axiomTurnedRow.domain false) (Rows.axiomTurnedSpec.post enc Try.prog Try.f5 false true false false) := by
  refine returnsInHanded_of_change_shaped (C := Try.checked) own started (by kernel_rfl) Try.func5
    (ChangeSpec.witness6 (enc := enc) (C := Try.checked) false ⟨#[], #[.agg #[.slice none 0 0]], []⟩ 8 (by kernel_rfl) (by kernel_rfl) (by kernel_rfl) (by kernel_rfl)) ?_
  intro W base args ds gs before hval0 hW hcnd hwt _ _
  have hval : ∀ (j : Nat) t v, Try.f5.params[j]? = some t → args[j]? = some v → Value.okWide Try.prog W .any base t v := hval0
  have hW' := hW
  obtain ⟨p, q, hA0, hV, rfl, hfz, hnd⟩ := hW
  have hA : DataW.TrodAll enc Try.prog W 0 (fun _ => true) true Try.f5.params.toList args.toList ds p := hA0
  have hA1 := hA
  rw [Try.params5] at hA hval
  obtain ⟨v0, vs0, d0, ds0, p0, q0, hargs, rfl, rfl, h0, r0⟩ := trodAll_cons hA
  obtain ⟨rfl, rfl, rfl⟩ := trodAll_nil r0
  obtain rfl : args = #[v0] := by cases args; simp_all
  obtain ⟨rfl, rfl⟩ := trodVars_none hV
  have k0 := hval 0 24 v0 rfl rfl
  simp only [Value.okWide, Try.underlying24] at k0
  obtain ⟨cs0, rfl, _, _⟩ := k0
  obtain ⟨m0, h0⟩ := h0
  have hwt2 : (DataW.weightsEach Try.prog [24] [d0]).all (· ≤ reachBytes) = true := hwt
  simp only [DataW.weightsEach, List.all_append, Bool.and_eq_true] at hwt2
  obtain ⟨hw0, _⟩ := hwt2
  obtain ⟨s, ts, hcs, hs, hb, hb2⟩ := litmus_in h0 hw0
  have hcs2 : cs0 = #[s] := by
    have : cs0.toList = [s] := hcs
    exact Array.ext' this
  subst hcs2
  have hrb : reachBytes ≤ 140737488355328 := by decide
  refine (Con.at2 (AxiomTurned_c ts s hs ⟨by omega, fun t ht => by have := hb2 t ht; omega⟩)).mono fun e W' hX => ?_
  obtain ⟨v, rfl, ⟨_, _, rfl⟩, hk, hfr⟩ := hX
  have hlt := hW'.lt
  exact ⟨_, rfl, post_of_kept (pv := []) hW' (fun _ _ _ => (trodAll_cons_mk (shut_bool Try.underlying4 _) trodAll_mk0)) (fun sp hsp => trodAll_kept kids rows_pos' hfr (by rw [Try.params5]; exact of_decide_eq_true (by kernel_rfl)) hA1 (fun r hr => hlt r (by simpa using hr)) (fun r hr => hsp r (by simpa using hr))) (fun _ _ => rfl) rfl hk⟩

theorem over : Rows.axiomTurnedRow.holds Try.pinned (OpenSpec.ofChange Rows.axiomTurnedSpec) :=
  OpenClaim.holds_of_wide 5 Try.f5 rfl rfl rfl rfl rfl rfl rfl ⟨rfl, rfl, rfl, rfl, rfl⟩ rfl rfl rfl rfl rfl (by kernel_rfl) Try.func5 (by kernel_rfl)
    (of_decide_eq_true (by kernel_rfl)) (by unfold Func.isWrapper; first | (rw [if_pos (by decide +kernel)]; kernel_rfl) | (rw [if_neg (by decide +kernel)]; exact ⟨rfl, rfl⟩))
    (fun os started H enc _ => lifted os started H enc)

/-- The statement. -/
theorem proved : Rows.AxiomTurnedSaid :=
  over
#print axioms proved
end Go.Proofs.Ytmgnpoleilcjoaa.axiomTurned
