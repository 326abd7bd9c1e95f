/- The plain law of executions: an execution of a program seen in another one. The plain law: locations renamed. Locations renamed. With locations renamed the outcomes are the same: the statement. -/
import Derived.Test.YtmgnpoleilcjoaaVPaf
set_option maxRecDepth 8000
set_option linter.unusedSimpArgs false
set_option linter.unusedVariables false
set_option linter.unusedSectionVars false
namespace Go.EV
open Go.Proofs

/-! ### One ahead of another in a list -/
theorem bef_of_idx {α : Type} : ∀ (l : List α) (i j : Nat) (hij : i < j) (hj : j < l.length), List.Sublist [l[i]'(by omega), l[j]] l
  | x :: l, 0, j + 1, _, hj => by
    simp only [List.getElem_cons_zero, List.getElem_cons_succ]
    exact List.Sublist.cons_cons _ (List.singleton_sublist.2 (List.getElem_mem _))
  | x :: l, i + 1, j + 1, hij, hj => by
    simp only [List.getElem_cons_succ]
    exact List.Sublist.cons _ (bef_of_idx l i j (by omega) (by simpa using hj))
theorem idx_of_bef {α : Type} {a b : α} : ∀ {l : List α}, List.Sublist [a, b] l → ∃ (i j : Nat) (hij : i < j) (hj : j < l.length), l[i]'(by omega) = a ∧ l[j] = b
  | [], h => by cases h
  | x :: l, h => by
    cases h with
    | cons _ h =>
      obtain ⟨i, j, hij, hj, h1, h2⟩ := idx_of_bef h
      exact ⟨i + 1, j + 1, by omega, by simpa using hj, by simpa using h1, by simpa using h2⟩
    | cons_cons _ h =>
      have hb : b ∈ l := List.singleton_sublist.1 h
      obtain ⟨j, hj, rfl⟩ := List.getElem_of_mem hb
      exact ⟨0, j + 1, by omega, by simpa using hj, by simp, by simp⟩

theorem fo_of_bef {p : List Ev} {e : Exec} {a b : Nat} (hpos : ∀ x ∈ e.fen, 0 ≤ x) (h : List.Sublist [(a : Int), (b : Int)] e.fen) : TG (Fo1 e.fen) a b := by
  obtain ⟨i, j, hij, hj, h1, h2⟩ := idx_of_bef h
  have key : ∀ (d j a b : Nat), j + d + 1 < e.fen.length → numAt e.fen j = a → numAt e.fen (j + d + 1) = b → TG (Fo1 e.fen) a b := by
    intro d
    induction d with
    | zero => intro j a b h ha hb; exact .one ⟨j, h, ha, hb⟩
    | succ d ih =>
      intro j a b h ha hb
      have h1 : 0 ≤ numAt e.fen (j + d + 1) := hpos _ (mem_numAt.2 ⟨j + d + 1, by omega, rfl⟩)
      obtain ⟨c, hc⟩ : ∃ c : Nat, numAt e.fen (j + d + 1) = c := ⟨(numAt e.fen (j + d + 1)).toNat, by omega⟩
      exact (ih j a c (by omega) ha hc).trans (.one ⟨j + d + 1, by omega, hc, by rw [← hb]; congr 1⟩)
  refine key (j - i - 1) i a b (by omega) (by rw [numAt_eq (by omega)]; exact h1) (by rw [show i + (j - i - 1) + 1 = j by omega, numAt_eq hj]; exact h2)

theorem perm_of_mem {l m : List Int} (hl : l.Nodup) (hm : m.Nodup) (h : ∀ x, x ∈ l ↔ x ∈ m) : l.Perm m := (List.perm_ext_iff_of_nodup hl hm).2 h

/-! ### A program seen in another one -/
/-- ι: the events of p among those of q; j: back again. -/
structure Emb (p q : List Ev) (ι j : Nat → Nat) (σ : Int → Int) : Prop where
  lt : ∀ a, a < p.length → ι a < q.length
  inv : ∀ a, a < p.length → j (ι a) = a
  back : ∀ b, b < q.length → (evAt q b).op.kind ≠ 5 → j b < p.length ∧ ι (j b) = b
  sb : ∀ a b, a < b → b < p.length → (evAt p a).th = (evAt p b).th → ι a < ι b ∧ (evAt q (ι a)).th = (evAt q (ι b)).th
  kind : ∀ a, a < p.length → (evAt q (ι a)).op.kind = (evAt p a).op.kind
  v : ∀ a, a < p.length → (evAt q (ι a)).op.v = (evAt p a).op.v
  w : ∀ a, a < p.length → (evAt q (ι a)).op.w = (evAt p a).op.w
  loc : ∀ a, a < p.length → (evAt p a).op.kind ≠ 5 → (evAt q (ι a)).op.loc = σ (evAt p a).op.loc
  rel : ∀ a, a < p.length → (evAt p a).rel = true → (evAt q (ι a)).rel = true
  acq : ∀ a, a < p.length → (evAt p a).acq = true → (evAt q (ι a)).acq = true
  strong : ∀ a, a < p.length → (evAt p a).strong = true → (evAt q (ι a)).strong = true
  σ3 : ∀ k, 0 ≤ k → k < 3 → 0 ≤ σ k ∧ σ k < 3
  σi : ∀ k k', 0 ≤ k → k < 3 → 0 ≤ k' → k' < 3 → σ k = σ k' → k = k'

def bk (j : Nat → Nat) (x : Int) : Int := if 0 ≤ x then ((j x.toNat : Nat) : Int) else x
theorem bk_nat (j : Nat → Nat) (b : Nat) : bk j b = (j b : Nat) := by simp [bk]
theorem bk_neg (j : Nat → Nat) {x : Int} (h : x < 0) : bk j x = x := by rw [bk, if_neg (by omega)]

/-- An execution of q, seen in p. -/
def pullE (p : List Ev) (ι j : Nat → Nat) (σ : Int → Int) (e : Exec) : Exec where
  frm := (List.range p.length).map fun i => bk j (frmAt e (ι i))
  dn := (List.range p.length).map fun i => dnAt e.dn (ι i)
  ord := [0, 1, 2].map fun k : Int => (e.ord[(σ k).toNat]?.getD []).map fun x => ((j x.toNat : Nat) : Int)
  fen := (e.fen.filter fun x => decide (ι (j x.toNat) = x.toNat) && decide (j x.toNat < p.length) && (evAt p (j x.toNat)).strong).map fun x => ((j x.toNat : Nat) : Int)

theorem strong_kind {e : Ev} (h : e.strong = true) : e.op.kind = 5 := by
  simp only [Ev.strong, Bool.and_eq_true, decide_eq_true_eq] at h; exact h.1
theorem mem_fencesI {p : List Ev} {x : Int} : x ∈ fencesI p ↔ ∃ i : Nat, x = i ∧ i < p.length ∧ (evAt p i).strong = true := by
  rw [fencesI, mem_pickI]
  constructor
  · rintro ⟨i, h1, h2, h3⟩; exact ⟨i, h3, h1, h2⟩
  · rintro ⟨i, h3, h1, h2⟩; exact ⟨i, h1, h2, h3⟩

section
variable {p q : List Ev} {ι j : Nat → Nat} {σ : Int → Int} {e : Exec}

theorem pull_frm {i : Nat} (hi : i < p.length) : frmAt (pullE p ι j σ e) i = bk j (frmAt e (ι i)) := by
  simp [frmAt, pullE, hi]
theorem pull_dn {i : Nat} (hi : i < p.length) : dnAt (pullE p ι j σ e).dn i = dnAt e.dn (ι i) := by
  simp [dnAt, pullE, hi]
theorem pull_ord {k : Nat} (hk : k < 3) : (pullE p ι j σ e).ord[k]?.getD [] = (e.ord[(σ k).toNat]?.getD []).map fun x => ((j x.toNat : Nat) : Int) := by
  have : k = 0 ∨ k = 1 ∨ k = 2 := by omega
  rcases this with rfl | rfl | rfl <;> rfl
theorem numAt_map {f : Int → Int} {l : List Int} {i : Nat} (hi : i < l.length) : numAt (l.map f) i = f (numAt l i) := by
  simp [numAt, hi]

section
variable (H : Emb p q ι j σ) (hp : POk p) (hq : POk q) (hmq : Mono q) (hs : Shape q e)
include H hs

theorem pull_src {i : Nat} (hi : i < p.length) : ((evAt p i).reads = false → frmAt e (ι i) = -2) ∧ ((evAt p i).reads = true → frmAt e (ι i) = -1 ∨ ∃ w : Nat, w < p.length ∧ frmAt e (ι i) = (ι w : Nat) ∧ j (ι w) = w ∧ dnAt e.dn (ι w) = true ∧ (evAt q (ι w)).op.loc = (evAt q (ι i)).op.loc ∧ 1 ≤ (evAt p w).op.kind ∧ (evAt p w).op.kind ≤ 4) := by
  have hr : (evAt q (ι i)).reads = (evAt p i).reads := by simp only [Ev.reads, H.kind i hi]
  constructor
  · intro h; exact hs.out _ (H.lt i hi) (hr.trans h)
  · intro h
    rcases hs.src _ (H.lt i hi) (hr.trans h) with h1 | ⟨b, h1, h2, h3, h4⟩
    · exact .inl h1
    · have hk := hs.dn0 b h2 h3
      obtain ⟨q1, q2⟩ := H.back b h2 (by omega)
      refine .inr ⟨j b, q1, ?_, ?_, ?_, ?_, ?_⟩
      · rw [q2]; exact h1
      · rw [q2]
      · rw [q2]; exact h3
      · rw [q2]; exact h4
      · have := H.kind _ q1
        rw [q2] at this; omega

/-- Reading, seen below. -/
theorem pull_rf {a i : Nat} (hi : i < p.length) (h : frmAt (pullE p ι j σ e) i = (a : Nat)) : frmAt e (ι i) = (ι a : Nat) ∧ a < p.length ∧ (evAt p i).reads = true := by
  rw [pull_frm hi] at h
  obtain ⟨h1, h2⟩ := pull_src H hs hi
  cases hr : (evAt p i).reads with
  | false => rw [h1 hr, bk_neg _ (by decide)] at h; omega
  | true =>
    rcases h2 hr with h3 | ⟨w, h3, h4, h5, _⟩
    · rw [h3, bk_neg _ (by decide)] at h; omega
    · rw [h4, bk_nat, h5] at h
      have : w = a := by omega
      subst this
      exact ⟨h4, h3, rfl⟩

theorem pull_ordm {k : Nat} (hk : k < 3) : ∀ x ∈ e.ord[(σ k).toNat]?.getD [], ∃ a : Nat, a < p.length ∧ x = (ι a : Nat) ∧ j (ι a) = a ∧ dnAt e.dn (ι a) = true ∧ (evAt p a).op.kind ≠ 5 ∧ (evAt q (ι a)).op.loc = σ k := by
  intro x hx
  obtain ⟨s1, s2⟩ := H.σ3 k (by omega) (by omega)
  have := (hs.ord (σ k).toNat (by omega)).mem_iff.1 hx
  obtain ⟨b, h1, h2, h3, h4, h5⟩ := mem_writersI.1 this
  obtain ⟨q1, q2⟩ := H.back b h2 h3
  refine ⟨j b, q1, by rw [q2]; exact h1, by rw [q2], by rw [q2]; exact h4, ?_, by rw [q2]; omega⟩
  have := H.kind _ q1
  rw [q2] at this; omega

include hp in
theorem pull_loc {a i : Nat} (ha : a < p.length) (hi : i < p.length) (k1 : (evAt p a).op.kind ≠ 5) (k2 : (evAt p i).op.kind ≠ 5) (h : (evAt q (ι a)).op.loc = (evAt q (ι i)).op.loc) : (evAt p a).op.loc = (evAt p i).op.loc := by
  rw [H.loc a ha k1, H.loc i hi k2] at h
  have := hp.loc a ha; have := hp.loc i hi
  exact H.σi _ _ (by omega) (by omega) (by omega) (by omega) h

include hp in
theorem pull_shape : Shape p (pullE p ι j σ e) := by
  have hkr : ∀ {i : Nat}, (evAt p i).reads = true → (evAt p i).op.kind ≠ 5 := fun h => by
    simp only [Ev.reads, Bool.and_eq_true, decide_eq_true_eq] at h; exact h.2
  refine ⟨by simp [pullE], by simp [pullE], rfl, fun i hi hk => ?_, fun i hi hd => ?_, fun i hi hr => ?_, fun i hi hr => ?_, fun k hk => ?_, ?_⟩
  · rw [pull_dn hi]
    exact hs.dn1 _ (H.lt i hi) (by rw [H.kind i hi]; exact hk)
  · rw [pull_dn hi] at hd
    have := hs.dn0 _ (H.lt i hi) hd
    rw [H.kind i hi] at this; exact this
  · rw [pull_frm hi, (pull_src H hs hi).1 hr, bk_neg _ (by decide)]
  · rw [pull_frm hi]
    rcases (pull_src H hs hi).2 hr with h | ⟨w, h1, h2, h3, h4, h5, h6, h7⟩
    · left; rw [h, bk_neg _ (by decide)]
    · right
      refine ⟨w, by rw [h2, bk_nat, h3], h1, by rw [pull_dn h1]; exact h4, pull_loc H hp hs h1 hi (by omega) (hkr hr) h5⟩
  · rw [pull_ord hk]
    have hm := pull_ordm H hs hk
    obtain ⟨s1, s2⟩ := H.σ3 k (by omega) (by omega)
    have hnd : (e.ord[(σ k).toNat]?.getD []).Nodup := ((hs.ord (σ k).toNat (by omega)).nodup_iff).2 (asc_nodup (writers_asc _ _ _))
    refine perm_of_mem ?_ (asc_nodup (writers_asc _ _ _)) fun x => ?_
    · rw [List.nodup_iff_pairwise_ne, List.pairwise_map]
      refine List.Pairwise.imp_of_mem ?_ (List.nodup_iff_pairwise_ne.1 hnd)
      intro x y hx hy hne he
      obtain ⟨a, _, rfl, ha, _⟩ := hm x hx
      obtain ⟨b, _, rfl, hb, _⟩ := hm y hy
      rw [Int.toNat_natCast, Int.toNat_natCast, ha, hb] at he
      exact hne (by rw [show a = b by omega])
    · rw [List.mem_map, mem_writersI]
      constructor
      · rintro ⟨y, hy, rfl⟩
        obtain ⟨a, h1, rfl, h3, h4, h5, h6⟩ := hm y hy
        rw [Int.toNat_natCast, h3]
        refine ⟨a, rfl, h1, h5, by rw [pull_dn h1]; exact h4, ?_⟩
        rw [H.loc a h1 h5] at h6
        have := hp.loc a h1
        exact H.σi _ _ (by omega) (by omega) (by omega) (by omega) h6
      · rintro ⟨a, rfl, h1, h2, h3, h4⟩
        rw [pull_dn h1] at h3
        refine ⟨(ι a : Nat), ?_, by rw [Int.toNat_natCast, H.inv a h1]⟩
        refine (hs.ord (σ k).toNat (by omega)).mem_iff.2 (mem_writersI.2 ⟨ι a, rfl, H.lt a h1, by rw [H.kind a h1]; exact h2, h3, ?_⟩)
        rw [H.loc a h1 h2, h4]; omega
  · have hnd : e.fen.Nodup := (hs.fen.nodup_iff).2 (asc_nodup (fences_asc _))
    have hmem : ∀ x ∈ e.fen, ∃ b : Nat, x = b ∧ b < q.length ∧ (evAt q b).strong = true := fun x hx => mem_fencesI.1 (hs.fen.mem_iff.1 hx)
    refine perm_of_mem ?_ (asc_nodup (fences_asc _)) fun x => ?_
    · show (List.map _ _).Nodup
      rw [List.nodup_iff_pairwise_ne, List.pairwise_map]
      refine List.Pairwise.imp_of_mem ?_ (List.nodup_iff_pairwise_ne.1 (hnd.filter _))
      intro x y hx hy hne he
      obtain ⟨hx1, hx2⟩ := List.mem_filter.1 hx
      obtain ⟨hy1, hy2⟩ := List.mem_filter.1 hy
      obtain ⟨a, rfl, _⟩ := hmem x hx1
      obtain ⟨b, rfl, _⟩ := hmem y hy1
      simp only [Int.toNat_natCast, Bool.and_eq_true, decide_eq_true_eq] at hx2 hy2 he
      have : j a = j b := by omega
      exact hne (by rw [← hx2.1.1, ← hy2.1.1, this])
    · show x ∈ List.map _ _ ↔ _
      rw [List.mem_map, mem_fencesI]
      constructor
      · rintro ⟨y, hy, rfl⟩
        obtain ⟨_, hy2⟩ := List.mem_filter.1 hy
        simp only [Bool.and_eq_true, decide_eq_true_eq] at hy2
        exact ⟨_, rfl, hy2.1.2, hy2.2⟩
      · rintro ⟨a, rfl, h1, h2⟩
        refine ⟨(ι a : Nat), List.mem_filter.2 ⟨hs.fen.mem_iff.2 (mem_fencesI.2 ⟨ι a, rfl, H.lt a h1, H.strong a h1 h2⟩), ?_⟩, by rw [Int.toNat_natCast, H.inv a h1]⟩
        simp only [Int.toNat_natCast, H.inv a h1, Bool.and_eq_true, decide_eq_true_eq]
        exact ⟨⟨trivial, h1⟩, h2⟩

omit hs in
/-- Chains of program order, seen above. -/
theorem pull_sb (hmq : Mono q) {a b : Nat} (h : Sb1 p a b) : TG (Sb1 q) (ι a) (ι b) := by
  obtain ⟨rfl, h1, h2⟩ := h
  obtain ⟨h3, h4⟩ := H.sb a (a + 1) (by omega) h1 h2.symm
  have key : ∀ (d a : Nat), a + d + 1 < q.length → (evAt q a).th = (evAt q (a + d + 1)).th → TG (Sb1 q) a (a + d + 1) := by
    intro d
    induction d with
    | zero => intro a h ht; exact .one ⟨rfl, h, ht.symm⟩
    | succ d ih =>
      intro a h ht
      have h1 := hmq.between (a := a) (b := a + (d + 1) + 1) (x := a + d + 1) h (by omega) (by omega) ht
      exact (ih a (by omega) (by rw [h1]; exact ht)).trans (.one ⟨by omega, h, h1.symm⟩)
  have := key (ι (a + 1) - ι a - 1) (ι a) (by have := H.lt (a + 1) h1; omega) (by rw [show ι a + (ι (a + 1) - ι a - 1) + 1 = ι (a + 1) by omega]; exact h4)
  rwa [show ι a + (ι (a + 1) - ι a - 1) + 1 = ι (a + 1) by omega] at this

theorem pull_fo {a b : Nat} (h : Fo1 (pullE p ι j σ e).fen a b) : TG (Fo1 e.fen) (ι a) (ι b) := by
  obtain ⟨i, hi, h1, h2⟩ := h
  have hmem : ∀ x ∈ e.fen, 0 ≤ x := fun x hx => by
    obtain ⟨b, rfl, _⟩ := mem_fencesI.1 (hs.fen.mem_iff.1 hx); omega
  have hb := bef_of_idx (pullE p ι j σ e).fen i (i + 1) (by omega) hi
  rw [← numAt_eq (by omega), ← numAt_eq hi, h1, h2] at hb
  have hb2 : List.Sublist [(a : Int), (b : Int)] (List.map (fun x : Int => ((j x.toNat : Nat) : Int)) (e.fen.filter fun x => decide (ι (j x.toNat) = x.toNat) && decide (j x.toNat < p.length) && (evAt p (j x.toNat)).strong)) := hb
  obtain ⟨l', h3, h4⟩ := List.sublist_map_iff.1 hb2
  have hl : ∃ x y, l' = [x, y] := by
    rcases l' with _ | ⟨x, _ | ⟨y, _ | ⟨z, l⟩⟩⟩
    · simp at h4
    · simp at h4
    · exact ⟨x, y, rfl⟩
    · simp at h4
  obtain ⟨x, y, rfl⟩ := hl
  simp only [List.map_cons, List.map_nil, List.cons.injEq, and_true] at h4
  have hx := List.mem_filter.1 (h3.subset (List.mem_cons_self ..))
  have hy := List.mem_filter.1 (h3.subset (List.mem_cons_of_mem _ (List.mem_cons_self ..)))
  simp only [Bool.and_eq_true, decide_eq_true_eq] at hx hy
  have ex : x = (ι a : Nat) := by
    have := hmem x hx.1
    have e1 : j x.toNat = a := by omega
    have := hx.2.1.1
    rw [e1] at this; omega
  have ey : y = (ι b : Nat) := by
    have := hmem y hy.1
    have e1 : j y.toNat = b := by omega
    have := hy.2.1.1
    rw [e1] at this; omega
  rw [ex, ey] at h3
  exact fo_of_bef (p := p) hmem (h3.trans List.filter_sublist)

theorem pull_rf1 {a b : Nat} (h : Rf (pullE p ι j σ e) p.length a b) : Rf e q.length (ι a) (ι b) := ⟨H.lt b h.1, (pull_rf H hs h.1 h.2).1⟩

theorem pull_rfOk (hac : RfOk q e) : RfOk p (pullE p ι j σ e) := fun a ha => hac _ (TG.map ι ha fun _ _ h => pull_rf1 H hs h)

theorem pull_back {w v : Nat} (h : Back p (pullE p ι j σ e) w v) (hw : w < p.length) : Back q e (ι w) (ι v) ∧ v < p.length := by
  induction h with
  | here => exact ⟨.here, hw⟩
  | @on w v u h _ ih =>
    obtain ⟨h1, h2⟩ := h
    obtain ⟨h3, h4, h5⟩ := pull_rf H hs hw h2
    obtain ⟨k1, k2⟩ := ih h4
    refine ⟨.on ⟨?_, h3⟩ k1, k2⟩
    unfold exchP at h1 ⊢
    simp only [Bool.and_eq_true] at h1 ⊢
    refine ⟨by simp only [Ev.reads, H.kind w hw]; exact h5, ?_⟩
    have := pull_dn (p := p) (ι := ι) (j := j) (σ := σ) (e := e) hw
    unfold dnAt at this
    rw [← this]; exact h1.2

omit hs in
theorem pull_rel {v c : Nat} (hv : v < p.length) (h : Rel1 p v c) : Rel1 q (ι v) (ι c) := by
  obtain ⟨h1, h2⟩ := h
  rcases h2 with rfl | ⟨h2, h3, h4⟩
  · exact ⟨H.rel c hv h1, .inl rfl⟩
  · obtain ⟨k1, k2⟩ := H.sb c v h2 hv h3
    exact ⟨H.rel c (by omega) h1, .inr ⟨k1, k2, by rw [H.kind c (by omega)]; exact h4⟩⟩
omit hs in
theorem pull_acq {r c : Nat} (hr : r < p.length) (h : Acq1 p r c) : Acq1 q (ι r) (ι c) := by
  obtain ⟨h1, h2⟩ := h
  rcases h2 with rfl | ⟨h2, h3, h4, h5⟩
  · exact ⟨H.acq c hr h1, .inl rfl⟩
  · obtain ⟨k1, k2⟩ := H.sb r c h2 h3 h4.symm
    exact ⟨H.acq c h3 h1, .inr ⟨k1, H.lt c h3, k2.symm, by rw [H.kind c h3]; exact h5⟩⟩

theorem pull_sw {a b : Nat} (h : Sw p (pullE p ι j σ e) a b) : Sw q e (ι a) (ι b) := by
  obtain ⟨r, w, v, h1, h2, h3, h4, h5, h6⟩ := h
  obtain ⟨k1, k2, k3⟩ := pull_rf H hs h1 h3
  obtain ⟨k4, k5⟩ := pull_back H hs h4 k2
  exact ⟨ι r, ι w, ι v, H.lt r h1, by simp only [Ev.reads, H.kind r h1]; exact h2, k1, k4, pull_rel H k5 h5, pull_acq H h1 h6⟩

include hmq in
theorem pull_hb {a b : Nat} (h : Hb p (pullE p ι j σ e) a b) : Hb q e (ι a) (ι b) := by
  have key : ∀ a b, (Sb1 p a b ∨ Fo1 (pullE p ι j σ e).fen a b ∨ Sw p (pullE p ι j σ e) a b) → Hb q e (ι a) (ι b) := by
    rintro a b (h | h | h)
    · exact (pull_sb H hmq h).mono fun _ _ k => .inl k
    · exact (pull_fo H hs h).mono fun _ _ k => .inr (.inl k)
    · exact .one (.inr (.inr (pull_sw H hs h)))
  unfold Hb at h
  induction h with
  | one h => exact key _ _ h
  | more h _ ih => exact (key _ _ h).trans ih

theorem pull_at {k : Nat} (hk : k < 3) {i a : Nat} (hi : i < (e.ord[(σ k).toNat]?.getD []).length) (h : numAt ((e.ord[(σ k).toNat]?.getD []).map fun x => ((j x.toNat : Nat) : Int)) i = (a : Nat)) : numAt (e.ord[(σ k).toNat]?.getD []) i = (ι a : Nat) ∧ a < p.length := by
  rw [numAt_map hi] at h
  obtain ⟨b, h1, h2, h3, _⟩ := pull_ordm H hs hk _ (mem_numAt.2 ⟨i, hi, rfl⟩)
  rw [h2, Int.toNat_natCast, h3] at h
  have : b = a := by omega
  subst this
  exact ⟨h2, h1⟩

theorem pull_mem {k : Nat} (hk : k < 3) : e.ord[(σ k).toNat]?.getD [] ∈ e.ord := by
  obtain ⟨s1, s2⟩ := H.σ3 k (by omega) (by omega)
  have : (σ k).toNat < e.ord.length := by rw [hs.ol]; omega
  rw [List.getElem?_eq_getElem this, Option.getD_some]
  exact List.getElem_mem _

omit H hs in
theorem pull_ordmem {l : List Int} (hl : l ∈ (pullE p ι j σ e).ord) : ∃ k : Nat, k < 3 ∧ l = (e.ord[(σ k).toNat]?.getD []).map fun x => ((j x.toNat : Nat) : Int) := by
  obtain ⟨k, hk, rfl⟩ := List.getElem_of_mem hl
  have hk3 : k < 3 := hk
  refine ⟨k, hk3, ?_⟩
  rw [← pull_ord (p := p) hk3, List.getElem?_eq_getElem hk, Option.getD_some]

include hp in
theorem pull_com {a b : Nat} (h : Com1 p (pullE p ι j σ e) a b) : Com1 q e (ι a) (ι b) := by
  rcases h with ⟨l, hl, x, y, h1, h2, h3, h4⟩ | ⟨h1, h2⟩ | ⟨h1, h2, h3, y, h4, h5, h6⟩
  · obtain ⟨k, hk, rfl⟩ := pull_ordmem hl
    rw [List.length_map] at h2
    exact .inl ⟨_, pull_mem H hs hk, x, y, h1, h2, (pull_at H hs hk (by omega) h3).1, (pull_at H hs hk h2 h4).1⟩
  · exact .inr (.inl ⟨by simp only [Ev.reads, H.kind b h2.1]; exact h1, pull_rf1 H hs h2⟩)
  · have hk5 : (evAt p a).op.kind ≠ 5 := by
      simp only [Ev.reads, Bool.and_eq_true, decide_eq_true_eq] at h2; exact h2.2
    have hl := hp.loc a h1
    have hk : (evAt p a).op.loc.toNat < 3 := by omega
    have e1 : ordAt p (pullE p ι j σ e) a = (e.ord[(σ (evAt p a).op.loc.toNat).toNat]?.getD []).map fun x => ((j x.toNat : Nat) : Int) := pull_ord hk
    have e2 : ordAt q e (ι a) = e.ord[(σ (evAt p a).op.loc.toNat).toNat]?.getD [] := by
      unfold ordAt
      rw [H.loc a h1 hk5, show (((evAt p a).op.loc.toNat : Nat) : Int) = (evAt p a).op.loc by omega]
    rw [e1, List.length_map] at h4
    rw [e1] at h5 h6
    obtain ⟨g1, g2⟩ := pull_at H hs hk h4 h5
    refine .inr (.inr ⟨H.lt a h1, by simp only [Ev.reads, H.kind a h1]; exact h2, ?_, y, by rw [e2]; exact h4, by rw [e2]; exact g1, ?_⟩)
    · intro e
      exact h3 (by rw [← H.inv b g2, ← H.inv a h1, e])
    · rw [e2]
      rw [pull_frm h1] at h6
      rcases (pull_src H hs h1).2 h2 with h7 | ⟨w, w1, w2, w3, _⟩
      · exact .inl h7
      · rw [w2, bk_nat, w3] at h6
        rcases h6 with h6 | ⟨x, x1, x2⟩
        · omega
        · exact .inr ⟨x, x1, by rw [w2]; exact (pull_at H hs hk (by omega) x2).1⟩

include hp hmq in
theorem pull_cons (hc : Cons q e) : Cons p (pullE p ι j σ e) := by
  refine ⟨fun ⟨a, ha⟩ => hc.round ⟨ι a, ?_⟩, fun h => hc.cross ?_, fun l hl i hi hr => ?_⟩
  · have key : ∀ a b, (Sb1 p a b ∨ Fo1 (pullE p ι j σ e).fen a b ∨ Rf (pullE p ι j σ e) p.length a b) → TG (fun a b => Sb1 q a b ∨ Fo1 e.fen a b ∨ Rf e q.length a b) (ι a) (ι b) := by
      rintro a b (h | h | h)
      · exact (pull_sb H hmq h).mono fun _ _ k => .inl k
      · exact (pull_fo H hs h).mono fun _ _ k => .inr (.inl k)
      · exact .one (.inr (.inr (pull_rf1 H hs h)))
    have : ∀ {a b}, TG (fun a b => Sb1 p a b ∨ Fo1 (pullE p ι j σ e).fen a b ∨ Rf (pullE p ι j σ e) p.length a b) a b → TG (fun a b => Sb1 q a b ∨ Fo1 e.fen a b ∨ Rf e q.length a b) (ι a) (ι b) := by
      intro a b h
      induction h with
      | one h => exact key _ _ h
      | more h _ ih => exact (key _ _ h).trans ih
    exact this ha
  · rcases h with ⟨a, ha⟩ | ⟨a, b, h1, h2⟩
    · exact .inl ⟨ι a, pull_hb H hmq hs ha⟩
    · exact .inr ⟨ι a, ι b, pull_hb H hmq hs h1, TG.map ι h2 fun _ _ h => pull_com H hp hs h⟩
  · obtain ⟨k, hk, rfl⟩ := pull_ordmem hl
    rw [List.length_map] at hi
    have hm := pull_ordm H hs hk
    obtain ⟨b, h1, h2, h3, h4, _⟩ := hm _ (mem_numAt.2 ⟨i, hi, rfl⟩)
    have e1 : numAt ((e.ord[(σ k).toNat]?.getD []).map fun x => ((j x.toNat : Nat) : Int)) i = (b : Nat) := by rw [numAt_map hi, h2, Int.toNat_natCast, h3]
    rw [e1, Int.toNat_natCast] at hr ⊢
    have hn := hc.next _ (pull_mem H hs hk) i hi
    rw [h2, Int.toNat_natCast] at hn
    have hn2 := hn (by simp only [Ev.reads, H.kind b h1]; exact hr)
    rw [pull_frm h1, hn2]
    cases i with
    | zero => rfl
    | succ i =>
      have hi2 : i < (e.ord[(σ k).toNat]?.getD []).length := by omega
      show bk j (numAt _ i) = numAt _ i
      rw [numAt_map hi2]
      obtain ⟨c, _, c2, c3, _⟩ := hm _ (mem_numAt.2 ⟨i, hi2, rfl⟩)
      rw [c2, bk_nat, Int.toNat_natCast]

include hp in
theorem pull_words (hac : RfOk q e) : ∀ i, i < p.length → (wordsP p (pullE p ι j σ e).frm).R i = (wordsP q e.frm).R (ι i) ∧ (1 ≤ (evAt p i).op.kind → (evAt p i).op.kind ≤ 4 → (wordsP p (pullE p ι j σ e).frm).W i = (wordsP q e.frm).W (ι i)) := by
  have hs' := pull_shape H hp hs
  have hac' := pull_rfOk H hs hac
  have hw := hs.words hac
  have hr : ∀ i, i < p.length → (evAt q (ι i)).reads = (evAt p i).reads := fun i hi => by simp only [Ev.reads, H.kind i hi]
  refine Words.uniq hs'.fromOk hs'.srcOk hac' (fun i hi => ((hs'.xok (.inr trivial)).fr i hi).1) (hs'.words hac') ?_
  refine ⟨fun i hi h => hw.out _ (H.lt i hi) ((hr i hi).trans h), fun i hi h h0 => ?_, fun i w hi h h0 => ?_, fun i hi hk => ?_, fun i hi hk => ?_, fun i hi hk => ?_⟩
  · refine hw.init _ (H.lt i hi) ((hr i hi).trans h) ?_
    have h1 : bk j (frmAt e (ι i)) = -1 := by rw [← pull_frm (p := p) (σ := σ) hi]; exact h0
    rcases (pull_src H hs hi).2 h with h2 | ⟨w, _, h2, _⟩
    · exact h2
    · rw [h2, bk_nat] at h1; omega
  · exact hw.from_ _ _ (H.lt i hi) ((hr i hi).trans h) (pull_rf H hs hi h0).1
  · rw [hw.store _ (H.lt i hi) (by rw [H.kind i hi]; exact hk), H.v i hi]
  · rw [hw.add _ (H.lt i hi) (by rw [H.kind i hi]; exact hk), H.v i hi]
  · rw [hw.cas _ (H.lt i hi) (by rw [H.kind i hi]; exact hk), H.w i hi]

include hp hq hmq in
theorem pull_exec (hmp : Mono p) (he : e ∈ execsP q) : pullE p ι j σ e ∈ execsP p := by
  obtain ⟨_, hw, hc⟩ := (exec_iff hq hmq).1 he
  have hac := Round.rfOk hc.round
  refine (exec_iff hp hmp).2 ⟨pull_shape H hp hs, fun i hi => ?_, pull_cons H hp hmq hs hc⟩
  have h1 := hw _ (H.lt i hi)
  rw [H.kind i hi, H.v i hi, ← (pull_words H hp hs hac i hi).1, ← pull_dn (p := p) (j := j) (σ := σ) hi] at h1
  exact h1

omit H hs in
theorem outReads_eq (p : List Ev) (w : Wd) : ∀ n, outReads p w n = ((List.range n).filter fun i => (evAt p i).reads).map w.R
  | 0 => rfl
  | n + 1 => by
    rw [outReads, outReads_eq p w n, List.range_succ, List.filter_append, List.map_append]
    congr 1
    cases h : (evAt p n).reads <;> simp [h, Wd.R]

include hp in
theorem pull_outcome (hac : RfOk q e) : outcomeP p (pullE p ι j σ e) = (((List.range p.length).filter fun i => (evAt p i).reads).map fun i => (wordsP q e.frm).R (ι i)) ++ [lastOf (wordsP q e.frm) (e.ord[(σ 0).toNat]?.getD []), lastOf (wordsP q e.frm) (e.ord[(σ 1).toNat]?.getD []), lastOf (wordsP q e.frm) (e.ord[(σ 2).toNat]?.getD [])] := by
  have hwd := pull_words H hp hs hac
  unfold outcomeP
  congr 1
  · rw [outReads_eq]
    refine List.map_congr_left fun i hi => ?_
    obtain ⟨h1, _⟩ := List.mem_filter.1 hi
    exact (hwd i (by simpa using h1)).1
  · have key : ∀ k : Nat, k < 3 → lastOf (wordsP p (pullE p ι j σ e).frm) ((e.ord[(σ k).toNat]?.getD []).map fun x => ((j x.toNat : Nat) : Int)) = lastOf (wordsP q e.frm) (e.ord[(σ k).toNat]?.getD []) := by
      intro k hk
      unfold lastOf
      rw [List.length_map]
      split
      · rfl
      · rename_i hne
        have hi : (e.ord[(σ k).toNat]?.getD []).length - 1 < (e.ord[(σ k).toNat]?.getD []).length := by omega
        obtain ⟨a, h1, h2, h3, h4, h5, _⟩ := pull_ordm H hs hk _ (mem_numAt.2 ⟨_, hi, rfl⟩)
        have hkd := hs.dn0 _ (H.lt a h1) h4
        rw [H.kind a h1] at hkd
        rw [numAt_map hi, h2, Int.toNat_natCast, Int.toNat_natCast, h3]
        exact (hwd a h1).2 hkd.1 hkd.2
    show [_, _, _] = _
    simp only [List.cons.injEq, and_true]
    exact ⟨key 0 (by omega), key 1 (by omega), key 2 (by omega)⟩
end
end
end Go.EV

namespace Go.EV
open Go.Proofs

/-- An operation at another location. -/
def rot (k : Int) (x : Int) : Int := (x + k).tmod 3
def renO (k : Int) (o : OpV) : OpV := if o.kind ≠ 5 then { o with loc := rot k o.loc } else o
def renT (k : Int) (ts : List (List OpV)) : List (List OpV) := ts.map fun t => t.map (renO k)
def renE (k : Int) (e : Ev) : Ev := ⟨renO k e.op, e.th⟩

theorem rot_in {k x : Int} (hk : k = 1 ∨ k = 2) (h0 : 0 ≤ x) (h3 : x < 3) : 0 ≤ rot k x ∧ rot k x < 3 ∧ (rot k x = if x + k < 3 then x + k else x + k - 3) := by
  unfold rot
  have : x = 0 ∨ x = 1 ∨ x = 2 := by omega
  rcases hk with rfl | rfl <;> rcases this with rfl | rfl | rfl <;> decide

theorem evsGo_map (f : OpV → OpV) : ∀ (l : List (List OpV)) (n : Nat), evsGo n (l.map fun t => t.map f) = (evsGo n l).map fun e => ⟨f e.op, e.th⟩
  | [], _ => rfl
  | t :: l, n => by rw [List.map_cons, evsGo, evsGo, evsGo_map f l (n + 1), List.map_append, List.map_map, List.map_map]; rfl
theorem expOp_ren (k : Int) (o : OpV) : expOp (renO k o) = (expOp o).map (renO k) := by
  unfold expOp
  have ha : accessP (renO k o) = accessP o := by unfold accessP renO; split <;> rfl
  have ho : (renO k o).ord = o.ord := by unfold renO; split <;> rfl
  have hkd : (renO k o).kind = o.kind := by unfold renO; split <;> rfl
  rw [ha, ho, hkd]
  split
  · rfl
  · simp only [List.map_cons, List.map_nil, List.cons.injEq, and_true]
    refine ⟨by simp [renO], ?_, by simp [renO]⟩
    unfold renO; split <;> rfl
theorem evs_ren (k : Int) (ts : List (List OpV)) : evsOf (renT k ts) = (evsOf ts).map (renE k) := by
  unfold evsOf renT
  have : (ts.map fun t => t.map (renO k)).map expT = (ts.map expT).map fun t => t.map (renO k) := by
    rw [List.map_map, List.map_map]
    refine List.map_congr_left fun t _ => ?_
    simp only [Function.comp, expT, List.flatMap_def, List.map_map, List.map_flatten]
    congr 1
    exact List.map_congr_left fun o _ => expOp_ren k o
  rw [this, evsGo_map]; rfl

theorem ren_at (k : Int) {p : List Ev} {i : Nat} (hi : i < p.length) : evAt (p.map (renE k)) i = renE k (evAt p i) := by
  simp [evAt, hi]

theorem renO_same (k : Int) (o : OpV) : (renO k o).kind = o.kind ∧ (renO k o).v = o.v ∧ (renO k o).w = o.w ∧ (renO k o).ord = o.ord ∧ (o.kind ≠ 5 → (renO k o).loc = rot k o.loc) := by
  unfold renO; split
  · exact ⟨rfl, rfl, rfl, rfl, fun _ => rfl⟩
  · rename_i h; exact ⟨rfl, rfl, rfl, rfl, fun h2 => absurd h2 h⟩

/-- The program, seen in the one whose locations are renamed. -/
theorem ren_emb {k : Int} (hk : k = 1 ∨ k = 2) (p : List Ev) : Emb p (p.map (renE k)) id id (rot k) := by
  have hl : (p.map (renE k)).length = p.length := List.length_map _
  have hat : ∀ a, a < p.length → evAt (p.map (renE k)) a = renE k (evAt p a) := fun a ha => ren_at k ha
  refine ⟨fun a ha => by rw [hl]; exact ha, fun a ha => rfl, fun b hb _ => ⟨by rw [hl] at hb; exact hb, rfl⟩, fun a b h1 h2 h3 => ⟨h1, ?_⟩, fun a ha => ?_, fun a ha => ?_, fun a ha => ?_, fun a ha h5 => ?_, fun a ha hr => ?_, fun a ha hr => ?_, fun a ha hr => ?_, fun x h0 h3 => ?_, fun x y a b c d e => ?_⟩
  · show (evAt (p.map (renE k)) a).th = (evAt (p.map (renE k)) b).th
    rw [hat a (by omega), hat b h2]; exact h3
  · show (evAt (p.map (renE k)) a).op.kind = _
    rw [hat a ha]; exact (renO_same k _).1
  · show (evAt (p.map (renE k)) a).op.v = _
    rw [hat a ha]; exact (renO_same k _).2.1
  · show (evAt (p.map (renE k)) a).op.w = _
    rw [hat a ha]; exact (renO_same k _).2.2.1
  · show (evAt (p.map (renE k)) a).op.loc = _
    rw [hat a ha]; exact (renO_same k _).2.2.2.2 h5
  · show (evAt (p.map (renE k)) a).rel = true
    rw [hat a ha]; simp only [Ev.rel, renE, (renO_same k _).2.2.2.1] at hr ⊢; exact hr
  · show (evAt (p.map (renE k)) a).acq = true
    rw [hat a ha]; simp only [Ev.acq, renE, (renO_same k _).2.2.2.1] at hr ⊢; exact hr
  · show (evAt (p.map (renE k)) a).strong = true
    rw [hat a ha]; simp only [Ev.strong, renE, (renO_same k _).2.2.2.1, (renO_same k _).1] at hr ⊢; exact hr
  · have := rot_in hk h0 h3; exact ⟨this.1, this.2.1⟩
  · have h1 := (rot_in hk a b).2.2
    have h2 := (rot_in hk c d).2.2
    rw [h1, h2] at e
    split at e <;> split at e <;> omega

/-- There and back again. -/
theorem ren_back {k : Int} (hk : k = 1 ∨ k = 2) {o : OpV} (h0 : o.kind ≠ 5 → 0 ≤ o.loc ∧ o.loc < 3) : renO (3 - k) (renO k o) = o := by
  by_cases h5 : o.kind ≠ 5
  · obtain ⟨a, b⟩ := h0 h5
    have h1 := rot_in hk a b
    have h2 := rot_in (k := 3 - k) (by omega) h1.1 h1.2.1
    unfold renO
    rw [if_pos h5]
    have : (({ o with loc := rot k o.loc } : OpV).kind) ≠ 5 := h5
    rw [if_pos this]
    have e : rot (3 - k) (rot k o.loc) = o.loc := by
      rw [h2.2.2, h1.2.2]; split <;> split <;> omega
    show ({ o with loc := rot (3 - k) (rot k o.loc) } : OpV) = o
    rw [e]
  · unfold renO
    rw [if_neg h5, if_neg h5]

/-- What the program with locations renamed has. -/
theorem okOp_ren {k : Int} (hk : k = 1 ∨ k = 2) {o : OpV} (h : okOp o = true) : okOp (renO k o) = true := by
  obtain ⟨q1, q2, q3⟩ := (okOp_iff o).1 h
  refine (okOp_iff _).2 ?_
  obtain ⟨e1, e2, e3, e4, e5⟩ := renO_same k o
  refine ⟨by rw [e1, e4]; exact q1, by rw [e1, e4]; exact q2, ?_⟩
  by_cases h5 : o.kind = 5
  · have : renO k o = o := by unfold renO; rw [if_neg (by simpa using h5)]
    rw [this]; exact q3
  · have hl := e5 h5
    unfold fitsP at q3 ⊢
    simp only [Bool.and_eq_true, decide_eq_true_eq] at q3 ⊢
    obtain ⟨⟨l0, l3⟩, q4⟩ := q3
    have := rot_in hk l0 l3
    rw [e1, e2, e3, hl]
    refine ⟨⟨this.1, this.2.1⟩, ?_⟩
    rw [if_neg h5] at q4 ⊢
    exact q4

/-- The count of the writes of a location. -/
def LimS.wk (s : LimS) (k : Int) : Int := if k = 0 then s.w0 else if k = 1 then s.w1 else s.w2
theorem lim_ren {k : Int} (hk : k = 1 ∨ k = 2) (l : List OpV) (hall : ∀ o ∈ l, okOp o = true) :
    (limOf (l.map (renO k))).acc = (limOf l).acc ∧ (limOf (l.map (renO k))).fen = (limOf l).fen ∧ ∀ x : Int, 0 ≤ x → x < 3 → (limOf (l.map (renO k))).wk (rot k x) = (limOf l).wk x := by
  have key : ∀ (l : List OpV) (s s' : LimS), (∀ o ∈ l, okOp o = true) → s'.acc = s.acc → s'.fen = s.fen → (∀ x : Int, 0 ≤ x → x < 3 → s'.wk (rot k x) = s.wk x) →
      (((l.map (renO k)).foldl limStep s').acc = (l.foldl limStep s).acc ∧ ((l.map (renO k)).foldl limStep s').fen = (l.foldl limStep s).fen ∧ ∀ x : Int, 0 ≤ x → x < 3 → ((l.map (renO k)).foldl limStep s').wk (rot k x) = (l.foldl limStep s).wk x) := by
    intro l
    induction l with
    | nil => intro s s' _ h1 h2 h3; exact ⟨h1, h2, h3⟩
    | cons o l ih =>
      intro s s' h h1 h2 h3
      rw [List.map_cons, List.foldl_cons, List.foldl_cons]
      refine ih _ _ (fun x hx => h x (List.mem_cons_of_mem _ hx)) ?_ ?_ ?_
      all_goals
        obtain ⟨e1, e2, e3, e4, e5⟩ := renO_same k o
        have ha : accessP (renO k o) = accessP o := by unfold accessP; rw [e1]
      · unfold limStep; rw [e1, ha, e4]
        split
        · exact h1
        · split
          · simp only [h1]
          · exact h1
      · unfold limStep; rw [e1, ha, e4]
        split
        · simp only [h2]
        · split
          · simp only [h2]
          · exact h2
      · intro x hx0 hx3
        unfold limStep; rw [e1, ha, e4]
        split
        · exact h3 x hx0 hx3
        · rename_i h5
          split
          · rename_i hacc
            obtain ⟨_, _, q3⟩ := (okOp_iff o).1 (h o (List.mem_cons_self ..))
            have hl : 0 ≤ o.loc ∧ o.loc < 3 := by simp only [fitsP, Bool.and_eq_true, decide_eq_true_eq] at q3; exact q3.1
            have r1 := rot_in hk hl.1 hl.2
            have r2 := rot_in hk hx0 hx3
            have hx := h3 x hx0 hx3
            rw [e5 h5]
            generalize rot k o.loc = a at r1
            generalize rot k x = b at r2 hx
            unfold LimS.wk at hx ⊢
            dsimp only
            have ho : o.loc = 0 ∨ o.loc = 1 ∨ o.loc = 2 := by omega
            have hxc : x = 0 ∨ x = 1 ∨ x = 2 := by omega
            rcases hk with rfl | rfl <;> rcases ho with ho | ho | ho <;> rcases hxc with rfl | rfl | rfl <;> rw [ho] at r1 <;> simp at r1 r2 <;> simp only [r1, r2, ho] at hx ⊢ <;> simp at hx ⊢ <;> first | exact hx | (split <;> first | exact hx | omega | simp_all)
          · exact h3 x hx0 hx3
  have h0 : ∀ x : Int, LimS.wk ⟨0, 0, 0, 0, 0⟩ x = 0 := fun x => by
    unfold LimS.wk
    split
    · rfl
    · split <;> rfl
  refine key l ⟨0, 0, 0, 0, 0⟩ ⟨0, 0, 0, 0, 0⟩ hall rfl rfl fun x _ _ => ?_
  rw [h0, h0]

theorem check_ren {k : Int} (hk : k = 1 ∨ k = 2) {ts : List (List OpV)} (h : checkP ts = 0) : checkP (renT k ts) = 0 := by
  obtain ⟨hl, hn, hall⟩ := checkP_zero h
  have hall' := List.all_eq_true.1 hall
  have hf : (renT k ts).flatten = ts.flatten.map (renO k) := by unfold renT; rw [List.map_flatten]
  obtain ⟨l1, l2, l3⟩ := lim_ren hk ts.flatten hall'
  have hlen : (renT k ts).length = ts.length := List.length_map _
  unfold checkP
  have hlim : limitsP (renT k ts) = true := by
    unfold limitsP at hl ⊢
    rw [hf, hlen, l1, l2]
    simp only [Bool.and_eq_true, decide_eq_true_eq] at hl ⊢
    obtain ⟨⟨⟨⟨⟨a, b⟩, c⟩, d⟩, e⟩, f⟩ := hl
    have m0 := l3 0 (by omega) (by omega)
    have m1 := l3 1 (by omega) (by omega)
    have m2 := l3 2 (by omega) (by omega)
    generalize limOf (ts.flatten.map (renO k)) = s at m0 m1 m2 ⊢
    generalize limOf ts.flatten = s0 at m0 m1 m2 b c d e f
    rcases hk with rfl | rfl <;> simp [rot, LimS.wk] at m0 m1 m2 <;> exact ⟨⟨⟨⟨⟨a, b⟩, c⟩, by omega⟩, by omega⟩, by omega⟩
  rw [if_neg (by rw [hlim]; decide), if_neg (by rw [hlen]; exact hn), if_pos]
  rw [hf, List.all_map, List.all_eq_true]
  intro o ho
  exact okOp_ren hk (hall' o ho)

/-! ### Outcomes -/
/-- An outcome, its last words in another order. -/
def rotO (k : Int) (x : List Int) : List Int :=
  x.take (x.length - 3) ++ (if k = 1 then [numAt x (x.length - 3 + 2), numAt x (x.length - 3), numAt x (x.length - 3 + 1)] else [numAt x (x.length - 3 + 1), numAt x (x.length - 3 + 2), numAt x (x.length - 3)])
theorem rotO_app (k : Int) (r : List Int) (a b c : Int) : rotO k (r ++ [a, b, c]) = r ++ (if k = 1 then [c, a, b] else [b, c, a]) := by
  unfold rotO
  have e : (r ++ [a, b, c]).length - 3 = r.length := by simp
  have h : ∀ i, i < 3 → numAt (r ++ [a, b, c]) (r.length + i) = numAt [a, b, c] i := fun i hi => by
    unfold numAt; rw [List.getElem?_append_right (by omega)]; congr 2; omega
  rw [e, List.take_left' rfl]
  have h0 := h 0 (by omega); have h1 := h 1 (by omega); have h2 := h 2 (by omega)
  rw [Nat.add_zero] at h0
  rw [h0, h1, h2]; rfl

theorem outcome_shape {p : List Ev} {e : Exec} (hol : e.ord.length = 3) : ∃ r a b c, outcomeP p e = r ++ [a, b, c] ∧ r = outReads p (wordsP p e.frm) p.length ∧ a = lastOf (wordsP p e.frm) (e.ord[0]?.getD []) ∧ b = lastOf (wordsP p e.frm) (e.ord[1]?.getD []) ∧ c = lastOf (wordsP p e.frm) (e.ord[2]?.getD []) := by
  rcases ho : e.ord with _ | ⟨a, _ | ⟨b, _ | ⟨c, _ | ⟨d, l⟩⟩⟩⟩ <;> rw [ho] at hol <;> simp at hol
  exact ⟨_, _, _, _, by rw [outcomeP, ho]; rfl, rfl, rfl, rfl, rfl⟩

/-- Each outcome of the renamed program is one of the program, renamed back. -/
theorem ren_out {k : Int} (hk : k = 1 ∨ k = 2) {p : List Ev} (hp : POk p) (hmp : Mono p) (hq : POk (p.map (renE k))) (hmq : Mono (p.map (renE k))) {x : List Int} (h : IsOut (p.map (renE k)) x) : IsOut p (rotO (3 - k) x) := by
  obtain ⟨e, he, rfl⟩ := h
  have H := ren_emb hk p
  obtain ⟨hs, _, hc⟩ := (exec_iff hq hmq).1 he
  refine ⟨pullE p id id (rot k) e, pull_exec H hp hq hmq hs hmp he, ?_⟩
  rw [pull_outcome H hp hs (Round.rfOk hc.round)]
  obtain ⟨r, a, b, c, h1, h2, h3, h4, h5⟩ := outcome_shape (p := p.map (renE k)) (e := e) hs.ol
  rw [h1, rotO_app]
  have hr : (((List.range p.length).filter fun i => (evAt p i).reads).map fun i => (wordsP (p.map (renE k)) e.frm).R (id i)) = r := by
    rw [h2, outReads_eq, List.length_map]
    have : ((List.range p.length).filter fun i => (evAt p i).reads) = (List.range p.length).filter fun i => (evAt (p.map (renE k)) i).reads := by
      refine List.filter_congr fun i hi => ?_
      rw [ren_at k (by simpa using hi)]
      simp only [Ev.reads, renE, (renO_same k _).1]
    rw [this]; rfl
  rw [hr, h3, h4, h5]
  rcases hk with rfl | rfl <;> rfl

theorem ren_isOut {k : Int} (hk : k = 1 ∨ k = 2) {ts : List (List OpV)} (h : checkP ts = 0) {x : List Int} (hx : IsOut (evsOf ts) x) : IsOut (evsOf (renT k ts)) (rotO k x) := by
  have hq := check_ren hk h
  have hback : renT (3 - k) (renT k ts) = ts := by
    obtain ⟨_, _, hall⟩ := checkP_zero h
    unfold renT
    rw [List.map_map]
    conv => rhs; rw [← List.map_id ts]
    refine List.map_congr_left fun t ht => ?_
    show (t.map (renO k)).map (renO (3 - k)) = t
    rw [List.map_map]
    conv => rhs; rw [← List.map_id t]
    refine List.map_congr_left fun o ho => ?_
    have hok := List.all_eq_true.1 hall o (List.mem_flatten.2 ⟨t, ht, ho⟩)
    obtain ⟨_, _, q3⟩ := (okOp_iff o).1 hok
    exact ren_back hk fun _ => by simp only [fitsP, Bool.and_eq_true, decide_eq_true_eq] at q3; exact q3.1
  have e1 : evsOf ts = (evsOf (renT k ts)).map (renE (3 - k)) := by rw [← evs_ren, hback]
  have hp' := evs_pok hq
  have hpt := evs_pok h
  have hmt := evs_mono ts
  rw [e1] at hx hpt hmt
  have := ren_out (k := 3 - k) (by omega) hp' (evs_mono _) hpt hmt hx
  rwa [show (3 - (3 - k) : Int) = k by omega] at this

theorem outs_iff {p : List Ev} {l : List (List Int)} (h : Outs p l) {x : List Int} : x ∈ l ↔ IsOut p x := by
  rw [h.2 x, List.mem_map]; rfl
theorem Outs.nodup {p : List Ev} {l : List (List Int)} (h : Outs p l) : l.Nodup := by
  rw [List.nodup_iff_pairwise_ne]
  exact h.1.imp fun {a b} h e => by rw [e, cmpL_self] at h; omega
theorem isOut_len {p : List Ev} (hp : POk p) {x : List Int} (h : IsOut p x) : ∃ r a b c, x = r ++ [a, b, c] ∧ r.length ≤ p.length := by
  obtain ⟨e, he, rfl⟩ := h
  obtain ⟨r, a, b, c, h1, h2, _⟩ := outcome_shape (p := p) (e := e) (execsP_ok hp he).ol
  exact ⟨r, a, b, c, h1, by rw [h2]; exact outReads_len _ _ _⟩

theorem rotO_back {k : Int} (hk : k = 1 ∨ k = 2) (r : List Int) (a b c : Int) : rotO (3 - k) (rotO k (r ++ [a, b, c])) = r ++ [a, b, c] := by
  rw [rotO_app]
  rcases hk with rfl | rfl
  · rw [if_pos rfl, rotO_app]; rfl
  · rw [if_neg (by decide), rotO_app]; rfl

/-- As many outcomes. -/
theorem ren_len {k : Int} (hk : k = 1 ∨ k = 2) {ts : List (List OpV)} (h : checkP ts = 0) {l m : List (List Int)} (hl : Outs (evsOf ts) l) (hm : Outs (evsOf (renT k ts)) m) : l.length = m.length := by
  have hq := check_ren hk h
  have inj : ∀ (k : Int), (k = 1 ∨ k = 2) → ∀ {p : List Ev}, POk p → ∀ {l : List (List Int)}, Outs p l → (l.map (rotO k)).Nodup := by
    intro k hk p hp l hl
    rw [List.nodup_iff_pairwise_ne, List.pairwise_map]
    refine List.Pairwise.imp_of_mem ?_ (List.nodup_iff_pairwise_ne.1 hl.nodup)
    intro x y hx hy hne he
    obtain ⟨r, a, b, c, rfl, _⟩ := isOut_len hp ((outs_iff hl).1 hx)
    obtain ⟨r', a', b', c', rfl, _⟩ := isOut_len hp ((outs_iff hl).1 hy)
    exact hne (by rw [← rotO_back hk r a b c, he, rotO_back hk])
  have h1 : l.length ≤ m.length := by
    rw [← List.length_map (f := rotO k)]
    refine len_le_of_sub (inj k hk (evs_pok h) hl) fun x hx => ?_
    obtain ⟨y, hy, rfl⟩ := List.mem_map.1 hx
    exact (outs_iff hm).2 (ren_isOut hk h ((outs_iff hl).1 hy))
  have h2 : m.length ≤ l.length := by
    rw [show m.length = (m.map (rotO (3 - k))).length from (List.length_map _).symm]
    refine len_le_of_sub (inj (3 - k) (by omega) (evs_pok hq) hm) fun x hx => ?_
    obtain ⟨y, hy, rfl⟩ := List.mem_map.1 hx
    have hpq := evs_pok hq
    have hmq := evs_mono (renT k ts)
    have hy' := (outs_iff hm).1 hy
    rw [evs_ren] at hpq hmq hy'
    exact (outs_iff hl).2 (ren_out hk (evs_pok h) (evs_mono ts) hpq hmq hy')
  omega

end Go.EV

namespace Go.EV
open Go.Proofs

theorem and1 (x : Int) : ∃ b : Nat, b ≤ 1 ∧ IntKind.i64.wrap ((BitVec.ofInt IntKind.i64.bits x &&& BitVec.ofInt IntKind.i64.bits 1).toNat : Int) = b := by
  refine ⟨(BitVec.ofInt IntKind.i64.bits x &&& BitVec.ofInt IntKind.i64.bits 1).toNat, ?_, w64 (by omega) ?_⟩
  · rw [BitVec.toNat_and]
    have : (BitVec.ofInt IntKind.i64.bits 1).toNat = 1 := by decide
    rw [this, Nat.and_one_is_mod]; omega
  · have : (BitVec.ofInt IntKind.i64.bits x &&& BitVec.ofInt IntKind.i64.bits 1).toNat ≤ 1 := by
      rw [BitVec.toNat_and]
      have : (BitVec.ofInt IntKind.i64.bits 1).toNat = 1 := by decide
      rw [this, Nat.and_one_is_mod]; omega
    omega

/-- A thread's operations, the first ones renamed. -/
def renI (k : Int) (t : List OpV) (i : Nat) : List OpV := (t.take i).map (renO k) ++ t.drop i
theorem renI_len (k : Int) (t : List OpV) (i : Nat) : (renI k t i).length = t.length := by
  simp only [renI, List.length_append, List.length_map, List.length_take, List.length_drop]; omega
theorem renI_at {k : Int} {t : List OpV} {i : Nat} (h : i < t.length) : (renI k t i)[i]'(by rw [renI_len]; exact h) = t[i] := by
  simp only [renI]
  rw [List.getElem_append_right (by rw [List.length_map, List.length_take]; omega)]
  simp [List.length_take, Nat.min_eq_left (Nat.le_of_lt h)]
theorem renI_succ {k : Int} {t : List OpV} {i : Nat} (h : i < t.length) : renI k t (i + 1) = (renI k t i).set i (renO k t[i]) := by
  unfold renI
  rw [List.take_succ_eq_append_getElem h, List.map_append, List.set_append_right _ _ (by rw [List.length_map, List.length_take]; omega)]
  have e : i - ((t.take i).map (renO k)).length = 0 := by simp [Nat.min_eq_left (Nat.le_of_lt h)]
  have e2 : t.drop i = t[i] :: t.drop (i + 1) := List.drop_eq_getElem_cons h
  rw [e, e2, List.set_cons_zero, List.append_assoc]; rfl

/-- Cells of operations, a location written. -/
theorem ops_loc (sp : List Value) (x : Int) : ∀ (l : List OpV) (i : Nat) (h : i < l.length),
    (l.flatMap encOp ++ sp).take (i * 5 + 1) ++ (vi x :: (l.flatMap encOp ++ sp).drop (i * 5 + 2)) = (l.set i { l[i] with loc := x }).flatMap encOp ++ sp
  | o :: l, 0, _ => by simp [List.flatMap_cons, encOp]
  | o :: l, i + 1, h => by
    have ih := ops_loc sp x l i (by simpa using h)
    have h1 : (i + 1) * 5 + 1 = (i * 5 + 1) + 5 := by omega
    have h2 : (i + 1) * 5 + 2 = (i * 5 + 2) + 5 := by omega
    rw [List.flatMap_cons, List.set_cons_succ, List.flatMap_cons, h1, h2]
    simp only [encOp, List.cons_append, List.nil_append, List.take_succ_cons, List.drop_succ_cons, List.getElem_cons_succ]
    rw [ih]

theorem ops_get (sp : List Value) (l : List OpV) (i : Nat) (h : i < l.length) : ((l.flatMap encOp ++ sp).drop (i * 5)).take 5 = encOp l[i] := by
  have hl := ops_cells l
  rw [List.drop_append_of_le_length (by omega), List.take_append_of_le_length (by rw [List.length_drop]; omega)]
  exact flatMap_part (sz := 5) (enc := encOp) (fun _ => rfl) h

section
variable {M : PHeap} {G : Own} {b : Nat} {T : TypeId} {l : List OpV} {sp : List Value} {i : Nat}
theorem rd_opX [hA : At G b T (l.flatMap encOp ++ sp)] (h : i < l.length) : rd (M.add G) b (i * 5) 5 (encOp l[i]) :=
  rd_at hA.mem (ops_get sp l i h) (by rw [List.length_append, ops_cells]; omega)
theorem rd_opK [hA : At G b T (l.flatMap encOp ++ sp)] (h : i < l.length) : rd (M.add G) b (i * 5) 1 [vi l[i].kind] := (rd_opX h).part (i := 0) (m := 1) (by omega)
theorem rd_opL [hA : At G b T (l.flatMap encOp ++ sp)] (h : i < l.length) : rd (M.add G) b (i * 5 + 1) 1 [vi l[i].loc] := (rd_opX h).part (i := 1) (m := 1) (by omega)
theorem rd_thV {l : Ths} [hA : At G b T (thV l ++ sp)] (h : i < l.length) : rd (M.add G) b i 1 [osv l[i].1 l[i].2.length] := by
  refine rd_at hA.mem ?_ (by rw [List.length_append, thV_len]; omega)
  rw [List.drop_append_of_le_length (by rw [thV_len]; omega), List.take_append_of_le_length (by rw [List.length_drop, thV_len]; omega)]
  unfold thV
  rw [row_part (fun x : Vec × List OpV => osv x.1 x.2.length) l h]
end

theorem thG_split {l : Ths} {t : Nat} (h : t < l.length) : thG l = thG (l.take t) ++ (osg 33 l[t].1 (l[t].2.flatMap encOp) ++ thG (l.drop (t + 1))) := by
  have e : l = l.take t ++ ([l[t]] ++ l.drop (t + 1)) := by rw [List.singleton_append, List.getElem_cons_drop, List.take_append_drop]
  conv => lhs; rw [e]
  rw [thG_app, thG_app, thG_one]

theorem thG_set {l : Ths} {t : Nat} (h : t < l.length) (x : Vec × List OpV) : thG (l.set t x) = thG (l.take t) ++ (osg 33 x.1 (x.2.flatMap encOp) ++ thG (l.drop (t + 1))) := by
  rw [List.set_eq_take_append_cons_drop, if_pos h]
  have e : l.take t ++ x :: l.drop (t + 1) = l.take t ++ ([x] ++ l.drop (t + 1)) := rfl
  rw [e, thG_app, thG_app, thG_one]
theorem thV_set {l : Ths} {t : Nat} (h : t < l.length) (x : Vec × List OpV) (h1 : x.1 = l[t].1) (h2 : x.2.length = l[t].2.length) : thV (l.set t x) = thV l := by
  unfold thV
  rw [List.map_set, h1, h2]
  have : osv l[t].1 l[t].2.length = (l.map fun x : Vec × List OpV => osv x.1 x.2.length)[t]'(by rw [List.length_map]; exact h) := by rw [List.getElem_map]
  rw [this, List.set_getElem_self]

/-- Rows of words that are put in another order, one by one. -/
def rotW (k n : Nat) (y : List Int) : Nat → List Int
  | 0 => y
  | w + 1 => (rotW k n y w).set (n + (w + k) % 3) (numAt y (n + w))
theorem rotW_len (k n : Nat) (y : List Int) : ∀ w, (rotW k n y w).length = y.length
  | 0 => rfl
  | w + 1 => by rw [rotW, List.length_set, rotW_len k n y w]
theorem rotW_end {k : Nat} (hk : k = 1 ∨ k = 2) (r : List Int) (a b c : Int) : rotW k r.length (r ++ [a, b, c]) 3 = rotO k (r ++ [a, b, c]) := by
  rw [rotO_app]
  have hn : ∀ i, i < 3 → numAt (r ++ [a, b, c]) (r.length + i) = numAt [a, b, c] i := fun i hi => by
    unfold numAt; rw [List.getElem?_append_right (by omega)]; congr 2; omega
  have hs : ∀ (l : List Int) (j : Nat) (x : Int), (r ++ l).set (r.length + j) x = r ++ l.set j x := fun l j x => by
    rw [List.set_append_right _ _ (by omega)]; congr 2; omega
  rcases hk with rfl | rfl
  · simp only [rotW, hn 0 (by omega), hn 1 (by omega), hn 2 (by omega)]
    rw [hs, hs, hs]; rfl
  · simp only [rotW, hn 0 (by omega), hn 1 (by omega), hn 2 (by omega)]
    rw [hs, hs, hs]; rfl

section
variable {M : PHeap}

set_option maxHeartbeats 4000000 in
theorem AxiomPlaces_c (ts : List (List OpV)) (s : Value) (hs : SlSl M 5 encOp s ts) (hb : Sized ts) (by_ : Int) : Con Try.prog 3 #[.agg #[s], vi by_] M [] fun u _ _ => u = vb true := by
  have hs0 := hs
  obtain ⟨a, c, vs, rfl, hl, hrd, hk⟩ := hs
  refine Con.enter Q61_ok (args := [.agg #[.slice a ts.length c], vi by_]) (by simp [Q61]) fun w0 => ?_
  simp only [Q61, argE]
  repeat' first
      | refine EV.seq ?_
      | (refine EV.reg ?_; (conv => (arg 2; whnf)); (refine nx ?_; try with_reducible exact ⟨⟩))
      | (with_reducible intro b; try (refine nx ?_; try with_reducible exact ⟨⟩))
      | fail
  refine Con.callS (G1 := []) awake_c ?_
  rintro v M1 G1 hM1 rfl
  simp only [wpS, wpA, wpQL, push_cast, Int.cast_ofNat_Int, reduceIte, Nat.reduceEqDiff, reduceCtorEq, Nat.reduceAdd, Nat.reduceSub, Nat.reduceMul, Int.reduceToNat, Nat.reduceLeDiff]
  repeat' first
      | refine EV.seq ?_
      | refine EV.skip ?_
      | (refine EV.reg ?_; (conv => (arg 2; whnf)); (refine nx ?_; try with_reducible exact ⟨⟩))
      | (refine EV.condX rfl (fun h => ?_) (fun h => ?_) <;> try exact dead h)
      | (refine xrA rfl ?_; try (refine nx ?_; try with_reducible exact ⟨⟩))
      | fail
  obtain ⟨pb, rfl⟩ : ∃ x, x = b := ⟨_, rfl⟩
  refine Con.callS (G1 := []) (ax_Outcomes_c ts _ (hs0.mono hM1) hb) ?_
  rintro v M2 G2 hM2 (⟨hne, rfl⟩ | ⟨hck, s', outs, rfl, ho, hs'⟩)
  · simp only [wpS, wpA, wpQL, push_cast, Int.cast_ofNat_Int, reduceIte, Nat.reduceEqDiff, reduceCtorEq, Nat.reduceAdd, Nat.reduceSub, Nat.reduceMul, Int.reduceToNat, Nat.reduceLeDiff]
    repeat' first
        | refine EV.seq ?_
        | (refine EV.reg ?_; (conv => (arg 2; whnf)); simp only [wpS, wpA, wpQL, push_cast, Int.cast_ofNat_Int, reduceIte, Nat.reduceEqDiff, reduceCtorEq, Nat.reduceAdd, Nat.reduceSub, Nat.reduceMul, Int.reduceToNat, Nat.reduceLeDiff, hne])
        | (refine EV.condX rfl (fun h => ?_) (fun h => ?_) <;> try exact dead h)
        | fail
    refine EV.ret Q61_ok ?_
    simp only [wpS, wpA, wpQL, push_cast, Int.cast_ofNat_Int, reduceIte, Nat.reduceEqDiff, reduceCtorEq, Nat.reduceAdd, Nat.reduceSub, Nat.reduceMul, Int.reduceToNat, Nat.reduceLeDiff, Q61]
    rfl
  obtain ⟨ua, uc, us, rfl, hul, hurd, huk⟩ := hs'.sl
  simp only [wpS, wpA, wpQL, push_cast, Int.cast_ofNat_Int, reduceIte, Nat.reduceEqDiff, reduceCtorEq, Nat.reduceAdd, Nat.reduceSub, Nat.reduceMul, Int.reduceToNat, Nat.reduceLeDiff]
  obtain ⟨b0, hb0, hand⟩ := and1 by_
  obtain ⟨k, hk1⟩ : ∃ k : Nat, k = 1 + b0 := ⟨_, rfl⟩
  have hkI : IntKind.i64.wrap (1 + (b0 : Int)) = k := by rw [w64 (by omega) (by omega)]; omega
  have hk2 : (k : Int) = 1 ∨ (k : Int) = 2 := by omega
  repeat' first
      | refine EV.seq ?_
      | refine EV.skip ?_
      | (refine EV.reg ?_; (conv => (arg 2; whnf)); simp only [wpS, wpA, wpQL, push_cast, Int.cast_ofNat_Int, reduceIte, Nat.reduceEqDiff, reduceCtorEq, Nat.reduceAdd, Nat.reduceSub, Nat.reduceMul, Int.reduceToNat, Nat.reduceLeDiff, hand, hkI])
      | (refine EV.condX rfl (fun h => ?_) (fun h => ?_) <;> try exact dead h)
      | (refine xrA rfl ?_; try simp only [wpS, wpA, wpQL, push_cast, Int.cast_ofNat_Int, reduceIte, Nat.reduceEqDiff, reduceCtorEq, Nat.reduceAdd, Nat.reduceSub, Nat.reduceMul, Int.reduceToNat, Nat.reduceLeDiff, hand, hkI])
      | fail
  have hsm := checkP_small hck
  have hM12 := PHeap.le_trans hM1 hM2
  have hthl : ∀ t ∈ ts, t.length < 1000000 := fun t ht => by
    obtain ⟨i, hi, rfl⟩ := List.getElem_of_mem ht
    have h1 := flat_take hi
    have h2 := flat_take_le ts (i + 1)
    rw [h1, List.length_append] at h2; omega
  refine Con.callS (G1 := []) (ref_OwnO_c ts _ (hs0.mono hM12) hb (by omega) hthl) ?_
  rintro v M3 G3 hM3 ⟨rfl, ov, l, rfl, hov, hok, hlt, R, rfl⟩
  have hll : l.length = ts.length := by rw [← hlt, List.length_map]
  simp only [wpS, wpA, wpQL, push_cast, Int.cast_ofNat_Int, reduceIte, Nat.reduceEqDiff, reduceCtorEq, Nat.reduceAdd, Nat.reduceSub, Nat.reduceMul, Int.reduceToNat, Nat.reduceLeDiff]
  repeat' first
      | refine EV.seq ?_
      | refine EV.block ?_
      | (refine EV.reg ?_; (conv => (arg 2; whnf)); (refine nx ?_; try with_reducible exact ⟨⟩))
      | (with_reducible intro b; try (refine nx ?_; try with_reducible exact ⟨⟩))
      | (refine xw ?_; (refine nx ?_; try with_reducible exact ⟨⟩))
      | fail
  obtain ⟨qb, rfl⟩ : ∃ x, x = b := ⟨_, rfl⟩
  rcases ov with _ | ⟨ob, ocp, osp⟩
  · exfalso
    have := hov.1
    obtain ⟨_, hn, _⟩ := checkP_zero hck
    omega
  have hlt0 := hlt
  refine EV.reS (G' := (qb, Cl 24 [osv (some (ob, ocp, osp)) l.length]) :: (osg 31 (some (ob, ocp, osp)) (thV l) ++ thG l)) ?_
  have hhov : osok 1 (some (ob, ocp, osp)) l.length (thV l) := hov
  refine EV.loopTo (fun x : Nat × Ths => ([(4, .bool false), (5, .slice ua outs.length uc), (7, vi k), (8, pv qb 0), (9, vi x.1)], M3, (qb, Cl 24 [.slice (some ⟨ob, 0, none⟩) ts.length ocp]) :: (ob, Cl 31 (thV x.2 ++ osp)) :: thG x.2))
    (fun x => x.1 ≤ ts.length ∧ thV x.2 = thV l ∧ thOk x.2 ∧ x.2.map (·.2) = (ts.take x.1).map (List.map (renO k)) ++ ts.drop x.1) (fun x => ts.length - x.1) (0, l) rfl ⟨Nat.zero_le _, rfl, hok, by rw [hlt0]; rfl⟩ ?env1 (by rw [hll]; exact List.Sublist.refl _) ?_
  case env1 =>
    repeat' first
      | (refine List.forall_mem_cons.2 (And.intro ?_ ?_))
      | (intro _ hnil; cases hnil; done)
      | rfl
      | fail
  rintro ⟨t, lt⟩ ⟨ht, hV, hoks, hmp⟩ ih
  dsimp only at ht hV hoks hmp ih ⊢
  have hltl : lt.length = ts.length := by
    have := congrArg List.length hmp
    simp only [List.length_map, List.length_append, List.length_take, List.length_drop] at this; omega
  repeat' first
      | refine EV.seq ?_
      | refine EV.skip ?_
      | refine EV.block ?_
      | (refine EV.reg ?_; (conv => (arg 2; whnf)); (refine nx ?_; try with_reducible exact ⟨⟩))
      | (refine EV.condX rfl (fun h => ?_) (fun h => ?_) <;> try exact dead h)
      | (refine EV.exit rfl ?_)
      | ((first | refine xrA rfl ?_ | refine xsA rfl ?_ | fail); try (refine nx ?_; try with_reducible exact ⟨⟩))
      | fail
  · have ht' : t < ts.length := by omega
    have ht2 : t < lt.length := by omega
    obtain ⟨o, hx⟩ : ∃ o, lt[t] = (o, ts[t]) := by
      have h1 : (lt.map (·.2))[t]? = some ts[t] := by
        rw [hmp, List.getElem?_append_right (by rw [List.length_map, List.length_take]; omega), List.getElem?_drop]
        have e : t + (t - ((ts.take t).map (List.map (renO k))).length) = t := by rw [List.length_map, List.length_take]; omega
        rw [e, List.getElem?_eq_getElem ht']
      rw [List.getElem?_map, List.getElem?_eq_getElem ht2] at h1
      simp only [Option.map_some, Option.some.injEq] at h1
      exact ⟨lt[t].1, by rw [← h1]⟩
    have hokt : osok 5 o ts[t].length (ts[t].flatMap encOp) := by have := hoks _ (List.getElem_mem ht2); rw [hx] at this; exact this
    have hrow : ∀ (G : Own) [At G ob 31 (thV lt ++ osp)], rd (M3.add G) ob t 1 [.slice (oad o) ts[t].length (ocap o)] := fun G _ => by
      have := rd_thV (M := M3) (G := G) (b := ob) (T := 31) (sp := osp) (l := lt) ht2
      rw [hx] at this; exact this
    have htl := hthl _ (List.getElem_mem ht')
    have hsp := thG_split ht2
    rw [hx] at hsp
    refine EV.permG ?_ (show List.Perm _ ((qb, Cl 24 [.slice (some ⟨ob, 0, none⟩) ts.length ocp]) :: (ob, Cl 31 (thV lt ++ osp)) :: (osg 33 o ((renI k ts[t] 0).flatMap encOp) ++ (thG (lt.take t) ++ thG (lt.drop (t + 1))))) from by
      rw [hsp]
      refine List.Perm.cons _ (List.Perm.cons _ ?_)
      show List.Perm (thG (lt.take t) ++ (osg _ o (ts[t].flatMap encOp) ++ thG (lt.drop (t + 1)))) _
      rw [← List.append_assoc, ← List.append_assoc]
      exact List.Perm.append_right _ List.perm_append_comm)
    refine EV.loopTo (fun i : Nat => ([(4, .bool false), (5, .slice ua outs.length uc), (7, vi k), (8, pv qb 0), (9, vi t), (10, vi i)], M3, (qb, Cl 24 [.slice (some ⟨ob, 0, none⟩) ts.length ocp]) :: (ob, Cl 31 (thV lt ++ osp)) :: (osg 33 o ((renI k ts[t] i).flatMap encOp) ++ (thG (lt.take t) ++ thG (lt.drop (t + 1))))))
      (fun i => i ≤ ts[t].length) (fun i => ts[t].length - i) 0 rfl (Nat.zero_le _) ?env2 (List.Sublist.refl _) ?_
    case env2 =>
      repeat' first
        | (refine List.forall_mem_cons.2 (And.intro ?_ ?_))
        | (intro _ hnil; cases hnil; done)
        | rfl
        | fail
    intro i hi ih2
    dsimp only at hi ih2 ⊢
    by_cases hit : i < ts[t].length
    · have k1 : ((i : Int) < (ts[t].length : Int)) = True := eq_true (by omega)
      rcases o with _ | ⟨tb, tc, tsp⟩
      · exfalso; have := hokt.1; omega
      have hri : i < (renI k ts[t] i).length := by rw [renI_len]; exact hit
      have hK : ∀ (G : Own) [At G tb 33 ((renI k ts[t] i).flatMap encOp ++ tsp)], rd (M3.add G) tb (i * 5) 1 [vi ts[t][i].kind] := fun G _ => by
        have := rd_opK (M := M3) (G := G) (b := tb) (T := 33) (sp := tsp) hri
        rw [renI_at hit] at this; exact this
      have hL : ∀ (G : Own) [At G tb 33 ((renI k ts[t] i).flatMap encOp ++ tsp)], rd (M3.add G) tb (i * 5 + 1) 1 [vi ts[t][i].loc] := fun G _ => by
        have := rd_opL (M := M3) (G := G) (b := tb) (T := 33) (sp := tsp) hri
        rw [renI_at hit] at this; exact this
      have hop : okOp ts[t][i] = true := by
        obtain ⟨_, _, hall⟩ := checkP_zero hck
        exact List.all_eq_true.1 hall _ (List.mem_flatten.2 ⟨ts[t], List.getElem_mem ht', List.getElem_mem hit⟩)
      have hlc : 0 ≤ ts[t][i].loc ∧ ts[t][i].loc < 3 := by
        obtain ⟨_, _, q3⟩ := (okOp_iff _).1 hop
        simp only [fitsP, Bool.and_eq_true, decide_eq_true_eq] at q3; exact q3.1
      have hadd : IntKind.i64.wrap (ts[t][i].loc + (k : Int)) = ts[t][i].loc + (k : Int) := w64 (by omega) (by omega)
      have hset := renI_succ (k := (k : Int)) hit
      simp only [osg, oad_some, ocap_some, List.cons_append, List.nil_append] at hrow ih2 ⊢
      have hloc := ops_loc tsp (rot k ts[t][i].loc) (renI k ts[t] i) i hri
      rw [renI_at hit] at hloc
      repeat' first
          | refine EV.seq ?_
          | refine EV.skip ?_
          | refine EV.block ?_
          | refine EV.inBlock ?_
          | (refine EV.reg ?_; (conv => (arg 2; whnf)); simp only [wpS, wpA, wpQL, push_cast, Int.cast_ofNat_Int, reduceIte, Nat.reduceEqDiff, reduceCtorEq, Nat.reduceAdd, Nat.reduceSub, Nat.reduceMul, Int.reduceToNat, Nat.reduceLeDiff, k1])
          | ((first | refine Exists.intro _ (And.intro (hK _) ?_) | refine Exists.intro _ (Exists.intro _ (Exists.intro _ (And.intro (hrow _) ?_))) | fail); try simp only [wpS, wpA, wpQL, push_cast, Int.cast_ofNat_Int, reduceIte, Nat.reduceEqDiff, reduceCtorEq, Nat.reduceAdd, Nat.reduceSub, Nat.reduceMul, Int.reduceToNat, Nat.reduceLeDiff, k1])
          | (refine EV.condX rfl (fun h => ?_) (fun h => ?_) <;> try exact dead h)
          | (refine And.intro (by omega) ?_)
          | (refine xsA rfl ?_; try simp only [wpS, wpA, wpQL, push_cast, Int.cast_ofNat_Int, reduceIte, Nat.reduceEqDiff, reduceCtorEq, Nat.reduceAdd, Nat.reduceSub, Nat.reduceMul, Int.reduceToNat, Nat.reduceLeDiff, k1])
          | fail
      · refine EV.any (t := Q61_13) [(qb, Cl 24 [.slice (some ⟨ob, 0, none⟩) ts.length ocp]), (ob, Cl 31 (thV lt ++ osp)), (tb, Cl 33 ((renI k ts[t] i).flatMap encOp ++ tsp))] (List.Sublist.cons_cons _ (List.Sublist.cons_cons _ (List.Sublist.cons_cons _ (List.nil_sublist _)))) ?_
        simp only [norm_cons, norm_nil, get_cons, get_nil, reduceIte, Nat.reduceEqDiff]
        repeat' first
            | ((first | refine wQ_op (by first | with_reducible assumption | rfl) (fun lq hlq => ?_) | refine wQ_nil (by first | with_reducible assumption | rfl) ?_ | refine Exists.intro _ (Exists.intro _ (Exists.intro _ (And.intro (hrow _) ?_))) | refine Exists.intro _ (And.intro (hL _) ?_) | fail); try simp only [push_cast, Int.cast_ofNat_Int, reduceIte, Nat.reduceEqDiff, reduceCtorEq, Nat.reduceAdd, Nat.reduceSub, Nat.reduceMul, Int.reduceToNat, Nat.reduceLeDiff, hadd, show ¬ (3 : Int) = 0 by decide])
            | (refine wA_sT (by first | with_reducible assumption | rfl) (fun tq htq => ?_) (fun tq htq => ?_) <;> try simp only [push_cast, Int.cast_ofNat_Int, reduceIte, Nat.reduceEqDiff, reduceCtorEq, Nat.reduceAdd, Nat.reduceSub, Nat.reduceMul, Int.reduceToNat, Nat.reduceLeDiff, hadd, show ¬ (3 : Int) = 0 by decide])
            | exact wA_no (by first | with_reducible assumption | rfl)
            | (refine And.intro (by omega) ?_)
            | ((first | refine xsA rfl ?_ | refine xw ?_ | fail); try simp only [push_cast, Int.cast_ofNat_Int, reduceIte, Nat.reduceEqDiff, reduceCtorEq, Nat.reduceAdd, Nat.reduceSub, Nat.reduceMul, Int.reduceToNat, Nat.reduceLeDiff, hadd, show ¬ (3 : Int) = 0 by decide])
            | fail
        refine ⟨by rw [List.length_append, ops_cells, renI_len]; omega, ?_⟩
        have hren : renO k ts[t][i] = { ts[t][i] with loc := rot k ts[t][i].loc } := by unfold renO; rw [if_pos h]
        rw [show (ts[t][i].loc + (k : Int)).tmod 3 = rot k ts[t][i].loc from rfl, show i * 5 + 1 + 1 = i * 5 + 2 from rfl, hloc, ← hren, ← hset]
        repeat' first
            | (refine wQ_nil (by first | with_reducible assumption | rfl) ?_; try (refine nz ?_; try with_reducible exact ⟨⟩))
            | refine wA_q (by first | with_reducible assumption | rfl) (fun lq tq hlq htq => ?_)
            | refine wA_fin (by first | with_reducible assumption | rfl) ?_
            | fail
        repeat' first
            | refine EV.inBlock ?_
            | (refine EV.reg ?_; (conv => (arg 2; whnf)); (refine nx ?_; try with_reducible exact ⟨⟩))
            | fail
        refine EV.toS (ih2 (i + 1) (by omega) (by omega)) ?_
        repeat' first
          | (refine List.forall_mem_cons.2 (And.intro ?_ ?_))
          | (intro _ hnil; cases hnil; done)
          | rfl
          | (refine env_w64 rfl (by first | rfl | (push_cast; first | rfl | omega)) (by omega) (by omega); done)
          | fail
      · have hsame : renI k ts[t] (i + 1) = renI k ts[t] i := by
          have e0 : renO k ts[t][i] = ts[t][i] := by unfold renO; rw [if_neg (by simpa using h)]
          rw [hset, e0]
          have e1 : ts[t][i] = (renI k ts[t] i)[i] := (renI_at hit).symm
          rw [e1, List.set_getElem_self]
        have ih3 := ih2 (i + 1) (by omega) (by omega)
        rw [hsame] at ih3
        refine EV.toS ih3 ?_
        repeat' first
          | (refine List.forall_mem_cons.2 (And.intro ?_ ?_))
          | (intro _ hnil; cases hnil; done)
          | rfl
          | (refine env_w64 rfl (by first | rfl | (push_cast; first | rfl | omega)) (by omega) (by omega); done)
          | fail
    · have hie : i = ts[t].length := by omega
      have k1 : ((i : Int) < (ts[t].length : Int)) = False := eq_false (by omega)
      repeat' first
          | refine EV.seq ?_
          | refine EV.inBlock ?_
          | (refine EV.reg ?_; (conv => (arg 2; whnf)); simp only [wpS, wpA, wpQL, push_cast, Int.cast_ofNat_Int, reduceIte, Nat.reduceEqDiff, reduceCtorEq, Nat.reduceAdd, Nat.reduceSub, Nat.reduceMul, Int.reduceToNat, Nat.reduceLeDiff, k1])
          | (refine Exists.intro _ (Exists.intro _ (Exists.intro _ (And.intro (hrow _) ?_))); try simp only [wpS, wpA, wpQL, push_cast, Int.cast_ofNat_Int, reduceIte, Nat.reduceEqDiff, reduceCtorEq, Nat.reduceAdd, Nat.reduceSub, Nat.reduceMul, Int.reduceToNat, Nat.reduceLeDiff, k1])
          | (refine EV.condX rfl (fun h => ?_) (fun h => ?_) <;> try exact dead h)
          | (refine EV.exit rfl ?_)
          | (refine And.intro (by omega) ?_)
          | (refine xsA rfl ?_; try simp only [wpS, wpA, wpQL, push_cast, Int.cast_ofNat_Int, reduceIte, Nat.reduceEqDiff, reduceCtorEq, Nat.reduceAdd, Nat.reduceSub, Nat.reduceMul, Int.reduceToNat, Nat.reduceLeDiff, k1])
          | fail
      subst hie
      have hend : renI k ts[t] ts[t].length = ts[t].map (renO k) := by simp [renI]
      have hx1 : (lt[t]).1 = o := by rw [hx]
      have hx2 : (lt[t]).2 = ts[t] := by rw [hx]
      have hsetV : thV (lt.set t (o, ts[t].map (renO k))) = thV lt := thV_set ht2 _ hx1.symm (by rw [hx2, List.length_map])
      have hsetG := thG_set ht2 (o, ts[t].map (renO k))
      have ih3 := ih (t + 1, lt.set t (o, ts[t].map (renO k))) ⟨by dsimp only; omega, by dsimp only; rw [hsetV]; exact hV, fun x hxm => ?_, ?_⟩ (by dsimp only; omega)
      · dsimp only at ih3
        rw [hsetV, hsetG, ← hend] at ih3
        refine EV.toS ih3 ?_
        repeat' first
          | (refine List.forall_mem_cons.2 (And.intro ?_ ?_))
          | (intro _ hnil; cases hnil; done)
          | rfl
          | (refine env_w64 rfl (by first | rfl | (push_cast; first | rfl | omega)) (by omega) (by omega); done)
          | fail
      · rcases List.mem_or_eq_of_mem_set hxm with h1 | rfl
        · exact hoks x h1
        · dsimp only
          have h2 := ops_cells (ts[t].map (renO k))
          have h3 := ops_cells ts[t]
          rw [List.length_map] at h2 ⊢
          cases o with
          | none =>
            obtain ⟨g1, g2⟩ := hokt
            refine ⟨g1, List.length_eq_zero_iff.1 (by omega)⟩
          | some q =>
            obtain ⟨q1, q2, q3⟩ := q
            obtain ⟨g1, g2, g3, g4⟩ := hokt
            refine ⟨h2, ?_, g3, g4⟩
            rw [List.length_append] at g2 ⊢; omega
      · dsimp only
        rw [List.map_set, hmp, List.set_append_right _ _ (by rw [List.length_map, List.length_take]; omega), List.take_succ_eq_append_getElem ht', List.map_append, List.append_assoc]
        congr 1
        have e0 : t - ((ts.take t).map (List.map (renO k))).length = 0 := by rw [List.length_map, List.length_take]; omega
        rw [e0, List.drop_eq_getElem_cons ht', List.set_cons_zero]; rfl
  · have hte : t = ts.length := by omega
    subst hte
    rw [List.take_length, List.drop_length, List.append_nil] at hmp
    have hq0 := check_ren hk2 hck
    refine CallW.frzS ((ob, Cl 31 (thV lt ++ osp)) :: thG lt) ?_
    generalize hR : M3.add _ = N
    have hMN : M3.le N := hR ▸ PHeap.le_add _ _
    have hsq : SlSl N 5 encOp (.slice (some ⟨ob, 0, none⟩) ts.length ocp) (renT k ts) := by
      have := th_sl (M := M3) (G := (ob, Cl 31 (thV lt ++ osp)) :: thG lt) (ov := some (ob, ocp, osp)) (l := lt) (by rw [hltl, hV, ← hll]; exact hhov) hoks (fun q hq => by simp only [osg, List.mem_singleton] at hq; rw [hq]; exact List.mem_cons_self ..) (fun q hq => List.mem_cons_of_mem _ hq)
      rw [hR, hltl, hmp] at this
      exact this
    clear hR
    refine Con.callS (G1 := []) (ax_Outcomes_c (renT k ts) _ hsq ⟨by simp [renT]; omega, fun t ht => ?_⟩) ?_
    · obtain ⟨t0, h0, rfl⟩ := List.mem_map.1 ht
      have := hthl t0 h0; rw [List.length_map]; omega
    rintro v M4 G4 hM4 (⟨hne, _⟩ | ⟨_, s2, outs2, rfl, ho2, hs2⟩)
    · exact absurd hq0 hne
    have hlen := ren_len hk2 hck ho ho2
    obtain ⟨ma, mc, ms, rfl, hml, hmrd, hmk⟩ := hs2.sl
    have hle : ((outs.length : Int) = (outs2.length : Int)) = True := eq_true (by omega)
    have hp1 := evs_pok hck
    have hfew := outs_few hp1 (evs_mono ts) (evs_few hck) ho.nodup (fun x hx => (outs_iff ho).1 hx)
    have hout2l : ∀ x ∈ outs2, x.length ≤ 281474976710656 := fun x hx => by
      obtain ⟨r, a, b, c, rfl, hr⟩ := isOut_len (evs_pok hq0) ((outs_iff ho2).1 hx)
      have := (evs_pok hq0).len
      rw [List.length_append]; simp; omega
    simp only [wpS, wpA, wpQL, push_cast, Int.cast_ofNat_Int, reduceIte, Nat.reduceEqDiff, reduceCtorEq, Nat.reduceAdd, Nat.reduceSub, Nat.reduceMul, Int.reduceToNat, Nat.reduceLeDiff]
    repeat' first
        | refine EV.seq ?_
        | refine EV.skip ?_
        | refine EV.block ?_
        | (refine EV.reg ?_; (conv => (arg 2; whnf)); simp only [wpS, wpA, wpQL, push_cast, Int.cast_ofNat_Int, reduceIte, Nat.reduceEqDiff, reduceCtorEq, Nat.reduceAdd, Nat.reduceSub, Nat.reduceMul, Int.reduceToNat, Nat.reduceLeDiff, hle])
        | with_reducible assumption
        | (refine condW.merge ?_ (fun hc K' hK => ?_) ?_; rotate_left)
        | (refine EV.condX rfl (fun h => ?_) (fun h => ?_) <;> try exact dead h)
        | fail
    · exfalso; simp at h
    refine EV.reS (G' := []) ?_
    have hM34 := PHeap.le_trans hMN hM4
    refine EV.loopTo (fun i : Nat => ([(4, .bool false), (5, .slice ua outs.length uc), (7, vi k), (11, .slice ma outs2.length mc), (13, vi i)], M4, [])) (fun i => i ≤ outs.length) (fun i => outs.length - i) 0 rfl (Nat.zero_le _) ?env3 (List.nil_sublist _) ?_
    case env3 =>
      repeat' first
        | (refine List.forall_mem_cons.2 (And.intro ?_ ?_))
        | (intro _ hnil; cases hnil; done)
        | rfl
        | fail
    intro i hi ih5
    dsimp only at hi ih5 ⊢
    repeat' first
        | refine EV.seq ?_
        | refine EV.skip ?_
        | refine EV.block ?_
        | (refine EV.reg ?_; (conv => (arg 2; whnf)); (refine nx ?_; try with_reducible exact ⟨⟩))
        | (refine EV.condX rfl (fun h => ?_) (fun h => ?_) <;> try exact dead h)
        | (refine EV.exit rfl ?_)
        | fail
    · have hi' : i < outs.length := by omega
      obtain ⟨ub, uo, rfl, hat⟩ := SlSl.at hurd hul huk (by omega)
      obtain ⟨a', c', hr1, hr2⟩ := hat i hi'
      have hr1 := hr1.mono hM34
      have hr2 := hr2.mono hM34
      simp only [Nat.mul_one] at hr1
      have hyo := (outs_iff ho).1 (List.getElem_mem hi')
      have hyin : rotO k outs[i] ∈ outs2 := (outs_iff ho2).2 (ren_isOut hk2 hck hyo)
      generalize outs[i] = y at hr1 hr2 hyo hyin
      obtain ⟨r, wa, wb, wc, rfl, hrl⟩ := isOut_len hp1 hyo
      have hpl := hp1.len
      obtain ⟨n, hn⟩ : ∃ n : Nat, n = r.length := ⟨_, rfl⟩
      have hyl : (r ++ [wa, wb, wc]).length = n + 3 := by rw [List.length_append, hn]; rfl
      have hend := rotW_end (k := k) (by omega) r wa wb wc
      rw [← hn] at hend
      generalize r ++ [wa, wb, wc] = y at hr1 hr2 hyl hend hyin hyo
      obtain ⟨xb, xo, rfl, hat2⟩ := Sl.at (sz := 1) (enc := ei) (fun _ => rfl) (by decide) hr2 (by omega)
      have hsub : IntKind.i64.wrap ((y.length : Int) - 3) = (n : Int) := by rw [w64 (by omega) (by omega)]; omega
      repeat' first
          | refine EV.seq ?_
          | (refine EV.reg ?_; (conv => (arg 2; whnf)); simp only [wpS, wpA, wpQL, push_cast, Int.cast_ofNat_Int, reduceIte, Nat.reduceEqDiff, reduceCtorEq, Nat.reduceAdd, Nat.reduceSub, Nat.reduceMul, Int.reduceToNat, Nat.reduceLeDiff, hsub])
          | (refine And.intro (by omega) ?_)
          | (refine Exists.intro _ (Exists.intro _ (Exists.intro _ (And.intro (rd_M (by assumption)) ?_))); try simp only [wpS, wpA, wpQL, push_cast, Int.cast_ofNat_Int, reduceIte, Nat.reduceEqDiff, reduceCtorEq, Nat.reduceAdd, Nat.reduceSub, Nat.reduceMul, Int.reduceToNat, Nat.reduceLeDiff, hsub])
          | fail
      refine Con.callS (G1 := []) (r1_Copy_c y _ ⟨_, _, rfl, hr2⟩ (by omega)) ?_
      rintro v5 M5 G5 hM5 ⟨rfl, cb, cap, sp, rfl, hcok, rfl⟩
      repeat' first
          | refine EV.seq ?_
          | refine EV.block ?_
          | (refine EV.reg ?_; (conv => (arg 2; whnf)); (refine nx ?_; try with_reducible exact ⟨⟩))
          | fail
      refine EV.loopTo (fun w : Nat => ([(4, .bool false), (5, .slice (some ⟨ub, uo, none⟩) outs.length uc), (7, vi k), (11, .slice ma outs2.length mc), (13, vi i), (14, vi n), (15, vrow cb y.length cap), (16, vi w)], M5, [(cb, Cl 3 ((rotW k n y w).map vi ++ sp))])) (fun w => w ≤ 3) (fun w => 3 - w) 0 rfl (Nat.zero_le _) ?env4 (List.Sublist.refl _) ?_
      case env4 =>
        repeat' first
          | (refine List.forall_mem_cons.2 (And.intro ?_ ?_))
          | (intro _ hnil; cases hnil; done)
          | rfl
          | fail
      intro w hw ih6
      dsimp only at hw ih6 ⊢
      by_cases hw3 : w < 3
      · have k1 : ((w : Int) < 3) = True := eq_true (by omega)
        obtain ⟨q, hq⟩ : ∃ q : Nat, q = (w + k) % 3 := ⟨_, rfl⟩
        obtain ⟨z, hz⟩ : ∃ z : Nat, z = n + q := ⟨_, rfl⟩
        obtain ⟨z2, hz2⟩ : ∃ z : Nat, z = n + w := ⟨_, rfl⟩
        have hq3 : q < 3 := by omega
        have f1 : IntKind.i64.wrap ((w : Int) + (k : Int)) = (w : Int) + (k : Int) := w64 (by omega) (by omega)
        have f2 : ((w : Int) + (k : Int)).tmod 3 = (q : Int) := by rw [Int.tmod_eq_emod_of_nonneg (by omega), hq]; omega
        have f3 : IntKind.i64.wrap ((n : Int) + (q : Int)) = (z : Int) := by rw [w64 (by omega) (by omega)]; omega
        have f4 : IntKind.i64.wrap ((n : Int) + (w : Int)) = (z2 : Int) := by rw [w64 (by omega) (by omega)]; omega
        have hz2l : z2 < y.length := by omega
        have hr3 := hat2 z2 hz2l
        simp only [Nat.mul_one] at hr3
        have hzl : z < (rotW k n y w).length := by rw [rotW_len]; omega
        have hst := row_st2 vi (rotW k n y w) sp hzl y[z2]
        have hnx : (rotW k n y w).set z y[z2] = rotW k n y (w + 1) := by rw [rotW, ← hq, ← hz, ← hz2, numAt_eq hz2l]
        rw [hnx] at hst
        repeat' first
            | refine EV.seq ?_
            | refine EV.skip ?_
            | refine EV.block ?_
            | (refine EV.reg ?_; (conv => (arg 2; whnf)); simp only [wpS, wpA, wpQL, push_cast, Int.cast_ofNat_Int, reduceIte, Nat.reduceEqDiff, reduceCtorEq, Nat.reduceAdd, Nat.reduceSub, Nat.reduceMul, Int.reduceToNat, Nat.reduceLeDiff, k1, f1, f2, f3, f4, show ¬ (3 : Int) = 0 by decide])
            | (refine EV.condX rfl (fun h => ?_) (fun h => ?_) <;> try exact dead h)
            | (refine And.intro (by omega) ?_)
            | ((first | refine Exists.intro _ (And.intro (rd_M (by assumption)) ?_) | refine Exists.intro _ (Exists.intro _ (Exists.intro _ (And.intro (rd_M (by assumption)) ?_))) | fail); try simp only [wpS, wpA, wpQL, push_cast, Int.cast_ofNat_Int, reduceIte, Nat.reduceEqDiff, reduceCtorEq, Nat.reduceAdd, Nat.reduceSub, Nat.reduceMul, Int.reduceToNat, Nat.reduceLeDiff, k1, f1, f2, f3, f4, show ¬ (3 : Int) = 0 by decide])
            | (refine xw ?_; simp only [wpS, wpA, wpQL, push_cast, Int.cast_ofNat_Int, reduceIte, Nat.reduceEqDiff, reduceCtorEq, Nat.reduceAdd, Nat.reduceSub, Nat.reduceMul, Int.reduceToNat, Nat.reduceLeDiff, k1, f1, f2, f3, f4, show ¬ (3 : Int) = 0 by decide])
            | fail
        refine ⟨by rw [List.length_append, List.length_map]; omega, ?_⟩
        rw [hst]
        repeat' first
            | refine EV.inBlock ?_
            | (refine EV.reg ?_; (conv => (arg 2; whnf)); (refine nx ?_; try with_reducible exact ⟨⟩))
            | fail
        refine EV.to (ih6 (w + 1) (by omega) (by omega)) ?_ (List.Sublist.refl _)
        repeat' first
          | (refine List.forall_mem_cons.2 (And.intro ?_ ?_))
          | (intro _ hnil; cases hnil; done)
          | rfl
          | (refine env_w64 rfl (by first | rfl | (push_cast; first | rfl | omega)) (by omega) (by omega); done)
          | fail
      · have hwe : w = 3 := by omega
        subst hwe
        rw [hend]
        have hwi : ∀ (G : Own) [At G cb 3 ((rotO k y).map vi ++ sp)], ConQ Try.prog 12 #[.slice ma outs2.length mc, vrow cb y.length cap] (M5.add G) (vb true) := fun G hA => by
          have hrl : (rotO k y).length = y.length := by rw [← hend, rotW_len]
          have := r1_Within_q (M := M5.add G) outs2 (rotO k y) (.slice ma outs2.length mc) (vrow cb y.length cap) ⟨ma, mc, ms, rfl, hml, hmrd.mono (PHeap.le_add _ _), fun j a b => (hmk j a b).mono (PHeap.le_add _ _)⟩
            ⟨some ⟨cb, 0, none⟩, cap, by rw [hrl], .inr ⟨cb, 0, rfl, by rw [flatMap_ei, hrl]; exact rd_at hA.mem (by rw [List.drop_zero, Nat.mul_one, List.take_left' (by rw [List.length_map, hrl])]) (by rw [List.length_append, List.length_map, hrl]; omega)⟩⟩ ho2.1 (by omega) (by omega) hout2l
          rwa [decide_eq_true hyin] at this
        repeat' first
            | refine EV.seq ?_
            | refine EV.skip ?_
            | refine EV.inBlock ?_
            | (refine EV.reg ?_; (conv => (arg 2; whnf)); (refine nx ?_; try with_reducible exact ⟨⟩))
            | (refine ConQ.call (hwi _) ?_; try (refine nx ?_; try with_reducible exact ⟨⟩))
            | (refine EV.condX rfl (fun h => ?_) (fun h => ?_) <;> try exact dead h)
            | (refine EV.exit rfl ?_)
            | fail
        refine EV.to (ih5 (i + 1) (by omega) (by omega)) ?_ (List.nil_sublist _)
        repeat' first
          | (refine List.forall_mem_cons.2 (And.intro ?_ ?_))
          | (intro _ hnil; cases hnil; done)
          | rfl
          | (refine env_w64 rfl (by first | rfl | (push_cast; first | rfl | omega)) (by omega) (by omega); done)
          | fail
    · refine EV.ret Q61_ok ?_
      simp only [wpS, wpA, wpQL, push_cast, Int.cast_ofNat_Int, reduceIte, Nat.reduceEqDiff, reduceCtorEq, Nat.reduceAdd, Nat.reduceSub, Nat.reduceMul, Int.reduceToNat, Nat.reduceLeDiff, Q61]

end
end Go.EV

namespace Go.Proofs.Ytmgnpoleilcjoaa.axiomPlaces
open Go.ChangeShapes Go.WideShapes Go.ChangeAt Go.RowKit Go.EV
set_option linter.unusedVariables false

theorem own : ownKnob Try.prog.godebug = none := by kernel_rfl

set_option maxRecDepth 100000 in
theorem lifted (os : Os) (started : os.Started) (H : Type) (enc : TypeId × Value → H) :
    ReturnsInHanded {} Try.checked os 3 .any (Rows.axiomPlacesSpec.pre6 enc Try.prog Try.f3 Rows.axiomPlacesRow.domain false) (Rows.axiomPlacesSpec.post enc Try.prog Try.f3 false true false false) := by
  refine returnsInHanded_of_change_shaped (C := Try.checked) own started (by kernel_rfl) Try.func3
    (ChangeSpec.witness6 (enc := enc) (C := Try.checked) false ⟨#[], #[.agg #[.slice none 0 0], .int .i64 0], []⟩ 8 (by kernel_rfl) (by kernel_rfl) (by kernel_rfl) (by kernel_rfl)) ?_
  intro W base args ds gs before hval0 hW hcnd hwt _ _
  have hval : ∀ (j : Nat) t v, Try.f3.params[j]? = some t → args[j]? = some v → Value.okWide Try.prog W .any base t v := hval0
  have hW' := hW
  obtain ⟨p, q, hA0, hV, rfl, hfz, hnd⟩ := hW
  have hA : DataW.TrodAll enc Try.prog W 0 (fun _ => true) true Try.f3.params.toList args.toList ds p := hA0
  have hA1 := hA
  rw [Try.params3] at hA hval
  obtain ⟨v0, vs0, d0, ds0, p0, q0, hargs, rfl, rfl, h0, r0⟩ := trodAll_cons hA
  obtain ⟨v1, vs1, d1, ds1, p1, q1, rfl, rfl, rfl, h1, r1⟩ := trodAll_cons r0
  obtain ⟨rfl, rfl, rfl⟩ := trodAll_nil r1
  obtain rfl : args = #[v0, v1] := by cases args; simp_all
  obtain ⟨rfl, rfl⟩ := trodVars_none hV
  have k0 := hval 0 24 v0 rfl rfl
  simp only [Value.okWide, Try.underlying24] at k0
  obtain ⟨cs0, rfl, _, _⟩ := k0
  obtain ⟨n1, rfl, _, _, w1⟩ := open_int Try.underlying3 (hval 1 3 v1 rfl rfl) h1
  obtain ⟨m0, h0⟩ := h0
  have hwt2 : (DataW.weightsEach Try.prog [24, 3] [d0, d1]).all (· ≤ reachBytes) = true := hwt
  simp only [DataW.weightsEach, List.all_append, Bool.and_eq_true] at hwt2
  obtain ⟨hw0, hw1, _⟩ := hwt2
  obtain ⟨s, ts, hcs, hs, hb, hb2⟩ := litmus_in h0 hw0
  have hcs2 : cs0 = #[s] := by
    have : cs0.toList = [s] := hcs
    exact Array.ext' this
  subst hcs2
  have hrb : reachBytes ≤ 140737488355328 := by decide
  refine (Con.at2 (AxiomPlaces_c ts s hs ⟨by omega, fun t ht => by have := hb2 t ht; omega⟩ n1)).mono fun e W' hX => ?_
  obtain ⟨v, rfl, ⟨_, _, rfl⟩, hk, hfr⟩ := hX
  have hlt := hW'.lt
  exact ⟨_, rfl, post_of_kept (pv := []) hW' (fun _ _ _ => (trodAll_cons_mk (shut_bool Try.underlying4 _) trodAll_mk0)) (fun sp hsp => trodAll_kept kids rows_pos' hfr (by rw [Try.params3]; exact of_decide_eq_true (by kernel_rfl)) hA1 (fun r hr => hlt r (by simpa using hr)) (fun r hr => hsp r (by simpa using hr))) (fun _ _ => rfl) rfl hk⟩

theorem over : Rows.axiomPlacesRow.holds Try.pinned (OpenSpec.ofChange Rows.axiomPlacesSpec) :=
  OpenClaim.holds_of_wide 3 Try.f3 rfl rfl rfl rfl rfl rfl rfl ⟨rfl, rfl, rfl, rfl, rfl⟩ rfl rfl rfl rfl rfl (by kernel_rfl) Try.func3 (by kernel_rfl)
    (of_decide_eq_true (by kernel_rfl)) (by unfold Func.isWrapper; first | (rw [if_pos (by decide +kernel)]; kernel_rfl) | (rw [if_neg (by decide +kernel)]; exact ⟨rfl, rfl⟩))
    (fun os started H enc _ => lifted os started H enc)

/-- The statement. -/
theorem proved : Rows.AxiomPlacesSaid :=
  over
#print axioms proved
end Go.Proofs.Ytmgnpoleilcjoaa.axiomPlaces
