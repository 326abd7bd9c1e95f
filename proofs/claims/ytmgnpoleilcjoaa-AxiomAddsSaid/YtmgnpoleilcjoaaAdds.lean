/- The plain law of executions: an execution of a program seen in another one. Executions and programs that are looked at by reckoning; threads that add. Threads that add 1 to one location. Threads that add 1 to one location read different numbers: the statement. -/
import Derived.Test.YtmgnpoleilcjoaaVPaf
set_option maxRecDepth 8000
set_option linter.unusedSimpArgs false
set_option linter.unusedVariables false
set_option linter.unusedSectionVars false
namespace Go.EV
open Go.Proofs

/-! ### One ahead of another in a list -/
theorem bef_of_idx {α : Type} : ∀ (l : List α) (i j : Nat) (hij : i < j) (hj : j < l.length), List.Sublist [l[i]'(by omega), l[j]] l
  | x :: l, 0, j + 1, _, hj => by
    simp only [List.getElem_cons_zero, List.getElem_cons_succ]
    exact List.Sublist.cons_cons _ (List.singleton_sublist.2 (List.getElem_mem _))
  | x :: l, i + 1, j + 1, hij, hj => by
    simp only [List.getElem_cons_succ]
    exact List.Sublist.cons _ (bef_of_idx l i j (by omega) (by simpa using hj))
theorem idx_of_bef {α : Type} {a b : α} : ∀ {l : List α}, List.Sublist [a, b] l → ∃ (i j : Nat) (hij : i < j) (hj : j < l.length), l[i]'(by omega) = a ∧ l[j] = b
  | [], h => by cases h
  | x :: l, h => by
    cases h with
    | cons _ h =>
      obtain ⟨i, j, hij, hj, h1, h2⟩ := idx_of_bef h
      exact ⟨i + 1, j + 1, by omega, by simpa using hj, by simpa using h1, by simpa using h2⟩
    | cons_cons _ h =>
      have hb : b ∈ l := List.singleton_sublist.1 h
      obtain ⟨j, hj, rfl⟩ := List.getElem_of_mem hb
      exact ⟨0, j + 1, by omega, by simpa using hj, by simp, by simp⟩

theorem fo_of_bef {p : List Ev} {e : Exec} {a b : Nat} (hpos : ∀ x ∈ e.fen, 0 ≤ x) (h : List.Sublist [(a : Int), (b : Int)] e.fen) : TG (Fo1 e.fen) a b := by
  obtain ⟨i, j, hij, hj, h1, h2⟩ := idx_of_bef h
  have key : ∀ (d j a b : Nat), j + d + 1 < e.fen.length → numAt e.fen j = a → numAt e.fen (j + d + 1) = b → TG (Fo1 e.fen) a b := by
    intro d
    induction d with
    | zero => intro j a b h ha hb; exact .one ⟨j, h, ha, hb⟩
    | succ d ih =>
      intro j a b h ha hb
      have h1 : 0 ≤ numAt e.fen (j + d + 1) := hpos _ (mem_numAt.2 ⟨j + d + 1, by omega, rfl⟩)
      obtain ⟨c, hc⟩ : ∃ c : Nat, numAt e.fen (j + d + 1) = c := ⟨(numAt e.fen (j + d + 1)).toNat, by omega⟩
      exact (ih j a c (by omega) ha hc).trans (.one ⟨j + d + 1, by omega, hc, by rw [← hb]; congr 1⟩)
  refine key (j - i - 1) i a b (by omega) (by rw [numAt_eq (by omega)]; exact h1) (by rw [show i + (j - i - 1) + 1 = j by omega, numAt_eq hj]; exact h2)

theorem perm_of_mem {l m : List Int} (hl : l.Nodup) (hm : m.Nodup) (h : ∀ x, x ∈ l ↔ x ∈ m) : l.Perm m := (List.perm_ext_iff_of_nodup hl hm).2 h

/-! ### A program seen in another one -/
/-- ι: the events of p among those of q; j: back again. -/
structure Emb (p q : List Ev) (ι j : Nat → Nat) (σ : Int → Int) : Prop where
  lt : ∀ a, a < p.length → ι a < q.length
  inv : ∀ a, a < p.length → j (ι a) = a
  back : ∀ b, b < q.length → (evAt q b).op.kind ≠ 5 → j b < p.length ∧ ι (j b) = b
  sb : ∀ a b, a < b → b < p.length → (evAt p a).th = (evAt p b).th → ι a < ι b ∧ (evAt q (ι a)).th = (evAt q (ι b)).th
  kind : ∀ a, a < p.length → (evAt q (ι a)).op.kind = (evAt p a).op.kind
  v : ∀ a, a < p.length → (evAt q (ι a)).op.v = (evAt p a).op.v
  w : ∀ a, a < p.length → (evAt q (ι a)).op.w = (evAt p a).op.w
  loc : ∀ a, a < p.length → (evAt p a).op.kind ≠ 5 → (evAt q (ι a)).op.loc = σ (evAt p a).op.loc
  rel : ∀ a, a < p.length → (evAt p a).rel = true → (evAt q (ι a)).rel = true
  acq : ∀ a, a < p.length → (evAt p a).acq = true → (evAt q (ι a)).acq = true
  strong : ∀ a, a < p.length → (evAt p a).strong = true → (evAt q (ι a)).strong = true
  σ3 : ∀ k, 0 ≤ k → k < 3 → 0 ≤ σ k ∧ σ k < 3
  σi : ∀ k k', 0 ≤ k → k < 3 → 0 ≤ k' → k' < 3 → σ k = σ k' → k = k'

def bk (j : Nat → Nat) (x : Int) : Int := if 0 ≤ x then ((j x.toNat : Nat) : Int) else x
theorem bk_nat (j : Nat → Nat) (b : Nat) : bk j b = (j b : Nat) := by simp [bk]
theorem bk_neg (j : Nat → Nat) {x : Int} (h : x < 0) : bk j x = x := by rw [bk, if_neg (by omega)]

/-- An execution of q, seen in p. -/
def pullE (p : List Ev) (ι j : Nat → Nat) (σ : Int → Int) (e : Exec) : Exec where
  frm := (List.range p.length).map fun i => bk j (frmAt e (ι i))
  dn := (List.range p.length).map fun i => dnAt e.dn (ι i)
  ord := [0, 1, 2].map fun k : Int => (e.ord[(σ k).toNat]?.getD []).map fun x => ((j x.toNat : Nat) : Int)
  fen := (e.fen.filter fun x => decide (ι (j x.toNat) = x.toNat) && decide (j x.toNat < p.length) && (evAt p (j x.toNat)).strong).map fun x => ((j x.toNat : Nat) : Int)

theorem strong_kind {e : Ev} (h : e.strong = true) : e.op.kind = 5 := by
  simp only [Ev.strong, Bool.and_eq_true, decide_eq_true_eq] at h; exact h.1
theorem mem_fencesI {p : List Ev} {x : Int} : x ∈ fencesI p ↔ ∃ i : Nat, x = i ∧ i < p.length ∧ (evAt p i).strong = true := by
  rw [fencesI, mem_pickI]
  constructor
  · rintro ⟨i, h1, h2, h3⟩; exact ⟨i, h3, h1, h2⟩
  · rintro ⟨i, h3, h1, h2⟩; exact ⟨i, h1, h2, h3⟩

section
variable {p q : List Ev} {ι j : Nat → Nat} {σ : Int → Int} {e : Exec}

theorem pull_frm {i : Nat} (hi : i < p.length) : frmAt (pullE p ι j σ e) i = bk j (frmAt e (ι i)) := by
  simp [frmAt, pullE, hi]
theorem pull_dn {i : Nat} (hi : i < p.length) : dnAt (pullE p ι j σ e).dn i = dnAt e.dn (ι i) := by
  simp [dnAt, pullE, hi]
theorem pull_ord {k : Nat} (hk : k < 3) : (pullE p ι j σ e).ord[k]?.getD [] = (e.ord[(σ k).toNat]?.getD []).map fun x => ((j x.toNat : Nat) : Int) := by
  have : k = 0 ∨ k = 1 ∨ k = 2 := by omega
  rcases this with rfl | rfl | rfl <;> rfl
theorem numAt_map {f : Int → Int} {l : List Int} {i : Nat} (hi : i < l.length) : numAt (l.map f) i = f (numAt l i) := by
  simp [numAt, hi]

section
variable (H : Emb p q ι j σ) (hp : POk p) (hq : POk q) (hmq : Mono q) (hs : Shape q e)
include H hs

theorem pull_src {i : Nat} (hi : i < p.length) : ((evAt p i).reads = false → frmAt e (ι i) = -2) ∧ ((evAt p i).reads = true → frmAt e (ι i) = -1 ∨ ∃ w : Nat, w < p.length ∧ frmAt e (ι i) = (ι w : Nat) ∧ j (ι w) = w ∧ dnAt e.dn (ι w) = true ∧ (evAt q (ι w)).op.loc = (evAt q (ι i)).op.loc ∧ 1 ≤ (evAt p w).op.kind ∧ (evAt p w).op.kind ≤ 4) := by
  have hr : (evAt q (ι i)).reads = (evAt p i).reads := by simp only [Ev.reads, H.kind i hi]
  constructor
  · intro h; exact hs.out _ (H.lt i hi) (hr.trans h)
  · intro h
    rcases hs.src _ (H.lt i hi) (hr.trans h) with h1 | ⟨b, h1, h2, h3, h4⟩
    · exact .inl h1
    · have hk := hs.dn0 b h2 h3
      obtain ⟨q1, q2⟩ := H.back b h2 (by omega)
      refine .inr ⟨j b, q1, ?_, ?_, ?_, ?_, ?_⟩
      · rw [q2]; exact h1
      · rw [q2]
      · rw [q2]; exact h3
      · rw [q2]; exact h4
      · have := H.kind _ q1
        rw [q2] at this; omega

/-- Reading, seen below. -/
theorem pull_rf {a i : Nat} (hi : i < p.length) (h : frmAt (pullE p ι j σ e) i = (a : Nat)) : frmAt e (ι i) = (ι a : Nat) ∧ a < p.length ∧ (evAt p i).reads = true := by
  rw [pull_frm hi] at h
  obtain ⟨h1, h2⟩ := pull_src H hs hi
  cases hr : (evAt p i).reads with
  | false => rw [h1 hr, bk_neg _ (by decide)] at h; omega
  | true =>
    rcases h2 hr with h3 | ⟨w, h3, h4, h5, _⟩
    · rw [h3, bk_neg _ (by decide)] at h; omega
    · rw [h4, bk_nat, h5] at h
      have : w = a := by omega
      subst this
      exact ⟨h4, h3, rfl⟩

theorem pull_ordm {k : Nat} (hk : k < 3) : ∀ x ∈ e.ord[(σ k).toNat]?.getD [], ∃ a : Nat, a < p.length ∧ x = (ι a : Nat) ∧ j (ι a) = a ∧ dnAt e.dn (ι a) = true ∧ (evAt p a).op.kind ≠ 5 ∧ (evAt q (ι a)).op.loc = σ k := by
  intro x hx
  obtain ⟨s1, s2⟩ := H.σ3 k (by omega) (by omega)
  have := (hs.ord (σ k).toNat (by omega)).mem_iff.1 hx
  obtain ⟨b, h1, h2, h3, h4, h5⟩ := mem_writersI.1 this
  obtain ⟨q1, q2⟩ := H.back b h2 h3
  refine ⟨j b, q1, by rw [q2]; exact h1, by rw [q2], by rw [q2]; exact h4, ?_, by rw [q2]; omega⟩
  have := H.kind _ q1
  rw [q2] at this; omega

include hp in
theorem pull_loc {a i : Nat} (ha : a < p.length) (hi : i < p.length) (k1 : (evAt p a).op.kind ≠ 5) (k2 : (evAt p i).op.kind ≠ 5) (h : (evAt q (ι a)).op.loc = (evAt q (ι i)).op.loc) : (evAt p a).op.loc = (evAt p i).op.loc := by
  rw [H.loc a ha k1, H.loc i hi k2] at h
  have := hp.loc a ha; have := hp.loc i hi
  exact H.σi _ _ (by omega) (by omega) (by omega) (by omega) h

include hp in
theorem pull_shape : Shape p (pullE p ι j σ e) := by
  have hkr : ∀ {i : Nat}, (evAt p i).reads = true → (evAt p i).op.kind ≠ 5 := fun h => by
    simp only [Ev.reads, Bool.and_eq_true, decide_eq_true_eq] at h; exact h.2
  refine ⟨by simp [pullE], by simp [pullE], rfl, fun i hi hk => ?_, fun i hi hd => ?_, fun i hi hr => ?_, fun i hi hr => ?_, fun k hk => ?_, ?_⟩
  · rw [pull_dn hi]
    exact hs.dn1 _ (H.lt i hi) (by rw [H.kind i hi]; exact hk)
  · rw [pull_dn hi] at hd
    have := hs.dn0 _ (H.lt i hi) hd
    rw [H.kind i hi] at this; exact this
  · rw [pull_frm hi, (pull_src H hs hi).1 hr, bk_neg _ (by decide)]
  · rw [pull_frm hi]
    rcases (pull_src H hs hi).2 hr with h | ⟨w, h1, h2, h3, h4, h5, h6, h7⟩
    · left; rw [h, bk_neg _ (by decide)]
    · right
      refine ⟨w, by rw [h2, bk_nat, h3], h1, by rw [pull_dn h1]; exact h4, pull_loc H hp hs h1 hi (by omega) (hkr hr) h5⟩
  · rw [pull_ord hk]
    have hm := pull_ordm H hs hk
    obtain ⟨s1, s2⟩ := H.σ3 k (by omega) (by omega)
    have hnd : (e.ord[(σ k).toNat]?.getD []).Nodup := ((hs.ord (σ k).toNat (by omega)).nodup_iff).2 (asc_nodup (writers_asc _ _ _))
    refine perm_of_mem ?_ (asc_nodup (writers_asc _ _ _)) fun x => ?_
    · rw [List.nodup_iff_pairwise_ne, List.pairwise_map]
      refine List.Pairwise.imp_of_mem ?_ (List.nodup_iff_pairwise_ne.1 hnd)
      intro x y hx hy hne he
      obtain ⟨a, _, rfl, ha, _⟩ := hm x hx
      obtain ⟨b, _, rfl, hb, _⟩ := hm y hy
      rw [Int.toNat_natCast, Int.toNat_natCast, ha, hb] at he
      exact hne (by rw [show a = b by omega])
    · rw [List.mem_map, mem_writersI]
      constructor
      · rintro ⟨y, hy, rfl⟩
        obtain ⟨a, h1, rfl, h3, h4, h5, h6⟩ := hm y hy
        rw [Int.toNat_natCast, h3]
        refine ⟨a, rfl, h1, h5, by rw [pull_dn h1]; exact h4, ?_⟩
        rw [H.loc a h1 h5] at h6
        have := hp.loc a h1
        exact H.σi _ _ (by omega) (by omega) (by omega) (by omega) h6
      · rintro ⟨a, rfl, h1, h2, h3, h4⟩
        rw [pull_dn h1] at h3
        refine ⟨(ι a : Nat), ?_, by rw [Int.toNat_natCast, H.inv a h1]⟩
        refine (hs.ord (σ k).toNat (by omega)).mem_iff.2 (mem_writersI.2 ⟨ι a, rfl, H.lt a h1, by rw [H.kind a h1]; exact h2, h3, ?_⟩)
        rw [H.loc a h1 h2, h4]; omega
  · have hnd : e.fen.Nodup := (hs.fen.nodup_iff).2 (asc_nodup (fences_asc _))
    have hmem : ∀ x ∈ e.fen, ∃ b : Nat, x = b ∧ b < q.length ∧ (evAt q b).strong = true := fun x hx => mem_fencesI.1 (hs.fen.mem_iff.1 hx)
    refine perm_of_mem ?_ (asc_nodup (fences_asc _)) fun x => ?_
    · show (List.map _ _).Nodup
      rw [List.nodup_iff_pairwise_ne, List.pairwise_map]
      refine List.Pairwise.imp_of_mem ?_ (List.nodup_iff_pairwise_ne.1 (hnd.filter _))
      intro x y hx hy hne he
      obtain ⟨hx1, hx2⟩ := List.mem_filter.1 hx
      obtain ⟨hy1, hy2⟩ := List.mem_filter.1 hy
      obtain ⟨a, rfl, _⟩ := hmem x hx1
      obtain ⟨b, rfl, _⟩ := hmem y hy1
      simp only [Int.toNat_natCast, Bool.and_eq_true, decide_eq_true_eq] at hx2 hy2 he
      have : j a = j b := by omega
      exact hne (by rw [← hx2.1.1, ← hy2.1.1, this])
    · show x ∈ List.map _ _ ↔ _
      rw [List.mem_map, mem_fencesI]
      constructor
      · rintro ⟨y, hy, rfl⟩
        obtain ⟨_, hy2⟩ := List.mem_filter.1 hy
        simp only [Bool.and_eq_true, decide_eq_true_eq] at hy2
        exact ⟨_, rfl, hy2.1.2, hy2.2⟩
      · rintro ⟨a, rfl, h1, h2⟩
        refine ⟨(ι a : Nat), List.mem_filter.2 ⟨hs.fen.mem_iff.2 (mem_fencesI.2 ⟨ι a, rfl, H.lt a h1, H.strong a h1 h2⟩), ?_⟩, by rw [Int.toNat_natCast, H.inv a h1]⟩
        simp only [Int.toNat_natCast, H.inv a h1, Bool.and_eq_true, decide_eq_true_eq]
        exact ⟨⟨trivial, h1⟩, h2⟩

omit hs in
/-- Chains of program order, seen above. -/
theorem pull_sb (hmq : Mono q) {a b : Nat} (h : Sb1 p a b) : TG (Sb1 q) (ι a) (ι b) := by
  obtain ⟨rfl, h1, h2⟩ := h
  obtain ⟨h3, h4⟩ := H.sb a (a + 1) (by omega) h1 h2.symm
  have key : ∀ (d a : Nat), a + d + 1 < q.length → (evAt q a).th = (evAt q (a + d + 1)).th → TG (Sb1 q) a (a + d + 1) := by
    intro d
    induction d with
    | zero => intro a h ht; exact .one ⟨rfl, h, ht.symm⟩
    | succ d ih =>
      intro a h ht
      have h1 := hmq.between (a := a) (b := a + (d + 1) + 1) (x := a + d + 1) h (by omega) (by omega) ht
      exact (ih a (by omega) (by rw [h1]; exact ht)).trans (.one ⟨by omega, h, h1.symm⟩)
  have := key (ι (a + 1) - ι a - 1) (ι a) (by have := H.lt (a + 1) h1; omega) (by rw [show ι a + (ι (a + 1) - ι a - 1) + 1 = ι (a + 1) by omega]; exact h4)
  rwa [show ι a + (ι (a + 1) - ι a - 1) + 1 = ι (a + 1) by omega] at this

theorem pull_fo {a b : Nat} (h : Fo1 (pullE p ι j σ e).fen a b) : TG (Fo1 e.fen) (ι a) (ι b) := by
  obtain ⟨i, hi, h1, h2⟩ := h
  have hmem : ∀ x ∈ e.fen, 0 ≤ x := fun x hx => by
    obtain ⟨b, rfl, _⟩ := mem_fencesI.1 (hs.fen.mem_iff.1 hx); omega
  have hb := bef_of_idx (pullE p ι j σ e).fen i (i + 1) (by omega) hi
  rw [← numAt_eq (by omega), ← numAt_eq hi, h1, h2] at hb
  have hb2 : List.Sublist [(a : Int), (b : Int)] (List.map (fun x : Int => ((j x.toNat : Nat) : Int)) (e.fen.filter fun x => decide (ι (j x.toNat) = x.toNat) && decide (j x.toNat < p.length) && (evAt p (j x.toNat)).strong)) := hb
  obtain ⟨l', h3, h4⟩ := List.sublist_map_iff.1 hb2
  have hl : ∃ x y, l' = [x, y] := by
    rcases l' with _ | ⟨x, _ | ⟨y, _ | ⟨z, l⟩⟩⟩
    · simp at h4
    · simp at h4
    · exact ⟨x, y, rfl⟩
    · simp at h4
  obtain ⟨x, y, rfl⟩ := hl
  simp only [List.map_cons, List.map_nil, List.cons.injEq, and_true] at h4
  have hx := List.mem_filter.1 (h3.subset (List.mem_cons_self ..))
  have hy := List.mem_filter.1 (h3.subset (List.mem_cons_of_mem _ (List.mem_cons_self ..)))
  simp only [Bool.and_eq_true, decide_eq_true_eq] at hx hy
  have ex : x = (ι a : Nat) := by
    have := hmem x hx.1
    have e1 : j x.toNat = a := by omega
    have := hx.2.1.1
    rw [e1] at this; omega
  have ey : y = (ι b : Nat) := by
    have := hmem y hy.1
    have e1 : j y.toNat = b := by omega
    have := hy.2.1.1
    rw [e1] at this; omega
  rw [ex, ey] at h3
  exact fo_of_bef (p := p) hmem (h3.trans List.filter_sublist)

theorem pull_rf1 {a b : Nat} (h : Rf (pullE p ι j σ e) p.length a b) : Rf e q.length (ι a) (ι b) := ⟨H.lt b h.1, (pull_rf H hs h.1 h.2).1⟩

theorem pull_rfOk (hac : RfOk q e) : RfOk p (pullE p ι j σ e) := fun a ha => hac _ (TG.map ι ha fun _ _ h => pull_rf1 H hs h)

theorem pull_back {w v : Nat} (h : Back p (pullE p ι j σ e) w v) (hw : w < p.length) : Back q e (ι w) (ι v) ∧ v < p.length := by
  induction h with
  | here => exact ⟨.here, hw⟩
  | @on w v u h _ ih =>
    obtain ⟨h1, h2⟩ := h
    obtain ⟨h3, h4, h5⟩ := pull_rf H hs hw h2
    obtain ⟨k1, k2⟩ := ih h4
    refine ⟨.on ⟨?_, h3⟩ k1, k2⟩
    unfold exchP at h1 ⊢
    simp only [Bool.and_eq_true] at h1 ⊢
    refine ⟨by simp only [Ev.reads, H.kind w hw]; exact h5, ?_⟩
    have := pull_dn (p := p) (ι := ι) (j := j) (σ := σ) (e := e) hw
    unfold dnAt at this
    rw [← this]; exact h1.2

omit hs in
theorem pull_rel {v c : Nat} (hv : v < p.length) (h : Rel1 p v c) : Rel1 q (ι v) (ι c) := by
  obtain ⟨h1, h2⟩ := h
  rcases h2 with rfl | ⟨h2, h3, h4⟩
  · exact ⟨H.rel c hv h1, .inl rfl⟩
  · obtain ⟨k1, k2⟩ := H.sb c v h2 hv h3
    exact ⟨H.rel c (by omega) h1, .inr ⟨k1, k2, by rw [H.kind c (by omega)]; exact h4⟩⟩
omit hs in
theorem pull_acq {r c : Nat} (hr : r < p.length) (h : Acq1 p r c) : Acq1 q (ι r) (ι c) := by
  obtain ⟨h1, h2⟩ := h
  rcases h2 with rfl | ⟨h2, h3, h4, h5⟩
  · exact ⟨H.acq c hr h1, .inl rfl⟩
  · obtain ⟨k1, k2⟩ := H.sb r c h2 h3 h4.symm
    exact ⟨H.acq c h3 h1, .inr ⟨k1, H.lt c h3, k2.symm, by rw [H.kind c h3]; exact h5⟩⟩

theorem pull_sw {a b : Nat} (h : Sw p (pullE p ι j σ e) a b) : Sw q e (ι a) (ι b) := by
  obtain ⟨r, w, v, h1, h2, h3, h4, h5, h6⟩ := h
  obtain ⟨k1, k2, k3⟩ := pull_rf H hs h1 h3
  obtain ⟨k4, k5⟩ := pull_back H hs h4 k2
  exact ⟨ι r, ι w, ι v, H.lt r h1, by simp only [Ev.reads, H.kind r h1]; exact h2, k1, k4, pull_rel H k5 h5, pull_acq H h1 h6⟩

include hmq in
theorem pull_hb {a b : Nat} (h : Hb p (pullE p ι j σ e) a b) : Hb q e (ι a) (ι b) := by
  have key : ∀ a b, (Sb1 p a b ∨ Fo1 (pullE p ι j σ e).fen a b ∨ Sw p (pullE p ι j σ e) a b) → Hb q e (ι a) (ι b) := by
    rintro a b (h | h | h)
    · exact (pull_sb H hmq h).mono fun _ _ k => .inl k
    · exact (pull_fo H hs h).mono fun _ _ k => .inr (.inl k)
    · exact .one (.inr (.inr (pull_sw H hs h)))
  unfold Hb at h
  induction h with
  | one h => exact key _ _ h
  | more h _ ih => exact (key _ _ h).trans ih

theorem pull_at {k : Nat} (hk : k < 3) {i a : Nat} (hi : i < (e.ord[(σ k).toNat]?.getD []).length) (h : numAt ((e.ord[(σ k).toNat]?.getD []).map fun x => ((j x.toNat : Nat) : Int)) i = (a : Nat)) : numAt (e.ord[(σ k).toNat]?.getD []) i = (ι a : Nat) ∧ a < p.length := by
  rw [numAt_map hi] at h
  obtain ⟨b, h1, h2, h3, _⟩ := pull_ordm H hs hk _ (mem_numAt.2 ⟨i, hi, rfl⟩)
  rw [h2, Int.toNat_natCast, h3] at h
  have : b = a := by omega
  subst this
  exact ⟨h2, h1⟩

theorem pull_mem {k : Nat} (hk : k < 3) : e.ord[(σ k).toNat]?.getD [] ∈ e.ord := by
  obtain ⟨s1, s2⟩ := H.σ3 k (by omega) (by omega)
  have : (σ k).toNat < e.ord.length := by rw [hs.ol]; omega
  rw [List.getElem?_eq_getElem this, Option.getD_some]
  exact List.getElem_mem _

omit H hs in
theorem pull_ordmem {l : List Int} (hl : l ∈ (pullE p ι j σ e).ord) : ∃ k : Nat, k < 3 ∧ l = (e.ord[(σ k).toNat]?.getD []).map fun x => ((j x.toNat : Nat) : Int) := by
  obtain ⟨k, hk, rfl⟩ := List.getElem_of_mem hl
  have hk3 : k < 3 := hk
  refine ⟨k, hk3, ?_⟩
  rw [← pull_ord (p := p) hk3, List.getElem?_eq_getElem hk, Option.getD_some]

include hp in
theorem pull_com {a b : Nat} (h : Com1 p (pullE p ι j σ e) a b) : Com1 q e (ι a) (ι b) := by
  rcases h with ⟨l, hl, x, y, h1, h2, h3, h4⟩ | ⟨h1, h2⟩ | ⟨h1, h2, h3, y, h4, h5, h6⟩
  · obtain ⟨k, hk, rfl⟩ := pull_ordmem hl
    rw [List.length_map] at h2
    exact .inl ⟨_, pull_mem H hs hk, x, y, h1, h2, (pull_at H hs hk (by omega) h3).1, (pull_at H hs hk h2 h4).1⟩
  · exact .inr (.inl ⟨by simp only [Ev.reads, H.kind b h2.1]; exact h1, pull_rf1 H hs h2⟩)
  · have hk5 : (evAt p a).op.kind ≠ 5 := by
      simp only [Ev.reads, Bool.and_eq_true, decide_eq_true_eq] at h2; exact h2.2
    have hl := hp.loc a h1
    have hk : (evAt p a).op.loc.toNat < 3 := by omega
    have e1 : ordAt p (pullE p ι j σ e) a = (e.ord[(σ (evAt p a).op.loc.toNat).toNat]?.getD []).map fun x => ((j x.toNat : Nat) : Int) := pull_ord hk
    have e2 : ordAt q e (ι a) = e.ord[(σ (evAt p a).op.loc.toNat).toNat]?.getD [] := by
      unfold ordAt
      rw [H.loc a h1 hk5, show (((evAt p a).op.loc.toNat : Nat) : Int) = (evAt p a).op.loc by omega]
    rw [e1, List.length_map] at h4
    rw [e1] at h5 h6
    obtain ⟨g1, g2⟩ := pull_at H hs hk h4 h5
    refine .inr (.inr ⟨H.lt a h1, by simp only [Ev.reads, H.kind a h1]; exact h2, ?_, y, by rw [e2]; exact h4, by rw [e2]; exact g1, ?_⟩)
    · intro e
      exact h3 (by rw [← H.inv b g2, ← H.inv a h1, e])
    · rw [e2]
      rw [pull_frm h1] at h6
      rcases (pull_src H hs h1).2 h2 with h7 | ⟨w, w1, w2, w3, _⟩
      · exact .inl h7
      · rw [w2, bk_nat, w3] at h6
        rcases h6 with h6 | ⟨x, x1, x2⟩
        · omega
        · exact .inr ⟨x, x1, by rw [w2]; exact (pull_at H hs hk (by omega) x2).1⟩

include hp hmq in
theorem pull_cons (hc : Cons q e) : Cons p (pullE p ι j σ e) := by
  refine ⟨fun ⟨a, ha⟩ => hc.round ⟨ι a, ?_⟩, fun h => hc.cross ?_, fun l hl i hi hr => ?_⟩
  · have key : ∀ a b, (Sb1 p a b ∨ Fo1 (pullE p ι j σ e).fen a b ∨ Rf (pullE p ι j σ e) p.length a b) → TG (fun a b => Sb1 q a b ∨ Fo1 e.fen a b ∨ Rf e q.length a b) (ι a) (ι b) := by
      rintro a b (h | h | h)
      · exact (pull_sb H hmq h).mono fun _ _ k => .inl k
      · exact (pull_fo H hs h).mono fun _ _ k => .inr (.inl k)
      · exact .one (.inr (.inr (pull_rf1 H hs h)))
    have : ∀ {a b}, TG (fun a b => Sb1 p a b ∨ Fo1 (pullE p ι j σ e).fen a b ∨ Rf (pullE p ι j σ e) p.length a b) a b → TG (fun a b => Sb1 q a b ∨ Fo1 e.fen a b ∨ Rf e q.length a b) (ι a) (ι b) := by
      intro a b h
      induction h with
      | one h => exact key _ _ h
      | more h _ ih => exact (key _ _ h).trans ih
    exact this ha
  · rcases h with ⟨a, ha⟩ | ⟨a, b, h1, h2⟩
    · exact .inl ⟨ι a, pull_hb H hmq hs ha⟩
    · exact .inr ⟨ι a, ι b, pull_hb H hmq hs h1, TG.map ι h2 fun _ _ h => pull_com H hp hs h⟩
  · obtain ⟨k, hk, rfl⟩ := pull_ordmem hl
    rw [List.length_map] at hi
    have hm := pull_ordm H hs hk
    obtain ⟨b, h1, h2, h3, h4, _⟩ := hm _ (mem_numAt.2 ⟨i, hi, rfl⟩)
    have e1 : numAt ((e.ord[(σ k).toNat]?.getD []).map fun x => ((j x.toNat : Nat) : Int)) i = (b : Nat) := by rw [numAt_map hi, h2, Int.toNat_natCast, h3]
    rw [e1, Int.toNat_natCast] at hr ⊢
    have hn := hc.next _ (pull_mem H hs hk) i hi
    rw [h2, Int.toNat_natCast] at hn
    have hn2 := hn (by simp only [Ev.reads, H.kind b h1]; exact hr)
    rw [pull_frm h1, hn2]
    cases i with
    | zero => rfl
    | succ i =>
      have hi2 : i < (e.ord[(σ k).toNat]?.getD []).length := by omega
      show bk j (numAt _ i) = numAt _ i
      rw [numAt_map hi2]
      obtain ⟨c, _, c2, c3, _⟩ := hm _ (mem_numAt.2 ⟨i, hi2, rfl⟩)
      rw [c2, bk_nat, Int.toNat_natCast]

include hp in
theorem pull_words (hac : RfOk q e) : ∀ i, i < p.length → (wordsP p (pullE p ι j σ e).frm).R i = (wordsP q e.frm).R (ι i) ∧ (1 ≤ (evAt p i).op.kind → (evAt p i).op.kind ≤ 4 → (wordsP p (pullE p ι j σ e).frm).W i = (wordsP q e.frm).W (ι i)) := by
  have hs' := pull_shape H hp hs
  have hac' := pull_rfOk H hs hac
  have hw := hs.words hac
  have hr : ∀ i, i < p.length → (evAt q (ι i)).reads = (evAt p i).reads := fun i hi => by simp only [Ev.reads, H.kind i hi]
  refine Words.uniq hs'.fromOk hs'.srcOk hac' (fun i hi => ((hs'.xok (.inr trivial)).fr i hi).1) (hs'.words hac') ?_
  refine ⟨fun i hi h => hw.out _ (H.lt i hi) ((hr i hi).trans h), fun i hi h h0 => ?_, fun i w hi h h0 => ?_, fun i hi hk => ?_, fun i hi hk => ?_, fun i hi hk => ?_⟩
  · refine hw.init _ (H.lt i hi) ((hr i hi).trans h) ?_
    have h1 : bk j (frmAt e (ι i)) = -1 := by rw [← pull_frm (p := p) (σ := σ) hi]; exact h0
    rcases (pull_src H hs hi).2 h with h2 | ⟨w, _, h2, _⟩
    · exact h2
    · rw [h2, bk_nat] at h1; omega
  · exact hw.from_ _ _ (H.lt i hi) ((hr i hi).trans h) (pull_rf H hs hi h0).1
  · rw [hw.store _ (H.lt i hi) (by rw [H.kind i hi]; exact hk), H.v i hi]
  · rw [hw.add _ (H.lt i hi) (by rw [H.kind i hi]; exact hk), H.v i hi]
  · rw [hw.cas _ (H.lt i hi) (by rw [H.kind i hi]; exact hk), H.w i hi]

include hp hq hmq in
theorem pull_exec (hmp : Mono p) (he : e ∈ execsP q) : pullE p ι j σ e ∈ execsP p := by
  obtain ⟨_, hw, hc⟩ := (exec_iff hq hmq).1 he
  have hac := Round.rfOk hc.round
  refine (exec_iff hp hmp).2 ⟨pull_shape H hp hs, fun i hi => ?_, pull_cons H hp hmq hs hc⟩
  have h1 := hw _ (H.lt i hi)
  rw [H.kind i hi, H.v i hi, ← (pull_words H hp hs hac i hi).1, ← pull_dn (p := p) (j := j) (σ := σ) hi] at h1
  exact h1

omit H hs in
theorem outReads_eq (p : List Ev) (w : Wd) : ∀ n, outReads p w n = ((List.range n).filter fun i => (evAt p i).reads).map w.R
  | 0 => rfl
  | n + 1 => by
    rw [outReads, outReads_eq p w n, List.range_succ, List.filter_append, List.map_append]
    congr 1
    cases h : (evAt p n).reads <;> simp [h, Wd.R]

include hp in
theorem pull_outcome (hac : RfOk q e) : outcomeP p (pullE p ι j σ e) = (((List.range p.length).filter fun i => (evAt p i).reads).map fun i => (wordsP q e.frm).R (ι i)) ++ [lastOf (wordsP q e.frm) (e.ord[(σ 0).toNat]?.getD []), lastOf (wordsP q e.frm) (e.ord[(σ 1).toNat]?.getD []), lastOf (wordsP q e.frm) (e.ord[(σ 2).toNat]?.getD [])] := by
  have hwd := pull_words H hp hs hac
  unfold outcomeP
  congr 1
  · rw [outReads_eq]
    refine List.map_congr_left fun i hi => ?_
    obtain ⟨h1, _⟩ := List.mem_filter.1 hi
    exact (hwd i (by simpa using h1)).1
  · have key : ∀ k : Nat, k < 3 → lastOf (wordsP p (pullE p ι j σ e).frm) ((e.ord[(σ k).toNat]?.getD []).map fun x => ((j x.toNat : Nat) : Int)) = lastOf (wordsP q e.frm) (e.ord[(σ k).toNat]?.getD []) := by
      intro k hk
      unfold lastOf
      rw [List.length_map]
      split
      · rfl
      · rename_i hne
        have hi : (e.ord[(σ k).toNat]?.getD []).length - 1 < (e.ord[(σ k).toNat]?.getD []).length := by omega
        obtain ⟨a, h1, h2, h3, h4, h5, _⟩ := pull_ordm H hs hk _ (mem_numAt.2 ⟨_, hi, rfl⟩)
        have hkd := hs.dn0 _ (H.lt a h1) h4
        rw [H.kind a h1] at hkd
        rw [numAt_map hi, h2, Int.toNat_natCast, Int.toNat_natCast, h3]
        exact (hwd a h1).2 hkd.1 hkd.2
    show [_, _, _] = _
    simp only [List.cons.injEq, and_true]
    exact ⟨key 0 (by omega), key 1 (by omega), key 2 (by omega)⟩
end
end
end Go.EV

namespace Go.EV
open Go.Proofs

def embB (p q : List Ev) (ι j : Nat → Nat) : Bool :=
  ((List.range p.length).all fun a => decide (ι a < q.length) && decide (j (ι a) = a) && decide ((evAt q (ι a)).op.kind = (evAt p a).op.kind) && decide ((evAt q (ι a)).op.v = (evAt p a).op.v) && decide ((evAt q (ι a)).op.w = (evAt p a).op.w) &&
    (decide ((evAt p a).op.kind = 5) || decide ((evAt q (ι a)).op.loc = (evAt p a).op.loc)) && (!(evAt p a).rel || (evAt q (ι a)).rel) && (!(evAt p a).acq || (evAt q (ι a)).acq) && (!(evAt p a).strong || (evAt q (ι a)).strong) &&
    ((List.range p.length).all fun b => !(decide (a < b) && decide ((evAt p a).th = (evAt p b).th)) || (decide (ι a < ι b) && decide ((evAt q (ι a)).th = (evAt q (ι b)).th)))) &&
  ((List.range q.length).all fun b => decide ((evAt q b).op.kind = 5) || (decide (j b < p.length) && decide (ι (j b) = b)))

theorem embB_ok {p q : List Ev} {ι j : Nat → Nat} (h : embB p q ι j = true) : Emb p q ι j id := by
  unfold embB at h
  simp only [Bool.and_eq_true, List.all_eq_true, List.mem_range, decide_eq_true_eq, Bool.or_eq_true, Bool.not_eq_true', Bool.and_eq_false_iff, decide_eq_false_iff_not] at h
  obtain ⟨h1, h2⟩ := h
  refine ⟨fun a ha => ?_, fun a ha => ?_, fun b hb hk => ?_, fun a b hab hb hth => ?_, fun a ha => ?_, fun a ha => ?_, fun a ha => ?_, fun a ha hk => ?_, fun a ha hr => ?_, fun a ha hr => ?_, fun a ha hr => ?_, fun k h0 h3 => ⟨h0, h3⟩, fun k k' _ _ _ _ h => h⟩
  · exact (h1 a ha).1.1.1.1.1.1.1.1.1
  · exact (h1 a ha).1.1.1.1.1.1.1.1.2
  · exact (h2 b hb).resolve_left hk
  · exact ((h1 a (by omega)).2 b hb).resolve_left (fun h => by rcases h with h | h <;> contradiction)
  · exact (h1 a ha).1.1.1.1.1.1.1.2
  · exact (h1 a ha).1.1.1.1.1.1.2
  · exact (h1 a ha).1.1.1.1.1.2
  · exact (h1 a ha).1.1.1.1.2.resolve_left hk
  · exact (h1 a ha).1.1.1.2.resolve_left (by rw [hr]; decide)
  · exact (h1 a ha).1.1.2.resolve_left (by rw [hr]; decide)
  · exact (h1 a ha).1.2.resolve_left (by rw [hr]; decide)

/-- The outcome stays, where what reads stands in the same order. -/
theorem pull_same {p q : List Ev} {ι j : Nat → Nat} {e : Exec} (H : Emb p q ι j id) (hp : POk p) (hs : Shape q e) (hac : RfOk q e)
    (hr : ((List.range p.length).filter fun i => (evAt p i).reads).map ι = (List.range q.length).filter fun i => (evAt q i).reads) : outcomeP p (pullE p ι j id e) = outcomeP q e := by
  rw [pull_outcome H hp hs hac, outcomeP, outReads_eq, ← hr, List.map_map]
  congr 1
  have hl := hs.ol
  rcases ho : e.ord with _ | ⟨a, _ | ⟨b, _ | ⟨c, _ | ⟨d, l⟩⟩⟩⟩ <;> rw [ho] at hl <;> simp at hl
  rfl

/-- Whether an execution is one. -/
def okE (p : List Ev) (e : Exec) : Bool :=
  decide (e.frm.length = p.length) && decide (e.dn.length = p.length) && decide (e.ord.length = 3) &&
  ((List.range p.length).all fun i => (!(decide ((evAt p i).op.kind = 1) || decide ((evAt p i).op.kind = 2)) || dnAt e.dn i) && (!dnAt e.dn i || (decide (1 ≤ (evAt p i).op.kind) && decide ((evAt p i).op.kind ≤ 4))) &&
    ((evAt p i).reads || decide (frmAt e i = -2)) &&
    (!(evAt p i).reads || (decide (frmAt e i = -1) || (decide (0 ≤ frmAt e i) && decide ((frmAt e i).toNat < p.length) && dnAt e.dn (frmAt e i).toNat && decide ((evAt p (frmAt e i).toNat).op.loc = (evAt p i).op.loc))))) &&
  ((List.range 3).all fun k => (e.ord[k]?.getD []).isPerm (writersI p e.dn k)) && e.fen.isPerm (fencesI p) && !((List.range p.length).any (wordBad p e)) && decide (brokenP p e = 0)

theorem okE_ok {p : List Ev} (hp : POk p) (hm : Mono p) {e : Exec} (h : okE p e = true) : e ∈ execsP p := by
  unfold okE at h
  simp only [Bool.and_eq_true, List.all_eq_true, List.mem_range, decide_eq_true_eq, Bool.or_eq_true, Bool.not_eq_true', Bool.or_eq_false_iff, decide_eq_false_iff_not, List.isPerm_iff] at h
  obtain ⟨⟨⟨⟨⟨⟨⟨h1, h2⟩, h3⟩, h4⟩, h5⟩, h6⟩, h7⟩, h8⟩ := h
  have hs : Shape p e := by
    refine ⟨h1, h2, h3, fun i hi hk => ?_, fun i hi hd => ?_, fun i hi hr => ?_, fun i hi hr => ?_, h5, h6⟩
    · exact (h4 i hi).1.1.1.resolve_left (by omega)
    · exact (h4 i hi).1.1.2.resolve_left (by rw [hd]; decide)
    · exact (h4 i hi).1.2.resolve_left (by rw [hr]; decide)
    · rcases (h4 i hi).2.resolve_left (by rw [hr]; decide) with h | ⟨⟨⟨g1, g2⟩, g3⟩, g4⟩
      · exact .inl h
      · exact .inr ⟨(frmAt e i).toNat, by omega, g2, g3, g4⟩
  exact (exec_iff hp hm).2 ⟨hs, wordBad_iff.1 h7, (brokenP_zero hp hm (hs.xok (.inr trivial))).1 h8⟩

/-- Where two programs have the same outcomes: the ones of q are among those of p, and those of p are outcomes of executions of q that are told. -/
theorem outs_same {p q : List Ev} {ι j : Nat → Nat} (hp : POk p) (hmp : Mono p) (hq : POk q) (hmq : Mono q) (H : Emb p q ι j id)
    (hr : ((List.range p.length).filter fun i => (evAt p i).reads).map ι = (List.range q.length).filter fun i => (evAt q i).reads)
    (es : List Exec) (hes : es.all (okE q) = true) (hout : (outsD p).all (fun x => es.any fun e => decide (outcomeP q e = x)) = true) : outsD q = outsD p := by
  refine asc_uniq (outs_D q).1 (outs_D p).1 fun x => ?_
  rw [(outs_D q).2 x, (outs_D p).2 x]
  simp only [List.mem_map]
  constructor
  · rintro ⟨e, he, rfl⟩
    obtain ⟨hs, _, hc⟩ := (exec_iff hq hmq).1 he
    exact ⟨pullE p ι j id e, pull_exec H hp hq hmq hs hmp he, pull_same H hp hs (Round.rfOk hc.round) hr⟩
  · intro h
    have hx : x ∈ outsD p := ((outs_D p).2 x).2 (List.mem_map.2 h)
    have := List.all_eq_true.1 hout x hx
    obtain ⟨e, he, h1⟩ := List.any_eq_true.1 this
    exact ⟨e, okE_ok hq hmq (List.all_eq_true.1 hes e he), by simpa using h1⟩

/-! ### Threads that add 1 to one location -/
def addsP (os : List Int) : List (List OpV) := os.map fun o => [⟨2, 0, 1, 0, o⟩]
/-- What each outcome of them is. -/
def addsOk (n : Nat) (x : List Int) : Bool :=
  decide (((x.take n).map fun r => (2 : Int) ^ (r.toNat)).foldl (· + ·) 0 = 2 ^ n - 1) && decide (x.length = n + 3) && ((x.take n).all fun r => decide (0 ≤ r) && decide (r ≤ 7)) && decide (x[n]?.getD 0 = n)
def ways (n : Nat) : Nat := if n = 1 then 1 else if n = 2 then 2 else 6
def posA (os : List Int) (t : Nat) : Nat := ((os.take t).map fun o => if o = 4 then 3 else 1).foldl (· + ·) 0 + (if os[t]?.getD 0 = 4 then 1 else 0)
def backA (os : List Int) (i : Nat) : Nat := ((List.range os.length).filter fun t => decide (posA os t = i)).headD 0
/-- The execution in which the threads add one behind the other. -/
def exA (os : List Int) (π : List Nat) : Exec where
  frm := (List.range (evsOf (addsP os)).length).map fun i =>
    if posA os (backA os i) = i then (if π.findIdx (· == backA os i) = 0 then -1 else (posA os (π[π.findIdx (· == backA os i) - 1]?.getD 0) : Int)) else -2
  dn := (List.range (evsOf (addsP os)).length).map fun i => decide (posA os (backA os i) = i)
  ord := [π.map fun t => (posA os t : Int), [], []]
  fen := π.flatMap fun t => if os[t]?.getD 0 = 4 then [(posA os t : Int) - 1, (posA os t : Int) + 1] else []
def permsA (n : Nat) : List (List Nat) := if n = 1 then [[0]] else if n = 2 then [[0, 1], [1, 0]] else [[0, 1, 2], [0, 2, 1], [1, 0, 2], [1, 2, 0], [2, 0, 1], [2, 1, 0]]
def relaxed (n : Nat) : List Int := List.replicate n 0

def outA (n : Nat) : List (List Int) := if n = 1 then [[0, 1, 0, 0]] else if n = 2 then [[0, 1, 2, 0, 0], [1, 0, 2, 0, 0]] else [[0, 1, 2, 3, 0, 0], [0, 2, 1, 3, 0, 0], [1, 0, 2, 3, 0, 0], [1, 2, 0, 3, 0, 0], [2, 0, 1, 3, 0, 0], [2, 1, 0, 3, 0, 0]]

def chkA (os : List Int) : Bool :=
  decide (checkP (addsP os) = 0) && embB (evsOf (addsP (relaxed os.length))) (evsOf (addsP os)) (posA os) (backA os) &&
  decide (((List.range (evsOf (addsP (relaxed os.length))).length).filter fun i => (evAt (evsOf (addsP (relaxed os.length))) i).reads).map (posA os) = (List.range (evsOf (addsP os)).length).filter fun i => (evAt (evsOf (addsP os)) i).reads) &&
  ((permsA os.length).map (exA os)).all (okE (evsOf (addsP os))) &&
  (outA os.length).all (fun x => ((permsA os.length).map (exA os)).any fun e => decide (outcomeP (evsOf (addsP os)) e = x))
def ords : List Int := [0, 1, 2, 3, 4]
theorem adds1 : (ords.all fun a => chkA [a]) = true := by decide +kernel
theorem adds2 : (ords.all fun a => ords.all fun b => chkA [a, b]) = true := by decide +kernel
theorem adds3_0 : (ords.all fun b => ords.all fun c => chkA [0, b, c]) = true := by decide +kernel
theorem adds3_1 : (ords.all fun b => ords.all fun c => chkA [1, b, c]) = true := by decide +kernel
theorem adds3_2 : (ords.all fun b => ords.all fun c => chkA [2, b, c]) = true := by decide +kernel
theorem adds3_3 : (ords.all fun b => ords.all fun c => chkA [3, b, c]) = true := by decide +kernel
theorem adds3_4 : (ords.all fun b => ords.all fun c => chkA [4, b, c]) = true := by decide +kernel
theorem adds_r : ([1, 2, 3].all fun n => decide (checkP (addsP (relaxed n)) = 0) && decide (outsD (evsOf (addsP (relaxed n))) = outA n) && decide ((outA n).length = ways n) && (outA n).all (addsOk n)) = true := by decide +kernel

theorem adds_chk {os : List Int} (h : ∀ o ∈ os, o ∈ ords) (h1 : 1 ≤ os.length) (h3 : os.length ≤ 3) : chkA os = true := by
  have q1 := List.all_eq_true.1 adds1
  have q2 := List.all_eq_true.1 adds2
  rcases os with _ | ⟨a, _ | ⟨b, _ | ⟨c, _ | ⟨d, l⟩⟩⟩⟩
  · simp at h1
  · exact q1 a (h a (by simp))
  · exact List.all_eq_true.1 (q2 a (h a (by simp))) b (h b (by simp))
  · have hb := h b (by simp)
    have hc := h c (by simp)
    have ha := h a (by simp)
    simp only [ords, List.mem_cons, List.not_mem_nil, or_false] at ha
    rcases ha with rfl | rfl | rfl | rfl | rfl
    · exact List.all_eq_true.1 (List.all_eq_true.1 adds3_0 b hb) c hc
    · exact List.all_eq_true.1 (List.all_eq_true.1 adds3_1 b hb) c hc
    · exact List.all_eq_true.1 (List.all_eq_true.1 adds3_2 b hb) c hc
    · exact List.all_eq_true.1 (List.all_eq_true.1 adds3_3 b hb) c hc
    · exact List.all_eq_true.1 (List.all_eq_true.1 adds3_4 b hb) c hc
  · simp at h3

/-- The outcomes of threads that add. -/
theorem adds_outs {os : List Int} (h : ∀ o ∈ os, o ∈ ords) (h1 : 1 ≤ os.length) (h3 : os.length ≤ 3) : checkP (addsP os) = 0 ∧ (outsD (evsOf (addsP os))).length = ways os.length ∧ ∀ x ∈ outsD (evsOf (addsP os)), addsOk os.length x = true := by
  have hk := adds_chk h h1 h3
  unfold chkA at hk
  simp only [Bool.and_eq_true, decide_eq_true_eq] at hk
  obtain ⟨⟨⟨⟨k1, k2⟩, k3⟩, k4⟩, k5⟩ := hk
  have hr := List.all_eq_true.1 adds_r os.length (by simp; omega)
  simp only [Bool.and_eq_true, decide_eq_true_eq] at hr
  obtain ⟨⟨⟨r1, r2⟩, r3⟩, r4⟩ := hr
  have := outs_same (evs_pok r1) (evs_mono _) (evs_pok k1) (evs_mono _) (embB_ok k2) k3 _ k4 (by rw [r2]; exact k5)
  rw [this, r2]
  exact ⟨k1, r3, fun x hx => List.all_eq_true.1 r4 x hx⟩

end Go.EV

namespace Go.EV
open Go.Proofs

def ordOf (o : Int) : Int := IntKind.i64.wrap ((IntKind.u64.wrap o).tmod 5)
theorem u64_pos (o : Int) : 0 ≤ IntKind.u64.wrap o := by
  have e : (2 : Int) ^ IntKind.u64.bits = 18446744073709551616 := rfl
  have e3 : IntKind.u64.signed = false := rfl
  simp only [IntKind.wrap, e, e3, Bool.false_and]
  simp only [Bool.false_eq_true, if_false]
  exact Int.emod_nonneg _ (by decide)
theorem tmod_pos {x : Int} (h : 0 ≤ x) (k : Int) (hk : 0 < k) : 0 ≤ x.tmod k ∧ x.tmod k < k := by
  rw [Int.tmod_eq_emod_of_nonneg h]; exact ⟨Int.emod_nonneg _ (by omega), Int.emod_lt_of_pos _ hk⟩
theorem ordOf_in (o : Int) : ordOf o ∈ ords := by
  have := tmod_pos (u64_pos o) 5 (by decide)
  unfold ordOf
  rw [w64 (by omega) (by omega)]
  simp only [ords, List.mem_cons, List.not_mem_nil, or_false]
  omega
def manyOf (m : Int) : Nat := 1 + ((IntKind.u64.wrap m).tmod 3).toNat
theorem manyOf_eq (m : Int) : IntKind.i64.wrap (1 + IntKind.i64.wrap ((IntKind.u64.wrap m).tmod 3)) = manyOf m ∧ 1 ≤ manyOf m ∧ manyOf m ≤ 3 := by
  have := tmod_pos (u64_pos m) 3 (by decide)
  unfold manyOf
  rw [w64 (x := (IntKind.u64.wrap m).tmod 3) (by omega) (by omega), w64 (by omega) (by omega)]
  omega
/-- The orders of the threads. -/
def osOf (orders : List Int) (n : Nat) : List Int := (List.range n).map fun t => if t < orders.length then ordOf (orders[t]?.getD 0) else 0
theorem osOf_len (orders : List Int) (n : Nat) : (osOf orders n).length = n := by simp [osOf]
theorem osOf_in (orders : List Int) (n : Nat) : ∀ o ∈ osOf orders n, o ∈ ords := by
  intro o ho
  obtain ⟨t, _, rfl⟩ := List.mem_map.1 ho
  split
  · exact ordOf_in _
  · decide

theorem and7 {r : Nat} (h : r ≤ 7) : IntKind.i64.wrap ((BitVec.ofInt IntKind.i64.bits (r : Int) &&& BitVec.ofInt IntKind.i64.bits 7).toNat : Int) = r := by
  have key : ∀ r : Fin 8, IntKind.i64.wrap ((BitVec.ofInt IntKind.i64.bits (r.1 : Int) &&& BitVec.ofInt IntKind.i64.bits 7).toNat : Int) = r.1 := by decide
  exact key ⟨r, by omega⟩
theorem u64_small {r : Nat} (h : r ≤ 7) : IntKind.u64.wrap (r : Int) = r := by
  have key : ∀ r : Fin 8, IntKind.u64.wrap (r.1 : Int) = r.1 := by decide
  exact key ⟨r, by omega⟩
def sumA (x : List Int) (t : Nat) : Int := ((x.take t).map fun r => (2 : Int) ^ (r.toNat)).foldl (· + ·) 0
theorem sumA_succ {x : List Int} {t : Nat} (h : t < x.length) : sumA x (t + 1) = sumA x t + 2 ^ (x[t].toNat) := by
  rw [sumA, List.take_succ_eq_append_getElem h, List.map_append, List.foldl_append]; rfl

section
variable {M : PHeap}

set_option maxHeartbeats 4000000 in
theorem AxiomAdds_c (many : Int) (orders : List Int) (v : Value) (hv : Sl M 1 ei v orders) : Con Try.prog 4 #[vi many, v] M [] fun u _ _ => u = vb true := by
  obtain ⟨oa, oc, rfl, hor⟩ := hv
  obtain ⟨hn1, hn2, hn3⟩ := manyOf_eq many
  generalize manyOf many = n at hn1 hn2 hn3
  refine Con.enter Q58_ok (args := [vi many, .slice oa orders.length oc]) (by simp [Q58]) fun w0 => ?_
  simp only [Q58, argE]
  repeat' first
      | refine EV.seq ?_
      | (refine EV.reg ?_; (conv => (arg 2; whnf)); (refine nx ?_; try with_reducible exact ⟨⟩))
      | fail
  refine Con.callS (G1 := []) awake_c ?_
  rintro v M1 G1 hM1 rfl
  repeat' first
      | refine EV.seq ?_
      | refine EV.skip ?_
      | refine EV.block ?_
      | (refine EV.reg ?_; (conv => (arg 2; whnf)); simp only [wpS, wpA, wpQL, push_cast, Int.cast_ofNat_Int, reduceIte, Nat.reduceEqDiff, reduceCtorEq, Nat.reduceAdd, Nat.reduceSub, Nat.reduceMul, Int.reduceToNat, Nat.reduceLeDiff, hn1])
      | (refine EV.condX rfl (fun h => ?_) (fun h => ?_) <;> try exact dead h)
      | (with_reducible intro b; try simp only [wpS, wpA, wpQL, push_cast, Int.cast_ofNat_Int, reduceIte, Nat.reduceEqDiff, reduceCtorEq, Nat.reduceAdd, Nat.reduceSub, Nat.reduceMul, Int.reduceToNat, Nat.reduceLeDiff, hn1])
      | fail
  obtain ⟨ab, rfl⟩ : ∃ ab, ab = b := ⟨_, rfl⟩
  refine EV.keepS [(ab, Cl 24 [.slice none 0 0])] ?_
  generalize hR : M1.add _ = N1
  have hMN1 : M1.le N1 := hR ▸ PHeap.le_add _ _
  clear hR
  have hor1 := hor.mono (PHeap.le_trans hM1 hMN1)
  refine EV.loopTo (fun x : Nat × PHeap × Vec × List Value => ([(0, vi many), (1, .slice oa orders.length oc), (4, .bool false), (5, vi n), (6, pv ab 0), (7, vi x.1)], x.2.1,
      (ab, Cl 24 [osv x.2.2.1 x.1]) :: osg 31 x.2.2.1 x.2.2.2))
    (fun x => x.1 ≤ n ∧ N1.le x.2.1 ∧ osok 1 x.2.2.1 x.1 x.2.2.2 ∧ x.2.2.2.length = x.1 ∧ ∀ j (h : j < x.2.2.2.length) (h' : j < (addsP (osOf orders x.1)).length), Sl x.2.1 5 encOp x.2.2.2[j] (addsP (osOf orders x.1))[j]) (fun x => n - x.1) (0, N1, none, []) rfl ⟨Nat.zero_le _, PHeap.le_refl _, ⟨rfl, rfl⟩, rfl, fun j h => absurd h (Nat.not_lt_zero _)⟩ ?env1 (List.Sublist.refl _) ?_
  case env1 =>
    repeat' first
      | (refine List.forall_mem_cons.2 (And.intro ?_ ?_))
      | (intro _ hnil; cases hnil; done)
      | rfl
      | fail
  rintro ⟨t, Mk, ov, vs⟩ ⟨ht, hMk, hov, hvl, hvs⟩ ih
  dsimp only at ht hMk hov hvl hvs ih ⊢
  obtain ⟨o, ho⟩ : ∃ o : Int, o = (if t < orders.length then ordOf (orders[t]?.getD 0) else 0) := ⟨_, rfl⟩
  repeat' first
      | refine EV.seq ?_
      | refine EV.skip ?_
      | refine EV.block ?_
      | (refine EV.reg ?_; (conv => (arg 2; whnf)); (refine nx ?_; try with_reducible exact ⟨⟩))
      | (refine EV.condX rfl (fun h => ?_) (fun h => ?_) <;> try exact dead h)
      | (refine EV.exit rfl ?_)
      | ((first | with_reducible intro b | refine xrA rfl ?_ | refine xsA rfl ?_ | fail); try (refine nx ?_; try with_reducible exact ⟨⟩))
      | (refine xw ?_; (refine nx ?_; try with_reducible exact ⟨⟩))
      | fail
  · have ht2 : t < orders.length := by omega
    obtain ⟨rb, ro, rfl, hat⟩ := Sl.at (sz := 1) (enc := ei) (fun _ => rfl) (by decide) hor1 (by omega)
    have hr := (hat t ht2).mono hMk
    simp only [Nat.mul_one] at hr
    have ho2 : IntKind.i64.wrap ((IntKind.u64.wrap orders[t]).tmod 5) = o := by rw [ho, if_pos ht2, List.getElem?_eq_getElem ht2]; rfl
    repeat' first
        | (refine EV.reg ?_; (conv => (arg 2; whnf)); simp only [wpS, wpA, wpQL, push_cast, Int.cast_ofNat_Int, reduceIte, Nat.reduceEqDiff, reduceCtorEq, Nat.reduceAdd, Nat.reduceSub, Nat.reduceMul, Int.reduceToNat, Nat.reduceLeDiff, ho2, show ¬ (5 : Int) = 0 by decide])
        | (with_reducible intro b; try simp only [wpS, wpA, wpQL, push_cast, Int.cast_ofNat_Int, reduceIte, Nat.reduceEqDiff, reduceCtorEq, Nat.reduceAdd, Nat.reduceSub, Nat.reduceMul, Int.reduceToNat, Nat.reduceLeDiff, ho2, show ¬ (5 : Int) = 0 by decide])
        | (refine And.intro (by omega) ?_)
        | ((first | refine Exists.intro _ (And.intro (rd_M (by assumption)) ?_) | refine xrA rfl ?_ | refine xsA rfl ?_ | fail); try simp only [wpS, wpA, wpQL, push_cast, Int.cast_ofNat_Int, reduceIte, Nat.reduceEqDiff, reduceCtorEq, Nat.reduceAdd, Nat.reduceSub, Nat.reduceMul, Int.reduceToNat, Nat.reduceLeDiff, ho2, show ¬ (5 : Int) = 0 by decide])
        | (refine xw ?_; simp only [wpS, wpA, wpQL, push_cast, Int.cast_ofNat_Int, reduceIte, Nat.reduceEqDiff, reduceCtorEq, Nat.reduceAdd, Nat.reduceSub, Nat.reduceMul, Int.reduceToNat, Nat.reduceLeDiff, ho2, show ¬ (5 : Int) = 0 by decide])
        | fail
    rename_i b1
    refine ⟨[.slice (some ⟨b1, 0, none⟩) 1 1], Or.inr ⟨_, 0, rfl, rd_at (T := 31) (cs := [.slice (some ⟨b1, 0, none⟩) 1 1]) (by simp) rfl (by simp)⟩, by simp [ok1_cons, ok1_nil, Value.oneCell'], Or.inl ⟨ov, _, rfl, _, hov, _, PullL.p, by simp only [maxLen]; omega, by omega, fun o2 ho2 _ => ?_⟩⟩
    simp only [List.cons_append, List.nil_append]
    repeat' first
        | refine EV.inBlock ?_
        | (refine EV.reg ?_; (conv => (arg 2; whnf)); (refine nx ?_; try with_reducible exact ⟨⟩))
        | (refine xw ?_; (refine nx ?_; try with_reducible exact ⟨⟩))
        | fail
    refine EV.keepS ((ab, Cl 24 [osv o2 (t + 1)]) :: osg 31 o2 (vs ++ [.slice (some ⟨b1, 0, none⟩) 1 1])) ?_
    generalize hR : Mk.add _ = N
    have hMN : Mk.le N := hR ▸ PHeap.le_add _ _
    have hnew : Sl N 5 encOp (.slice (some ⟨b1, 0, none⟩) 1 1) [⟨2, 0, 1, 0, o⟩] := hR ▸ ⟨_, _, rfl, .inr ⟨b1, 0, rfl, rd_at (T := 33) (cs := [vi 2, vi 0, vi 1, vi 0, vi o]) (by simp) rfl (by simp)⟩⟩
    clear hR
    have hos : addsP (osOf orders (t + 1)) = addsP (osOf orders t) ++ [[⟨2, 0, 1, 0, o⟩]] := by rw [osOf, List.range_succ, List.map_append, addsP, List.map_append]; simp only [List.map_cons, List.map_nil]; rw [← ho]; rfl
    have hal : (addsP (osOf orders t)).length = t := by rw [addsP, List.length_map, osOf_len]
    have ih3 := ih (t + 1, N, o2, vs ++ [.slice (some ⟨b1, 0, none⟩) 1 1]) ⟨by dsimp only; omega, PHeap.le_trans hMk hMN, ho2, by simp [hvl], fun j hj hj2 => ?_⟩ (by dsimp only; omega)
    · dsimp only at ih3
      repeat' first
          | fail
      refine EV.toS ih3 ?_
      repeat' first
        | (refine List.forall_mem_cons.2 (And.intro ?_ ?_))
        | (intro _ hnil; cases hnil; done)
        | rfl
        | (refine env_w64 rfl (by first | rfl | (push_cast; first | rfl | omega)) (by omega) (by omega); done)
        | fail
    · dsimp only at hj hj2 ⊢
      simp only [hos]
      by_cases hjv : j < vs.length
      · rw [List.getElem_append_left hjv, List.getElem_append_left (by omega)]; exact (hvs j hjv (by omega)).mono hMN
      · have : j = t := by simp at hj; omega
        subst this
        rw [List.getElem_append_right (by omega), List.getElem_append_right (by omega)]
        simp only [hvl, hal, Nat.sub_self, List.getElem_cons_zero]; exact hnew
  · obtain rfl : o = 0 := by rw [ho, if_neg (by omega)]
    rename_i b1
    refine ⟨[.slice (some ⟨b1, 0, none⟩) 1 1], Or.inr ⟨_, 0, rfl, rd_at (T := 31) (cs := [.slice (some ⟨b1, 0, none⟩) 1 1]) (by simp) rfl (by simp)⟩, by simp [ok1_cons, ok1_nil, Value.oneCell'], Or.inl ⟨ov, _, rfl, _, hov, _, PullL.p, by simp only [maxLen]; omega, by omega, fun o2 ho2 _ => ?_⟩⟩
    simp only [List.cons_append, List.nil_append]
    repeat' first
        | refine EV.inBlock ?_
        | (refine EV.reg ?_; (conv => (arg 2; whnf)); (refine nx ?_; try with_reducible exact ⟨⟩))
        | (refine xw ?_; (refine nx ?_; try with_reducible exact ⟨⟩))
        | fail
    refine EV.keepS ((ab, Cl 24 [osv o2 (t + 1)]) :: osg 31 o2 (vs ++ [.slice (some ⟨b1, 0, none⟩) 1 1])) ?_
    generalize hR : Mk.add _ = N
    have hMN : Mk.le N := hR ▸ PHeap.le_add _ _
    have hnew : Sl N 5 encOp (.slice (some ⟨b1, 0, none⟩) 1 1) [⟨2, 0, 1, 0, 0⟩] := hR ▸ ⟨_, _, rfl, .inr ⟨b1, 0, rfl, rd_at (T := 33) (cs := [vi 2, vi 0, vi 1, vi 0, vi 0]) (by simp) rfl (by simp)⟩⟩
    clear hR
    have hos : addsP (osOf orders (t + 1)) = addsP (osOf orders t) ++ [[⟨2, 0, 1, 0, 0⟩]] := by rw [osOf, List.range_succ, List.map_append, addsP, List.map_append]; simp only [List.map_cons, List.map_nil]; rw [← ho]; rfl
    have hal : (addsP (osOf orders t)).length = t := by rw [addsP, List.length_map, osOf_len]
    have ih3 := ih (t + 1, N, o2, vs ++ [.slice (some ⟨b1, 0, none⟩) 1 1]) ⟨by dsimp only; omega, PHeap.le_trans hMk hMN, ho2, by simp [hvl], fun j hj hj2 => ?_⟩ (by dsimp only; omega)
    · dsimp only at ih3
      repeat' first
          | fail
      refine EV.toS ih3 ?_
      repeat' first
        | (refine List.forall_mem_cons.2 (And.intro ?_ ?_))
        | (intro _ hnil; cases hnil; done)
        | rfl
        | (refine env_w64 rfl (by first | rfl | (push_cast; first | rfl | omega)) (by omega) (by omega); done)
        | fail
    · dsimp only at hj hj2 ⊢
      simp only [hos]
      by_cases hjv : j < vs.length
      · rw [List.getElem_append_left hjv, List.getElem_append_left (by omega)]; exact (hvs j hjv (by omega)).mono hMN
      · have : j = t := by simp at hj; omega
        subst this
        rw [List.getElem_append_right (by omega), List.getElem_append_right (by omega)]
        simp only [hvl, hal, Nat.sub_self, List.getElem_cons_zero]; exact hnew
  · have hte : t = n := by omega
    subst hte
    have hal : (addsP (osOf orders t)).length = t := by rw [addsP, List.length_map, osOf_len]
    refine CallW.frzS (osg 31 ov vs) ?_
    generalize hR : Mk.add _ = N
    have hMN : Mk.le N := hR ▸ PHeap.le_add _ _
    have hs : SlSl N 5 encOp (osv ov t) (addsP (osOf orders t)) := by
      refine ⟨oad ov, ocap ov, vs, by rw [hal], by omega, hR ▸ ?_, fun i h1 h2 => (hvs i h1 h2).mono hMN⟩
      rw [hal]; exact rd_osg (T := 31) hov (fun q hq => by simp [hq])
    clear hR
    obtain ⟨hck, hlen, hoks⟩ := adds_outs (osOf_in orders t) (by rw [osOf_len]; omega) (by rw [osOf_len]; omega)
    rw [osOf_len] at hlen hoks
    refine Con.callS (G1 := []) (ax_Outcomes_c (addsP (osOf orders t)) _ hs ⟨by omega, fun l hl => by obtain ⟨o, _, rfl⟩ := List.mem_map.1 hl; simp⟩) ?_
    rintro v M2 G2 hM2 (⟨hne, _⟩ | ⟨_, s', outs, rfl, ho2, hs'⟩)
    · exact absurd hck hne
    have he := ho2.eq
    rw [← he] at hlen hoks
    clear he ho2 hs hck hvs ih
    obtain ⟨ua, uc, us, rfl, hul, hurd, huk⟩ := hs'.sl
    repeat' first
        | refine EV.seq ?_
        | (refine EV.reg ?_; (conv => (arg 2; whnf)); (refine nx ?_; try with_reducible exact ⟨⟩))
        | (with_reducible intro b; try (refine nx ?_; try with_reducible exact ⟨⟩))
        | (refine And.intro (by omega) ?_)
        | fail
    have hway : List.take 1 (List.drop t [vi 1, vi 1, vi 2, vi 6]) = [vi (ways t)] := by
      have : t = 1 ∨ t = 2 ∨ t = 3 := by omega
      rcases this with rfl | rfl | rfl <;> rfl
    refine ⟨_, rd_at (T := 3) (cs := [vi 1, vi 1, vi 2, vi 6]) (List.mem_cons_self ..) hway (by simp; omega), ?_⟩
    have hw1 : 1 ≤ ways t ∧ ways t ≤ 6 := by unfold ways; split <;> (try split) <;> omega
    obtain ⟨ub, uo, rfl, hat⟩ := SlSl.at hurd hul huk (by omega)
    repeat' first
        | refine EV.seq ?_
        | refine EV.skip ?_
        | refine EV.block ?_
        | (refine EV.reg ?_; (conv => (arg 2; whnf)); simp only [wpS, wpA, wpQL, push_cast, Int.cast_ofNat_Int, reduceIte, Nat.reduceEqDiff, reduceCtorEq, Nat.reduceAdd, Nat.reduceSub, Nat.reduceMul, Int.reduceToNat, Nat.reduceLeDiff, hlen])
        | with_reducible assumption
        | (refine condW.merge ?_ (fun hc K' hK => ?_) ?_; rotate_left)
        | (refine EV.condX rfl (fun h => ?_) (fun h => ?_) <;> try exact dead h)
        | fail
    · exfalso; simp at h
    refine EV.reS (G' := []) ?_
    refine EV.loopTo (fun i : Nat => ([(4, .bool false), (5, vi t), (9, .slice (some ⟨ub, uo, none⟩) (ways t) uc), (12, vi i)], M2, [])) (fun i => i ≤ ways t) (fun i => ways t - i) 0 rfl (Nat.zero_le _) ?env2 (List.nil_sublist _) ?_
    case env2 =>
      repeat' first
        | (refine List.forall_mem_cons.2 (And.intro ?_ ?_))
        | (intro _ hnil; cases hnil; done)
        | rfl
        | fail
    intro i hi ih
    dsimp only at hi ih ⊢
    repeat' first
        | refine EV.seq ?_
        | refine EV.skip ?_
        | refine EV.block ?_
        | (refine EV.reg ?_; (conv => (arg 2; whnf)); (refine nx ?_; try with_reducible exact ⟨⟩))
        | (refine EV.condX rfl (fun h => ?_) (fun h => ?_) <;> try exact dead h)
        | (refine EV.exit rfl ?_)
        | fail
    · have hi' : i < outs.length := by omega
      obtain ⟨a', c', hr1, hr2⟩ := hat i hi'
      simp only [Nat.mul_one] at hr1
      have hok := hoks outs[i] (List.getElem_mem hi')
      generalize outs[i] = x at hr1 hr2 hok
      unfold addsOk at hok
      simp only [Bool.and_eq_true, decide_eq_true_eq, List.all_eq_true] at hok
      obtain ⟨⟨⟨hsum, hxl⟩, hx7⟩, hxn⟩ := hok
      obtain ⟨xb, xo, rfl, hat2⟩ := Sl.at (sz := 1) (enc := ei) (fun _ => rfl) (by decide) hr2 (by omega)
      have hsmall : ∀ s, s ≤ t → 0 ≤ sumA x s ∧ sumA x s ≤ 128 * s := by
        intro s
        induction s with
        | zero => intro _; simp [sumA]
        | succ s ihs =>
          intro hs
          have := ihs (by omega)
          have hsl : s < x.length := by omega
          have h7 := hx7 x[s] (List.mem_take_iff_getElem.2 ⟨s, by omega, rfl⟩)
          rw [sumA_succ hsl]
          have hp : (2 : Int) ^ (x[s].toNat) ≤ 2 ^ 7 := by
            have := Nat.pow_le_pow_right (n := 2) (by decide) (show x[s].toNat ≤ 7 by omega)
            have h2 : ((2 ^ x[s].toNat : Nat) : Int) ≤ ((2 ^ 7 : Nat) : Int) := Int.ofNat_le.2 this
            simpa using h2
          have hp0 : (0 : Int) ≤ 2 ^ (x[s].toNat) := by
            have h2 : (0 : Int) ≤ ((2 ^ x[s].toNat : Nat) : Int) := Int.natCast_nonneg _
            simpa using h2
          omega
      refine EV.loopTo (fun s : Nat => ([(4, .bool false), (5, vi t), (9, .slice (some ⟨ub, uo, none⟩) (ways t) uc), (12, vi i), (13, vi (sumA x s)), (14, vi s)], M2, [])) (fun s => s ≤ t) (fun s => t - s) 0 rfl (Nat.zero_le _) ?env3 (List.nil_sublist _) ?_
      case env3 =>
        repeat' first
          | (refine List.forall_mem_cons.2 (And.intro ?_ ?_))
          | (intro _ hnil; cases hnil; done)
          | rfl
          | fail
      intro s hs ih2
      dsimp only at hs ih2 ⊢
      repeat' first
          | refine EV.seq ?_
          | refine EV.skip ?_
          | refine EV.block ?_
          | (refine EV.reg ?_; (conv => (arg 2; whnf)); (refine nx ?_; try with_reducible exact ⟨⟩))
          | (refine EV.condX rfl (fun h => ?_) (fun h => ?_) <;> try exact dead h)
          | (refine EV.exit rfl ?_)
          | (refine And.intro (by omega) ?_)
          | (refine Exists.intro _ (Exists.intro _ (Exists.intro _ (And.intro (rd_M (by assumption)) ?_))); try (refine nx ?_; try with_reducible exact ⟨⟩))
          | fail
      · have hst : s < t := by omega
        have hsl : s < x.length := by omega
        have h7 := hx7 x[s] (List.mem_take_iff_getElem.2 ⟨s, by omega, rfl⟩)
        have hr3 := hat2 s hsl
        simp only [Nat.mul_one] at hr3
        obtain ⟨r, hr⟩ : ∃ r : Nat, x[s] = r := ⟨x[s].toNat, by omega⟩
        rw [hr] at hr3 h7
        have hsc := sumA_succ hsl
        rw [hr, Int.toNat_natCast] at hsc
        have hb1 := hsmall (s + 1) (by omega)
        have hshl : IntKind.i64.wrap (1 * 2 ^ min r IntKind.i64.bits) = ((2 ^ r : Nat) : Int) := i64_shl (by omega)
        have hadd : IntKind.i64.wrap (sumA x s + 2 ^ r) = sumA x (s + 1) := by
          rw [← hsc]; exact w64 (by omega) (by omega)
        repeat' first
            | refine EV.inBlock ?_
            | (refine EV.reg ?_; (conv => (arg 2; whnf)); simp only [wpS, wpA, wpQL, push_cast, Int.cast_ofNat_Int, reduceIte, Nat.reduceEqDiff, reduceCtorEq, Nat.reduceAdd, Nat.reduceSub, Nat.reduceMul, Int.reduceToNat, Nat.reduceLeDiff, and7 (show r ≤ 7 by omega), u64_small (show r ≤ 7 by omega), hshl, hadd])
            | (refine Exists.intro _ (And.intro (rd_M (by assumption)) ?_); try simp only [wpS, wpA, wpQL, push_cast, Int.cast_ofNat_Int, reduceIte, Nat.reduceEqDiff, reduceCtorEq, Nat.reduceAdd, Nat.reduceSub, Nat.reduceMul, Int.reduceToNat, Nat.reduceLeDiff, and7 (show r ≤ 7 by omega), u64_small (show r ≤ 7 by omega), hshl, hadd])
            | fail
        refine EV.to (ih2 (s + 1) (by omega) (by omega)) ?_ (List.Sublist.refl _)
        repeat' first
          | (refine List.forall_mem_cons.2 (And.intro ?_ ?_))
          | (intro _ hnil; cases hnil; done)
          | rfl
          | (refine env_w64 rfl (by first | rfl | (push_cast; first | rfl | omega)) (by omega) (by omega); done)
          | fail
      · have hst : s = t := by omega
        subst hst
        have hshl : IntKind.i64.wrap (1 * 2 ^ min s IntKind.i64.bits) = ((2 ^ s : Nat) : Int) := i64_shl (by omega)
        have hsA : sumA x s = 2 ^ s - 1 := hsum
        have hb1 := hsmall s (Nat.le_refl _)
        have hsub : IntKind.i64.wrap (2 ^ s - 1) = sumA x s := by rw [← hsA]; exact w64 (by omega) (by omega)
        have hsl : s < x.length := by omega
        have hr3 := hat2 s hsl
        rw [List.getElem?_eq_getElem hsl, Option.getD_some] at hxn
        rw [hxn] at hr3
        simp only [Nat.mul_one] at hr3
        simp only [wpS, wpA, wpQL, push_cast, Int.cast_ofNat_Int, reduceIte, Nat.reduceEqDiff, reduceCtorEq, Nat.reduceAdd, Nat.reduceSub, Nat.reduceMul, Int.reduceToNat, Nat.reduceLeDiff, u64_small (show s ≤ 7 by omega), hshl, hsub, show ¬ ((s : Nat) : Int) < 0 by omega]
        repeat' first
            | refine EV.seq ?_
            | refine EV.skip ?_
            | refine EV.inBlock ?_
            | (refine EV.reg ?_; (conv => (arg 2; whnf)); (refine nx ?_; try with_reducible exact ⟨⟩))
            | with_reducible assumption
            | (refine condW.merge ?_ (fun hc K' hK => ?_) ?_; rotate_left)
            | (refine EV.condX rfl (fun h => ?_) (fun h => ?_) <;> try exact dead h)
            | (refine And.intro (by omega) ?_)
            | ((first | refine Exists.intro _ (And.intro (rd_M (by assumption)) ?_) | refine Exists.intro _ (Exists.intro _ (Exists.intro _ (And.intro (rd_M (by assumption)) ?_))) | fail); try (refine nx ?_; try with_reducible exact ⟨⟩))
            | fail
        · exfalso; simp at h
        · refine EV.to (ih (i + 1) (by omega) (by omega)) ?_ (List.Sublist.refl _)
          repeat' first
            | (refine List.forall_mem_cons.2 (And.intro ?_ ?_))
            | (intro _ hnil; cases hnil; done)
            | rfl
            | (refine env_w64 rfl (by first | rfl | (push_cast; first | rfl | omega)) (by omega) (by omega); done)
            | fail
    · have hie : i = ways t := by omega
      refine EV.ret Q58_ok ?_
      simp only [wpS, wpA, wpQL, push_cast, Int.cast_ofNat_Int, reduceIte, Nat.reduceEqDiff, reduceCtorEq, Nat.reduceAdd, Nat.reduceSub, Nat.reduceMul, Int.reduceToNat, Nat.reduceLeDiff, Q58]

end
end Go.EV

namespace Go.Proofs.Ytmgnpoleilcjoaa.axiomAdds
open Go.ChangeShapes Go.WideShapes Go.ChangeAt Go.RowKit Go.EV
set_option linter.unusedVariables false

theorem own : ownKnob Try.prog.godebug = none := by kernel_rfl

set_option maxRecDepth 100000 in
theorem lifted (os : Os) (started : os.Started) (H : Type) (enc : TypeId × Value → H) :
    ReturnsInHanded {} Try.checked os 4 .any (Rows.axiomAddsSpec.pre6 enc Try.prog Try.f4 Rows.axiomAddsRow.domain false) (Rows.axiomAddsSpec.post enc Try.prog Try.f4 false true false false) := by
  refine returnsInHanded_of_change_shaped (C := Try.checked) own started (by kernel_rfl) Try.func4
    (ChangeSpec.witness6 (enc := enc) (C := Try.checked) false ⟨#[], #[.int .i64 0, .slice none 0 0], []⟩ 8 (by kernel_rfl) (by kernel_rfl) (by kernel_rfl) (by kernel_rfl)) ?_
  intro W base args ds gs before hval0 hW hcnd hwt _ _
  have hval : ∀ (j : Nat) t v, Try.f4.params[j]? = some t → args[j]? = some v → Value.okWide Try.prog W .any base t v := hval0
  have hW' := hW
  obtain ⟨p, q, hA0, hV, rfl, hfz, hnd⟩ := hW
  have hA : DataW.TrodAll enc Try.prog W 0 (fun _ => true) true Try.f4.params.toList args.toList ds p := hA0
  have hA1 := hA
  rw [Try.params4] at hA hval
  obtain ⟨v0, vs0, d0, ds0, p0, q0, hargs, rfl, rfl, h0, r0⟩ := trodAll_cons hA
  obtain ⟨v1, vs1, d1, ds1, p1, q1, rfl, rfl, rfl, h1, r1⟩ := trodAll_cons r0
  obtain ⟨rfl, rfl, rfl⟩ := trodAll_nil r1
  obtain rfl : args = #[v0, v1] := by cases args; simp_all
  obtain ⟨rfl, rfl⟩ := trodVars_none hV
  obtain ⟨n0, rfl, _, _, w0⟩ := open_int Try.underlying3 (hval 0 3 v0 rfl rfl) h0
  have k1 := hval 1 34 v1 rfl rfl
  obtain ⟨a1, n1, c1, rfl⟩ := okWide_slice Try.underlying34 k1
  obtain ⟨m1, h1⟩ := h1
  have hwt2 : (DataW.weightsEach Try.prog [3, 34] [d0, d1]).all (· ≤ reachBytes) = true := hwt
  simp only [DataW.weightsEach, List.all_append, Bool.and_eq_true] at hwt2
  obtain ⟨hw0, hw1, _⟩ := hwt2
  obtain ⟨orders, ho, _⟩ := ints_in h1 hw1
  refine (Con.at2 (AxiomAdds_c n0 orders _ ho)).mono fun e W' hX => ?_
  obtain ⟨v, rfl, ⟨_, _, rfl⟩, hk, hfr⟩ := hX
  have hlt := hW'.lt
  exact ⟨_, rfl, post_of_kept (pv := []) hW' (fun _ _ _ => (trodAll_cons_mk (shut_bool Try.underlying4 _) trodAll_mk0)) (fun sp hsp => trodAll_kept kids rows_pos' hfr (by rw [Try.params4]; exact of_decide_eq_true (by kernel_rfl)) hA1 (fun r hr => hlt r (by simpa using hr)) (fun r hr => hsp r (by simpa using hr))) (fun _ _ => rfl) rfl hk⟩

theorem over : Rows.axiomAddsRow.holds Try.pinned (OpenSpec.ofChange Rows.axiomAddsSpec) :=
  OpenClaim.holds_of_wide 4 Try.f4 rfl rfl rfl rfl rfl rfl rfl ⟨rfl, rfl, rfl, rfl, rfl⟩ rfl rfl rfl rfl rfl (by kernel_rfl) Try.func4 (by kernel_rfl)
    (of_decide_eq_true (by kernel_rfl)) (by unfold Func.isWrapper; first | (rw [if_pos (by decide +kernel)]; kernel_rfl) | (rw [if_neg (by decide +kernel)]; exact ⟨rfl, rfl⟩))
    (fun os started H enc _ => lifted os started H enc)

/-- The statement. -/
theorem proved : Rows.AxiomAddsSaid :=
  over
#print axioms proved
end Go.Proofs.Ytmgnpoleilcjoaa.axiomAdds
