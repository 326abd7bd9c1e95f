/- Part of the proof of a statement about executions of litmus programs: walks and laws. -/
import Derived.Test.YtmgnpoleilcjoaaGreatVQac
import Derived.Shelf.GgSortFunc.Insertion
import Derived.Shelf.SlSortCmp.NoneTotal
import Derived.Shelf.SlGeneric
import Derived.Ground.SlsfProg
set_option maxHeartbeats 8000000
set_option maxRecDepth 8000
set_option linter.unusedSimpArgs false
set_option linter.unusedVariables false
set_option linter.unusedSectionVars false
namespace Go.EV
open Go.Proofs
theorem Pc : ∀ (n : Nat) (l : List Nat), l.Nodup → (∀ x ∈ l, x < n) → l.length ≤ n
 | 0, l, _, h => by
  rcases l with _ | ⟨x, l⟩
  ·exact lA5 _
  ·exact absurd (h x (lB1 ..)) (lBn _)
 | n + 1, l, hn, h => by
  have h1 := Pc n (l.erase n) (hn.erase n) (fun x hx => by
   obtain ⟨h1, h2⟩ := (hn.mem_erase_iff).1 hx
   have := h x h2; omega)
  have h2 : l.length ≤ (l.erase n).length + 1 := by
   rw [List.length_erase]; split <;> omega
  omega
theorem Au4 {R : Nat → Nat → Prop} {f : Nat → Nat} {m : Nat} (h : ∀ i, i < m → R (f i) (f (i + 1))) : ∀ (d i : Nat), i + d + 1 ≤ m → TG R (f i) (f (i + d + 1))
 | 0, i, hi => .one (h i (by omega))
 | d + 1, i, hi => (Au4 h d i (by omega)).trans (.one (h (i + d + 1) (by omega)))
theorem S4 {R : Nat → Nat → Prop} {n m : Nat} {f : Nat → Nat} (ap : ∀ a, ¬ TG R a a) (h : ∀ i, i < m → R (f i) (f (i + 1))) (aU : ∀ i, i ≤ m → f i < n) : m < n := by
 have hnd : ((List.range (m + 1)).map f).Nodup := by
  rw [lBv, lDp, lBc]
  intro i j hi hj gK he
  rw [lE4] at hi hj
  simp only [lDl] at he
  have := Au4 h (j - i - 1) i (by omega)
  rw [show i + (j - i - 1) + 1 = j by omega, ← he] at this
  exact ap _ this
 have := Pc n _ hnd (fun x hx => by
  obtain ⟨i, hi, rfl⟩ := lAk.1 hx
  rw [lAl] at hi
  exact aU i (by omega))
 simp at this
 omega
def Ex1 (p : List Ev) (e : Exec) (w v : Nat) : Prop := O1 p e w = true ∧ Af e w = v
inductive Back (p : List Ev) (e : Exec) : Nat → Nat → Prop
 | here {w : Nat} : Back p e w w
 | on {w v u : Nat} (h : Ex1 p e w v) (t : Back p e v u) : Back p e w u
theorem Pd {p : List Ev} (hm : L5 p) {e : Exec} (hx : XOk p e) {c : Nat} : ∀ (k w s : Nat), w < p.length → ((Dl p e k w s).testBit c = true → s.testBit c = true ∨ ∃ v, Back p e w v ∧ Up p v c)
 | 0, w, s, hw, h => .inl (by simpa [Dl] using h)
 | k + 1, w, s, hw, h => by
  have am : (s ||| F0 p w).testBit c = true → s.testBit c = true ∨ ∃ v, Back p e w v ∧ Up p v c := by
   rw [lD2, lAr, Pb hm hw]
   rintro (h | h)
   ·exact .inl h
   ·exact .inr ⟨w, .here, h⟩
  simp only [Dl] at h
  split at h
  ·rename_i hc
   have hf := (hx.fr w hw).1
   have cv : (Af e w).toNat < p.length := by unfold Af at *; omega
   rcases Pd hm hx k _ _ cv h with h | ⟨v, h1, h2⟩
   ·exact am h
   ·exact .inr ⟨v, .on ⟨hc.1, by omega⟩ h1, h2⟩
  ·exact am h
theorem Pe {p : List Ev} {e : Exec} {c : Nat} : ∀ (k w s : Nat), s.testBit c = true → (Dl p e k w s).testBit c = true
 | 0, w, s, h => h
 | k + 1, w, s, h => by
  simp only [Dl]
  split
  ·exact Pe k _ _ (by rw [lD2, h]; rfl)
  ·rw [lD2, h]; rfl
def Qp (p : List Ev) (e : Exec) : Nat → Nat → Nat → Prop
 | 0, w, u => w = u
 | n + 1, w, u => ∃ v, Ex1 p e w v ∧ Qp p e n v u
theorem Back.n {p : List Ev} {e : Exec} {w u : Nat} (h : Back p e w u) : ∃ n, Qp p e n w u := by
 induction h with
 | here => exact ⟨0, rfl⟩
 | on h _ ih => obtain ⟨n, hn⟩ := ih; exact ⟨n + 1, _, h, hn⟩
theorem Qp.back {p : List Ev} {e : Exec} : ∀ {n w u : Nat}, Qp p e n w u → Back p e w u
 | 0, _, _, h => by cases h; exact .here
 | _ + 1, _, _, ⟨_, h1, h2⟩ => .on h1 (Qp.back h2)
theorem Qp.way {p : List Ev} {e : Exec} : ∀ {n w u : Nat}, Qp p e n w u → ∃ f : Nat → Nat, f 0 = w ∧ f n = u ∧ ∀ i, i < n → Ex1 p e (f i) (f (i + 1))
 | 0, w, u, h => ⟨fun _ => w, rfl, h, fun i hi => by omega⟩
 | n + 1, w, u, ⟨v, h1, h2⟩ => by
  obtain ⟨f, q1, q2, q3⟩ := Qp.way h2
  refine ⟨fun i => if i = 0 then w else f (i - 1), rfl, by simpa using q2, fun i hi => ?_⟩
  by_cases h0 : i = 0
  ·subst h0; simpa [q1] using h1
  ·have h' := q3 (i - 1) (by omega)
   rw [show i - 1 + 1 = i by omega] at h'
   simpa [h0] using h'
theorem L6 {p : List Ev} {e : Exec} (hx : XOk p e) {w : Nat} (h : O1 p e w = true) : w < p.length := by
 unfold O1 at h
 simp only [lA6] at h
 apply lBe; intro hn
 have : e.dn[w]? = none := lD1 (by rw [hx.dl]; omega)
 rw [this] at h; simp at h
def T8 (p : List Ev) (e : Exec) : Prop := ∀ a, ¬ TG (Rf e p.length) a a
theorem Pf {p : List Ev} (hm : L5 p) {e : Exec} (hx : XOk p e) {c : Nat} : ∀ (k w s n u : Nat), w < p.length → n < k → Qp p e n w u → Up p u c → (Dl p e k w s).testBit c = true
 | 0, w, s, n, u, _, hn, _, _ => by omega
 | k + 1, w, s, 0, u, hw, hn, hb, hr => by
  have uS : w = u := hb
  subst uS
  have : (s ||| F0 p w).testBit c = true := by rw [lD2, (Pb hm hw).2 hr]; simp
  simp only [Dl]
  split
  ·exact Pe _ _ _ this
  ·exact this
 | k + 1, w, s, n + 1, u, hw, hn, ⟨v, ⟨h1, h2⟩, h3⟩, hr => by
  simp only [Dl]
  rw [if_pos ⟨h1, by omega⟩]
  have hv : (Af e w).toNat = v := by omega
  rw [hv]
  have hf := (hx.fr w hw).1
  exact Pf hm hx k v _ n u (by unfold Af at h2; omega) (by omega) h3 hr
theorem Ab0 {p : List Ev} (hm : L5 p) {e : Exec} (hx : XOk p e) (ap : T8 p e) {r w c : Nat} (hr : r < p.length) (hw : Af e r = w) : (E6 p e r).testBit c = true ↔ ∃ v, Back p e w v ∧ Up p v c := by
 have cY : w < p.length := by
  have := (hx.fr r hr).1
  unfold Af at hw; omega
 have cl : (Af e r).toNat = w := by omega
 rw [E6, cl]
 constructor
 ·intro h
  rcases Pd hm hx _ _ _ cY h with h | h
  ·simp at h
  ·exact h
 ·rintro ⟨v, hb, hc⟩
  obtain ⟨n, hn⟩ := hb.n
  refine Pf hm hx _ _ _ n v cY ?_ hn hc
  obtain ⟨f, q1, q2, q3⟩ := hn.way
  refine S4 (R := fun a b => Rf e p.length b a) (f := f) (m := n) (fun a ha => ap a ?_) (fun i hi => ?_) (fun i hi => ?_)
  ·have key : ∀ a b, TG (fun a b => Rf e p.length b a) a b → TG (Rf e p.length) b a := by
    intro a b h
    induction h with
    | one h => exact .one h
    | more h _ ih => exact ih.trans (.one h)
   exact key a a ha
  ·have := q3 i hi
   exact ⟨L6 hx this.1, this.2⟩
  ·by_cases h0 : i = 0
   ·subst h0; rw [q1]; exact cY
   ·have := q3 (i - 1) (by omega)
    rw [show i - 1 + 1 = i by omega] at this
    have h1 := (hx.fr _ (L6 hx this.1)).1
    have h2 := this.2
    unfold Af at h2; omega
def Sw (p : List Ev) (e : Exec) (a b : Nat) : Prop := ∃ r w v, r < p.length ∧ (evAt p r).reads = true ∧ Af e r = (w : Nat) ∧ Back p e w v ∧ Up p v a ∧ An0 p r b
theorem K7 {q : Rel} {set to : Nat} : ∀ a, (Jw q set to a).length = q.length
 | 0 => rfl
 | a + 1 => by
  simp only [Jw]
  split
  ·rw [S3, K7 a]
  ·exact K7 a
theorem Uq {q : Rel} {set to x y : Nat} : ∀ a, a ≤ q.length → (A6 (Jw q set to a) x y = true ↔ A6 q x y = true ∨ (x < a ∧ set.testBit x = true ∧ to.testBit y = true))
 | 0, _ => by simp [Jw]
 | a + 1, ha => by
  have ih := Uq (q := q) (set := set) (to := to) (x := x) (y := y) a (by omega)
  simp only [Jw]
  split
  ·rename_i h
   rw [O8, lAr, ih, K7]
   simp only [lA6, decide_eq_true_eq]
   constructor
   ·rintro ((h1 | ⟨h1, h2⟩) | ⟨⟨h1, h2⟩, h3⟩)
    ·exact .inl h1
    ·exact .inr ⟨by omega, h2⟩
    ·subst h1; exact .inr ⟨by omega, h, h3⟩
   ·rintro (h1 | ⟨h1, h2, h3⟩)
    ·exact .inl (.inl h1)
    ·by_cases dT : x = a
     ·subst dT; exact .inr ⟨⟨rfl, by omega⟩, h3⟩
     ·exact .inl (.inr ⟨by omega, h2, h3⟩)
  ·rename_i h
   rw [ih]
   constructor
   ·rintro (h1 | ⟨h1, h2⟩)
    ·exact .inl h1
    ·exact .inr ⟨by omega, h2⟩
   ·rintro (h1 | ⟨h1, h2, h3⟩)
    ·exact .inl h1
    ·by_cases dT : x = a
     ·subst dT; exact absurd h2 h
     ·exact .inr ⟨by omega, h2, h3⟩
theorem Up.lt {p : List Ev} {w c : Nat} (h : Up p w c) (hw : w < p.length) : c < p.length := by
 rcases h.2 with rfl | ⟨h, _⟩ <;> omega
theorem Back.lt {p : List Ev} {e : Exec} (hx : XOk p e) {w v : Nat} (h : Back p e w v) (hw : w < p.length) : v < p.length := by
 induction h with
 | here => exact hw
 | on h _ ih =>
  have h1 := (hx.fr _ (L6 hx h.1)).1
  have h2 := h.2
  exact ih (by unfold Af at h2; omega)
theorem Pg {p : List Ev} {e : Exec} : ∀ r, (Iz p e r).length = p.length
 | 0 => by rw [Iz, Ix, L4, Ho]
 | r + 1 => by
  simp only [Iz]
  split
  ·rw [K7, Pg r]
  ·exact Pg r
theorem Ur {p : List Ev} (hm : L5 p) {e : Exec} (hx : XOk p e) (ap : T8 p e) {a b : Nat} : ∀ n, n ≤ p.length →
  (A6 (Iz p e n) a b = true ↔ Sb1 p a b ∨ Fo1 e.fen a b ∨ ∃ r w v, r < n ∧ (evAt p r).reads = true ∧ Af e r = (w : Nat) ∧ Back p e w v ∧ Up p v a ∧ An0 p r b)
 | 0, _ => by
  rw [Iz, Rx hx.fin.1]
  constructor
  ·rintro (h | h)
   ·exact .inl h
   ·exact .inr (.inl h)
  ·rintro (h | h | ⟨r, w, v, h, _⟩)
   ·exact .inl h
   ·exact .inr h
   ·omega
 | n + 1, hn => by
  have ih := Ur hm hx ap (a := a) (b := b) n (by omega)
  simp only [Iz]
  split
  ·rename_i h
   obtain ⟨w, hw⟩ : ∃ w : Nat, Af e n = w := ⟨(Af e n).toNat, by omega⟩
   have cY : w < p.length := by
    have := (hx.fr n (by omega)).1
    unfold Af at hw; omega
   rw [Uq _ (by rw [Pg]; exact lA5 _), ih, Ab0 hm hx ap (by omega) hw, Ai4 hm (by omega)]
   constructor
   ·rintro ((h1 | h1 | ⟨r, w', v, h1, h2⟩) | ⟨h1, ⟨v, h2, h3⟩, h4⟩)
    ·exact .inl h1
    ·exact .inr (.inl h1)
    ·exact .inr (.inr ⟨r, w', v, by omega, h2⟩)
    ·exact .inr (.inr ⟨n, w, v, by omega, h.1, hw, h2, h3, h4⟩)
   ·rintro (h1 | h1 | ⟨r, w', v, h1, h2, h3, h4, h5, h6⟩)
    ·exact .inl (.inl h1)
    ·exact .inl (.inr (.inl h1))
    ·by_cases hr : r = n
     ·subst hr
      have : w' = w := by omega
      subst this
      exact .inr ⟨h5.lt (h4.lt hx cY), ⟨v, h4, h5⟩, h6⟩
     ·exact .inl (.inr (.inr ⟨r, w', v, by omega, h2, h3, h4, h5, h6⟩))
  ·rename_i h
   rw [ih]
   constructor
   ·rintro (h1 | h1 | ⟨r, w', v, h1, h2⟩)
    ·exact .inl h1
    ·exact .inr (.inl h1)
    ·exact .inr (.inr ⟨r, w', v, by omega, h2⟩)
   ·rintro (h1 | h1 | ⟨r, w', v, h1, h2, h3, h4⟩)
    ·exact .inl h1
    ·exact .inr (.inl h1)
    ·by_cases hr : r = n
     ·subst hr
      exact absurd ⟨h2, by omega⟩ h
     ·exact .inr (.inr ⟨r, w', v, by omega, h2, h3, h4⟩)
def Hb (p : List Ev) (e : Exec) : Nat → Nat → Prop := TG fun a b => Sb1 p a b ∨ Fo1 e.fen a b ∨ Sw p e a b
theorem Kc {p : List Ev} (hm : L5 p) {e : Exec} (hx : XOk p e) (ap : T8 p e) {a b : Nat} : A6 (Gz p e) a b = true ↔ Hb p e a b := by
 rw [Gz, Ds (befGo_ok hx _ (lA5 _))]
 exact TG.congr fun x y => Ur hm hx ap _ (lA5 _)
def Co1 (l : List Int) (a b : Nat) : Prop := ∃ i j, i < j ∧ j < l.length ∧ Ae l i = a ∧ Ae l j = b
def Fr1 (p : List Ev) (e : Exec) (r w : Nat) : Prop := r < p.length ∧ (evAt p r).reads = true ∧ w ≠ r ∧ ∃ j, j < (Lz p e r).length ∧ Ae (Lz p e r) j = w ∧ (Af e r = -1 ∨ ∃ i, i < j ∧ Ae (Lz p e r) i = Af e r)
theorem S5 {q : Rel} {l : List Int} {i : Nat} : ∀ j, (Am9 q l i j).length = q.length
 | 0 => rfl
 | j + 1 => by rw [Am9, E1, S5 j]
theorem S6 {q : Rel} {l : List Int} : ∀ i, (Ai0 q l i).length = q.length
 | 0 => rfl
 | i + 1 => by rw [Ai0, S5, S6 i]
theorem S7 {q : Rel} {ord : List (List Int)} : ∀ i, (Ad0 q ord i).length = q.length
 | 0 => rfl
 | i + 1 => by rw [Ad0, S6, S7 i]
theorem Ym {q : Rel} {l : List Int} (hin : ∀ k, k < l.length → 0 ≤ Ae l k ∧ Ae l k < q.length) {i a b : Nat} : ∀ j, i + 1 + j ≤ l.length →
  (A6 (Am9 q l i j) a b = true ↔ A6 q a b = true ∨ (Ae l i = a ∧ ∃ k, i < k ∧ k < i + 1 + j ∧ Ae l k = b))
 | 0, _ => by
  simp only [Am9]
  constructor
  ·exact .inl
  ·rintro (h | ⟨_, k, h1, h2, _⟩)
   ·exact h
   ·omega
 | j + 1, hj => by
  have ih := Ym hin (i := i) (a := a) (b := b) j (by omega)
  have h1 := hin i (by omega)
  have h2 := hin (i + 1 + j) (by omega)
  rw [Am9, Fo, ih, S5]
  constructor
  ·rintro ((h | ⟨q1, k, q2, q3, q4⟩) | ⟨q1, q2, q3⟩)
   ·exact .inl h
   ·exact .inr ⟨q1, k, q2, by omega, q4⟩
   ·exact .inr ⟨by omega, i + 1 + j, by omega, by omega, by omega⟩
  ·rintro (h | ⟨q1, k, q2, q3, q4⟩)
   ·exact .inl (.inl h)
   ·by_cases hk : k = i + 1 + j
    ·subst hk; exact .inr ⟨by omega, by omega, by omega⟩
    ·exact .inl (.inr ⟨q1, k, q2, by omega, q4⟩)
theorem Yn {q : Rel} {l : List Int} (hin : ∀ k, k < l.length → 0 ≤ Ae l k ∧ Ae l k < q.length) {a b : Nat} : ∀ i, i ≤ l.length →
  (A6 (Ai0 q l i) a b = true ↔ A6 q a b = true ∨ ∃ x y, x < i ∧ x < y ∧ y < l.length ∧ Ae l x = a ∧ Ae l y = b)
 | 0, _ => by
  simp only [Ai0]
  constructor
  ·exact .inl
  ·rintro (h | ⟨x, y, h1, _⟩)
   ·exact h
   ·omega
 | i + 1, hi => by
  have ih := Yn hin (a := a) (b := b) i (by omega)
  rw [Ai0, Ym (by rw [S6]; exact hin) _ (by omega), ih]
  constructor
  ·rintro ((h | ⟨x, y, h1, h2⟩) | ⟨h1, k, h2, h3, h4⟩)
   ·exact .inl h
   ·exact .inr ⟨x, y, by omega, h2⟩
   ·exact .inr ⟨i, k, by omega, h2, by omega, h1, h4⟩
  ·rintro (h | ⟨x, y, h1, h2, h3, h4, h5⟩)
   ·exact .inl (.inl h)
   ·by_cases hx : x = i
    ·subst hx; exact .inr ⟨h4, y, h2, by omega, h5⟩
    ·exact .inl (.inr ⟨x, y, by omega, h2, h3, h4, h5⟩)
theorem Yo {p : List Ev} {q : Rel} (hq : q.length = p.length) {ord : List (List Int)} (ho : ∀ l ∈ ord, Iy p l) {a b : Nat} : ∀ k, k ≤ ord.length →
  (A6 (Ad0 q ord k) a b = true ↔ A6 q a b = true ∨ ∃ i l, i < k ∧ ord[i]? = some l ∧ Co1 l a b)
 | 0, _ => by
  simp only [Ad0]
  constructor
  ·exact .inl
  ·rintro (h | ⟨x, y, h1, _⟩)
   ·exact h
   ·omega
 | k + 1, hk => by
  have ih := Yo hq ho (a := a) (b := b) k (by omega)
  have hg : ord[k]? = some ord[k] := lA2 (by omega)
  have hin : Iy p ord[k] := ho _ (lAm _)
  rw [Ad0, hg, lAn, Yn (fun j hj => by rw [S7, hq]; exact hin.num hj) _ (lA5 _), ih]
  constructor
  ·rintro ((h | ⟨i, l, h1, h2⟩) | ⟨x, y, h1, h2, h3, h4, h5⟩)
   ·exact .inl h
   ·exact .inr ⟨i, l, by omega, h2⟩
   ·exact .inr ⟨k, ord[k], by omega, hg, x, y, h2, h3, h4, h5⟩
  ·rintro (h | ⟨i, l, h1, h2, h3⟩)
   ·exact .inl (.inl h)
   ·by_cases hi : i = k
    ·subst hi
     rw [hg] at h2; cases h2
     obtain ⟨x, y, q1, q2, q3, q4⟩ := h3
     exact .inr ⟨x, y, by omega, q1, q2, q3, q4⟩
    ·exact .inl (.inr ⟨i, l, by omega, h2, h3⟩)
theorem Oa {q : Rel} {r : Nat} {fr : Int} {l : List Int} : ∀ i, (Sy q r fr l i).1.length = q.length
 | 0 => rfl
 | i + 1 => by
  simp only [Sy]
  split
  ·rw [E1, Oa i]
  ·exact Oa i
theorem Ph {q : Rel} {r : Nat} {fr : Int} {l : List Int} : ∀ i, (Sy q r fr l i).2 = true ↔ fr = -1 ∨ ∃ j, j < i ∧ Ae l j = fr
 | 0 => by simp [Sy]
 | i + 1 => by
  simp only [Sy, lAr, decide_eq_true_eq]
  rw [Ph i]
  constructor
  ·rintro ((h | ⟨j, h1, h2⟩) | h)
   ·exact .inl h
   ·exact .inr ⟨j, by omega, h2⟩
   ·exact .inr ⟨i, by omega, h⟩
  ·rintro (h | ⟨j, h1, h2⟩)
   ·exact .inl (.inl h)
   ·by_cases hj : j = i
    ·subst hj; exact .inr h2
    ·exact .inl (.inr ⟨j, by omega, h2⟩)
theorem Yp {q : Rel} {r : Nat} (hr : r < q.length) {fr : Int} {l : List Int} (hin : ∀ k, k < l.length → 0 ≤ Ae l k ∧ Ae l k < q.length) {a b : Nat} : ∀ i, i ≤ l.length →
  (A6 (Sy q r fr l i).1 a b = true ↔ A6 q a b = true ∨ (a = r ∧ b ≠ r ∧ ∃ j, j < i ∧ Ae l j = b ∧ (fr = -1 ∨ ∃ k, k < j ∧ Ae l k = fr)))
 | 0, _ => by
  simp only [Sy]
  constructor
  ·exact .inl
  ·rintro (h | ⟨_, _, j, h1, _⟩)
   ·exact h
   ·omega
 | i + 1, hi => by
  have ih := Yp hr hin (a := a) (b := b) (fr := fr) i (by omega)
  have h0 := hin i (by omega)
  simp only [Sy]
  split
  ·rename_i h
   rw [Ph] at h
   rw [Fo, ih, Oa]
   constructor
   ·rintro ((h1 | ⟨h1, h2, j, h3, h4⟩) | ⟨h1, h2, h3⟩)
    ·exact .inl h1
    ·exact .inr ⟨h1, h2, j, by omega, h4⟩
    ·exact .inr ⟨h1, by omega, i, by omega, by omega, h.1⟩
   ·rintro (h1 | ⟨h1, h2, j, h3, h4, h5⟩)
    ·exact .inl (.inl h1)
    ·by_cases hj : j = i
     ·subst hj; exact .inr ⟨h1, hr, by omega⟩
     ·exact .inl (.inr ⟨h1, h2, j, by omega, h4, h5⟩)
  ·rename_i h
   rw [Ph] at h
   rw [ih]
   constructor
   ·rintro (h1 | ⟨h1, h2, j, h3, h4⟩)
    ·exact .inl h1
    ·exact .inr ⟨h1, h2, j, by omega, h4⟩
   ·rintro (h1 | ⟨h1, h2, j, h3, h4, h5⟩)
    ·exact .inl h1
    ·by_cases hj : j = i
     ·subst hj; exact absurd ⟨h5, fun e => h2 (Int.ofNat.inj (h4.symm.trans e))⟩ h
     ·exact .inr ⟨h1, h2, j, by omega, h4, h5⟩
theorem Jh {p : List Ev} {e : Exec} : ∀ r, (Qm p e r).length = p.length
 | 0 => by rw [Qm, S7, lDe]
 | r + 1 => by
  simp only [Qm]
  split
  ·rw [Oa, O2]
   split
   ·rw [E1, Jh r]
   ·exact Jh r
  ·exact Jh r
def Dl4 (p : List Ev) (e : Exec) (a b : Nat) : Prop := (∃ l ∈ e.ord, Co1 l a b) ∨ ((evAt p b).reads = true ∧ Rf e p.length a b) ∨ Fr1 p e a b
theorem Yq {p : List Ev} (hp : POk p) {e : Exec} (hx : XOk p e) {a b : Nat} : ∀ n, n ≤ p.length →
  (A6 (Qm p e n) a b = true ↔ (∃ l ∈ e.ord, Co1 l a b) ∨ ((evAt p b).reads = true ∧ Rf e n a b) ∨ (a < n ∧ Fr1 p e a b))
 | 0, _ => by
  rw [Qm, Yo (p := p) (by simp) (fun l hl => (hx.oin l hl).1) _ (lA5 _), O9]
  constructor
  ·rintro (h | ⟨i, l, h1, h2, h3⟩)
   ·cases h
   ·exact .inl ⟨l, lCb h2, h3⟩
  ·rintro (⟨l, h1, h2⟩ | ⟨_, h, _⟩ | ⟨h, _⟩)
   ·obtain ⟨i, hi, rfl⟩ := lBf h1
    exact .inr ⟨i, _, hi, lA2 hi, h2⟩
   ·omega
   ·omega
 | n + 1, hn => by
  have ih := Yq hp hx (a := a) (b := b) n (by omega)
  have bW := hx.fr n (by omega)
  obtain ⟨_, _, mn, _⟩ := Sz hp hx (r := n) (by omega)
  simp only [Qm]
  split
  ·rename_i aH
   have i9 : A6 (O2 (Qm p e n) e n) a b = true ↔ A6 (Qm p e n) a b = true ∨ (b = n ∧ Af e n = a) := by
    rw [O2]
    split
    ·rename_i h0
     rw [Fo, Jh]
     unfold Af at h0 ⊢
     constructor
     ·rintro (h | ⟨h1, h2, h3⟩)
      ·exact .inl h
      ·exact .inr ⟨h3, by omega⟩
     ·rintro (h | ⟨h1, h2⟩)
      ·exact .inl h
      ·exact .inr ⟨by omega, by omega, h1⟩
    ·rename_i h0
     constructor
     ·exact .inl
     ·rintro (h | ⟨h1, h2⟩)
      ·exact h
      ·omega
   have fw : (O2 (Qm p e n) e n).length = p.length := by
    rw [O2]; split
    ·rw [E1, Jh]
    ·exact Jh n
   rw [Yp (by rw [fw]; omega) (fun k hk => by rw [fw]; exact mn.num hk) _ (lA5 _), i9, ih]
   unfold Rf
   constructor
   ·rintro (((h | ⟨h1, h2, h3⟩ | ⟨h1, h2⟩) | ⟨rfl, h⟩) | ⟨rfl, h1, j, h2, h3, h4⟩)
    ·exact .inl h
    ·exact .inr (.inl ⟨h1, by omega, h3⟩)
    ·exact .inr (.inr ⟨by omega, h2⟩)
    ·exact .inr (.inl ⟨aH, by omega, h⟩)
    ·exact .inr (.inr ⟨by omega, by omega, aH, h1, j, h2, h3, h4⟩)
   ·rintro (h | ⟨h1, h2, h3⟩ | ⟨h1, h2⟩)
    ·exact .inl (.inl (.inl h))
    ·by_cases hb : b = n
     ·subst hb; exact .inl (.inr ⟨rfl, h3⟩)
     ·exact .inl (.inl (.inr (.inl ⟨h1, by omega, h3⟩)))
    ·by_cases ha : a = n
     ·subst ha
      obtain ⟨_, _, h4, j, h5, h6, h7⟩ := h2
      exact .inr ⟨rfl, h4, j, h5, h6, h7⟩
     ·exact .inl (.inl (.inr (.inr ⟨by omega, h2⟩)))
  ·rename_i aH
   rw [ih]
   unfold Rf
   constructor
   ·rintro (h | ⟨h1, h2, h3⟩ | ⟨h1, h2⟩)
    ·exact .inl h
    ·exact .inr (.inl ⟨h1, by omega, h3⟩)
    ·exact .inr (.inr ⟨by omega, h2⟩)
   ·rintro (h | ⟨h1, h2, h3⟩ | ⟨h1, h2⟩)
    ·exact .inl h
    ·by_cases hb : b = n
     ·subst hb; exact absurd h1 aH
     ·exact .inr (.inl ⟨h1, by omega, h3⟩)
    ·by_cases ha : a = n
     ·subst ha; exact absurd h2.2.1 aH
     ·exact .inr (.inr ⟨by omega, h2⟩)
def Eco (p : List Ev) (e : Exec) : Nat → Nat → Prop := TG (Dl4 p e)
theorem Yr {p : List Ev} (hp : POk p) {e : Exec} (hx : XOk p e) {a b : Nat} : A6 (Bg4 p e) a b = true ↔ Eco p e a b := by
 rw [Bg4, Ds (comD_ok hp hx _ (lA5 _))]
 refine TG.congr fun x y => ?_
 rw [Yq hp hx _ (lA5 _)]
 unfold Dl4
 constructor
 ·rintro (h | h | ⟨_, h⟩)
  ·exact .inl h
  ·exact .inr (.inl h)
  ·exact .inr (.inr h)
 ·rintro (h | h | h)
  ·exact .inl h
  ·exact .inr (.inl h)
  ·exact .inr (.inr ⟨h.1, h⟩)
def K8 (p : List Ev) (e : Exec) : Prop := ∀ l ∈ e.ord, ∀ i, i < l.length → (evAt p (Ae l i).toNat).reads = true → Af e (Ae l i).toNat = Ed l i
def F6 (p : List Ev) (e : Exec) : Prop := ∃ a, TG (fun a b => Sb1 p a b ∨ Fo1 e.fen a b ∨ Rf e p.length a b) a a
def Qr (p : List Ev) (e : Exec) : Prop := (∃ a, Hb p e a a) ∨ ∃ a b, Hb p e a b ∧ Eco p e b a
theorem JL {p : List Ev} {e : Exec} (h : ¬ F6 p e) : T8 p e := fun a ha => h ⟨a, ha.mono fun _ _ k => .inr (.inr k)⟩
theorem Us {p : List Ev} (hp : POk p) (hm : L5 p) {e : Exec} (hx : XOk p e) (ap : T8 p e) : (Be (Gz p e) || O3 p e) = true ↔ Qr p e := by
 unfold Qr
 rw [lAr, C1]
 refine or_congr (exists_congr fun a => Kc hm hx ap) ?_
 unfold O3
 simp only [lBx, lAl, lA6]
 constructor
 ·rintro ⟨a, _, b, _, h1, h2⟩
  exact ⟨a, b, (Kc hm hx ap).1 h1, (Yr hp hx).1 h2⟩
 ·rintro ⟨a, b, h1, h2⟩
  have dZ := (Kc hm hx ap).2 h1
  have := (beforeP_ok hx).has dZ
  exact ⟨a, this.1, b, this.2, dZ, (Yr hp hx).2 h2⟩
theorem S8 {p : List Ev} {e : Exec} : e.ord.any (C0 p e) = true ↔ ¬ K8 p e := by
 unfold K8
 simp only [lBx, C0, S0, lAl, lA6, decide_eq_true_eq]
 constructor
 ·rintro ⟨l, hl, i, hi, h1, h2⟩ h
  exact h2 (h l hl i hi h1)
 ·intro h
  apply lBe
  intro hn
  apply h
  intro l hl i hi hr
  apply lBe
  intro h2
  exact hn ⟨l, hl, i, hi, hr, h2⟩
open Classical in
theorem Ab1 {p : List Ev} (hp : POk p) (hm : L5 p) {e : Exec} (hx : XOk p e) :
  Dm p e = if F6 p e then 2 else if Qr p e then 3 else if K8 p e then 0 else 4 := by
 unfold Dm
 by_cases h2 : F6 p e
 ·rw [if_pos ((Ry hx).2 h2), if_pos h2]
 ·rw [if_neg (fun h => h2 ((Ry hx).1 h)), if_neg h2]
  have ap := JL h2
  by_cases h3 : Qr p e
  ·rw [if_pos ((Us hp hm hx ap).2 h3), if_pos h3]
  ·rw [if_neg (fun h => h3 ((Us hp hm hx ap).1 h)), if_neg h3]
   by_cases h4 : K8 p e
   ·rw [if_neg (fun h => S8.1 h h4), if_pos h4]
   ·rw [if_pos (S8.2 h4), if_neg h4]
structure Cons (p : List Ev) (e : Exec) : Prop where
 round : ¬ F6 p e
 cross : ¬ Qr p e
 next : K8 p e
theorem I3 {p : List Ev} (hp : POk p) (hm : L5 p) {e : Exec} (hx : XOk p e) : Dm p e = 0 ↔ Cons p e := by
 rw [Ab1 hp hm hx]
 constructor
 ·intro h
  split at h
  ·cases h
  ·split at h
   ·cases h
   ·split at h
    ·exact ⟨by assumption, by assumption, by assumption⟩
    ·cases h
 ·intro ⟨h1, h2, h3⟩
  rw [if_neg h1, if_neg h2, if_pos h3]
def Wd.R (s : Wd) (i : Nat) : Int := s.r[i]?.getD 0
def Wd.W (s : Wd) (i : Nat) : Int := s.w[i]?.getD 0
def Wd.K (s : Wd) (i : Nat) : Bool := s.k[i]?.getD false
def Wd.T (s : Wd) (i : Nat) : Bool := s.t[i]?.getD false
def B4 (f : List Int) (i : Nat) : Int := f[i]?.getD 0
theorem Bg {α : Type} {l : List α} {i j : Nat} {x d : α} (hi : i < l.length) : (l.set i x)[j]?.getD d = if j = i then x else l[j]?.getD d := by
 rw [List.getElem?_set]
 by_cases h : i = j
 ·subst h; simp [hi]
 ·have h' : ¬ j = i := fun e => h e.symm
  simp [h, h']
structure Wd.Inv (p : List Ev) (f : List Int) (s : Wd) : Prop where
 len : s.Len p.length
 k : ∀ i, s.K i = true → (evAt p i).reads = true ∧ ((B4 f i = -1 ∧ s.R i = 0) ∨ ∃ w : Nat, B4 f i = w ∧ s.T w = true ∧ s.R i = s.W w)
 n : ∀ i, s.K i = false → s.R i = 0
 t : ∀ i, s.T i = true → ((evAt p i).op.kind = 1 ∧ s.W i = (evAt p i).op.v) ∨ ((evAt p i).op.kind = 2 ∧ s.K i = true ∧ s.W i = IntKind.i64.wrap (s.R i + (evAt p i).op.v)) ∨ (((evAt p i).op.kind = 3 ∨ (evAt p i).op.kind = 4) ∧ s.W i = (evAt p i).op.w)
structure Wd.Le (s s' : Wd) : Prop where
 k : ∀ i, s.K i = true → s'.K i = true ∧ s'.R i = s.R i
 t : ∀ i, s.T i = true → s'.T i = true ∧ s'.W i = s.W i
theorem Wd.Le.refl (s : Wd) : s.Le s := ⟨fun _ h => ⟨h, rfl⟩, fun _ h => ⟨h, rfl⟩⟩
theorem Wd.Le.trans {a b c : Wd} (h : a.Le b) (k : b.Le c) : a.Le c :=
 ⟨fun i hi => ⟨(k.k i (h.k i hi).1).1, (k.k i (h.k i hi).1).2.trans (h.k i hi).2⟩, fun i hi => ⟨(k.t i (h.t i hi).1).1, (k.t i (h.t i hi).1).2.trans (h.t i hi).2⟩⟩
section
variable {p : List Ev} {f : List Int}
theorem R0 (hf : Df p f) {s : Wd} {i : Nat} (hi : i < p.length) (h : s.Inv p f) : (Cn p f s i).Inv p f ∧ s.Le (Cn p f s i) ∧
  (((evAt p i).reads = true ∧ (B4 f i = -1 ∨ ∃ w : Nat, B4 f i = w ∧ s.T w = true)) → (Cn p f s i).K i = true) := by
 unfold Cn
 have hl := h.len
 have eT : i < s.k.length := by rw [hl.k]; exact hi
 have jP : i < s.r.length := by rw [hl.r]; exact hi
 split
 ·rename_i hc
  simp only [lA6, decide_eq_true_eq] at hc
  have hK : ∀ j, ({ s with k := s.k.set i true } : Wd).K j = if j = i then true else s.K j := fun j => Bg eT
  refine ⟨⟨⟨hl.r, hl.w, by simp [hl.k], hl.t⟩, fun j hj => ?_, fun j hj => ?_, fun j hj => ?_⟩, ⟨fun j hj => ⟨?_, rfl⟩, fun j hj => ⟨hj, rfl⟩⟩, fun _ => ?_⟩
  ·rw [hK] at hj
   by_cases bD : j = i
   ·subst bD
    refine ⟨hc.1, .inl ⟨hc.2, ?_⟩⟩
    cases hk : s.K j with
    | false => exact h.n j hk
    | true =>
     rcases (h.k j hk).2 with ⟨_, h2⟩ | ⟨w, h1, _⟩
     ·exact h2
     ·have : B4 f j = -1 := hc.2
      omega
   ·rw [if_neg bD] at hj; exact h.k j hj
  ·rw [hK] at hj
   by_cases bD : j = i
   ·rw [if_pos bD] at hj; cases hj
   ·rw [if_neg bD] at hj; exact h.n j hj
  ·rcases h.t j hj with h1 | ⟨h1, h2, h3⟩ | h1
   ·exact .inl h1
   ·refine .inr (.inl ⟨h1, ?_, h3⟩)
    rw [hK]; split
    ·rfl
    ·exact h2
   ·exact .inr (.inr h1)
  ·rw [hK]; split
   ·rfl
   ·exact hj
  ·rw [hK, if_pos rfl]
 ·rename_i hc
  split
  ·rename_i dw
   simp only [lA6, decide_eq_true_eq, not_and] at hc dw
   have hne : B4 f i ≠ -1 := hc dw.1
   obtain ⟨w, hw⟩ : ∃ w : Nat, B4 f i = w := by
    rcases hf.2 i hi dw.1 with h1 | ⟨h1, _⟩
    ·exact absurd h1 hne
    ·exact ⟨(B4 f i).toNat, by unfold B4; omega⟩
   have iG : (f[i]?.getD 0).toNat = w := by unfold B4 at hw; omega
   rw [iG] at dw
   rw [iG]
   have hK : ∀ j, ({ s with r := s.r.set i (s.w[w]?.getD 0), k := s.k.set i true } : Wd).K j = if j = i then true else s.K j := fun j => Bg eT
   have hR : ∀ j, ({ s with r := s.r.set i (s.w[w]?.getD 0), k := s.k.set i true } : Wd).R j = if j = i then s.W w else s.R j := fun j => Bg jP
   have si : ∀ j, s.K j = true → ({ s with r := s.r.set i (s.w[w]?.getD 0), k := s.k.set i true } : Wd).R j = s.R j := by
    intro j hj
    rw [hR]; split
    ·rename_i e; subst e
     rcases (h.k j hj).2 with ⟨h1, _⟩ | ⟨w', h1, _, h3⟩
     ·exact absurd h1 hne
     ·have : w' = w := by omega
      subst this; exact h3.symm
    ·rfl
   refine ⟨⟨⟨by simp [hl.r], hl.w, by simp [hl.k], hl.t⟩, fun j hj => ?_, fun j hj => ?_, fun j hj => ?_⟩, ⟨fun j hj => ⟨?_, si j hj⟩, fun j hj => ⟨hj, rfl⟩⟩, fun _ => ?_⟩
   ·rw [hK] at hj
    rw [hR]
    by_cases bD : j = i
    ·subst bD
     rw [if_pos rfl]
     exact ⟨dw.1, .inr ⟨w, hw, dw.2, rfl⟩⟩
    ·rw [if_neg bD] at hj ⊢; exact h.k j hj
   ·rw [hK] at hj
    rw [hR]
    by_cases bD : j = i
    ·rw [if_pos bD] at hj; cases hj
    ·rw [if_neg bD] at hj ⊢; exact h.n j hj
   ·rcases h.t j hj with h1 | ⟨h1, h2, h3⟩ | h1
    ·exact .inl h1
    ·refine .inr (.inl ⟨h1, ?_, ?_⟩)
     ·rw [hK]; split
      ·rfl
      ·exact h2
     ·rw [si j h2]; exact h3
    ·exact .inr (.inr h1)
   ·rw [hK]; split
    ·rfl
    ·exact hj
   ·rw [hK, if_pos rfl]
  ·rename_i dw
   refine ⟨h, Wd.Le.refl s, fun ⟨h1, h2⟩ => ?_⟩
   exfalso
   simp only [lA6, decide_eq_true_eq, not_and] at hc dw
   rcases h2 with h2 | ⟨w, h2, h3⟩
   ·exact hc h1 h2
   ·apply dw h1
    have : (f[i]?.getD 0).toNat = w := by unfold B4 at h2; omega
    rw [this]; exact h3
theorem W9 {s : Wd} {i : Nat} (hi : i < p.length) (h : s.Inv p f) : (Cz p s i).Inv p f ∧ s.Le (Cz p s i) ∧
  (((evAt p i).op.kind = 1 ∨ ((evAt p i).op.kind = 2 ∧ s.K i = true) ∨ (evAt p i).op.kind = 3 ∨ (evAt p i).op.kind = 4) → (Cz p s i).T i = true) ∧ (∀ j, (Cz p s i).K j = s.K j) := by
 have hl := h.len
 have lx : i < s.w.length := by rw [hl.w]; exact hi
 have dR : i < s.t.length := by rw [hl.t]; exact hi
 have key : ∀ (x : Int) (b : Bool), (∀ _ : s.T i = true, b = true ∧ x = s.W i) →
   (b = true → ((evAt p i).op.kind = 1 ∧ x = (evAt p i).op.v) ∨ ((evAt p i).op.kind = 2 ∧ s.K i = true ∧ x = IntKind.i64.wrap (s.R i + (evAt p i).op.v)) ∨ (((evAt p i).op.kind = 3 ∨ (evAt p i).op.kind = 4) ∧ x = (evAt p i).op.w)) →
   ({ s with w := s.w.set i x, t := s.t.set i b } : Wd).Inv p f ∧ s.Le { s with w := s.w.set i x, t := s.t.set i b } ∧ ({ s with w := s.w.set i x, t := s.t.set i b } : Wd).T i = b := by
  intro x b h1 h2
  have hT : ∀ j, ({ s with w := s.w.set i x, t := s.t.set i b } : Wd).T j = if j = i then b else s.T j := fun j => Bg dR
  have hW : ∀ j, ({ s with w := s.w.set i x, t := s.t.set i b } : Wd).W j = if j = i then x else s.W j := fun j => Bg lx
  have aY : s.Le { s with w := s.w.set i x, t := s.t.set i b } := by
   refine ⟨fun j hj => ⟨hj, rfl⟩, fun j hj => ?_⟩
   rw [hT, hW]
   by_cases bD : j = i
   ·subst bD; simp only [if_true]; exact h1 hj
   ·rw [if_neg bD, if_neg bD]; exact ⟨hj, rfl⟩
  refine ⟨⟨⟨hl.r, by simp [hl.w], hl.k, by simp [hl.t]⟩, fun j hj => ?_, h.n, fun j hj => ?_⟩, aY, by rw [hT, if_pos rfl]⟩
  ·obtain ⟨q1, q2⟩ := h.k j hj
   refine ⟨q1, q2.imp id fun ⟨w, e1, e2, e3⟩ => ⟨w, e1, (aY.t w e2).1, ?_⟩⟩
   rw [(aY.t w e2).2]; exact e3
  ·rw [hT] at hj
   rw [hW]
   by_cases bD : j = i
   ·subst bD; rw [if_pos rfl] at hj ⊢; exact h2 hj
   ·rw [if_neg bD] at hj ⊢; exact h.t j hj
 unfold Cz
 split
 ·rename_i hk
  obtain ⟨q1, q2, q3⟩ := key (evAt p i).op.v true (fun ht => ⟨rfl, by rcases h.t i ht with ⟨_, e⟩ | ⟨e, _⟩ | ⟨e, _⟩ <;> omega⟩) (fun _ => .inl ⟨hk, rfl⟩)
  exact ⟨q1, q2, fun _ => q3, fun _ => rfl⟩
 ·rename_i cM
  split
  ·rename_i hk
   obtain ⟨q1, q2, q3⟩ := key (IntKind.i64.wrap (s.r[i]?.getD 0 + (evAt p i).op.v)) (s.k[i]?.getD false)
    (fun ht => by
     rcases h.t i ht with ⟨e, _⟩ | ⟨e, e2, e3⟩ | ⟨e, _⟩
     ·omega
     ·exact ⟨e2, e3.symm⟩
     ·omega) (fun hb => .inr (.inl ⟨hk, hb, rfl⟩))
   refine ⟨q1, q2, fun hh => ?_, fun _ => rfl⟩
   rw [q3]
   rcases hh with e | ⟨_, e⟩ | e | e
   ·omega
   ·exact e
   ·omega
   ·omega
  ·rename_i cU
   split
   ·rename_i hk
    obtain ⟨q1, q2, q3⟩ := key (evAt p i).op.w true (fun ht => ⟨rfl, by rcases h.t i ht with ⟨e, _⟩ | ⟨e, _⟩ | ⟨_, e⟩ <;> omega⟩) (fun _ => .inr (.inr ⟨hk, rfl⟩))
    exact ⟨q1, q2, fun _ => q3, fun _ => rfl⟩
   ·rename_i hk
    refine ⟨h, Wd.Le.refl s, fun hh => ?_, fun _ => rfl⟩
    omega
theorem E8 (hf : Df p f) {s : Wd} (h : s.Inv p f) : ∀ m, m ≤ p.length → (Dd p f s m).Inv p f ∧ s.Le (Dd p f s m) ∧
  (∀ i, i < m → ((evAt p i).reads = true ∧ (B4 f i = -1 ∨ ∃ w : Nat, B4 f i = w ∧ s.T w = true)) → (Dd p f s m).K i = true) ∧
  (∀ i, i < m → ((evAt p i).op.kind = 1 ∨ ((evAt p i).op.kind = 2 ∧ (Dd p f s m).K i = true) ∨ (evAt p i).op.kind = 3 ∨ (evAt p i).op.kind = 4) → (Dd p f s m).T i = true) ∧
  (∀ i, (Dd p f s m).K i = true → i < m ∨ s.K i = true)
 | 0, _ => ⟨h, Wd.Le.refl s, fun i hi => by omega, fun i hi => by omega, fun i hi => .inr hi⟩
 | m + 1, hm => by
  obtain ⟨h1, h2, h3, h4, h5⟩ := E8 hf h m (by omega)
  obtain ⟨r1, r2, r3⟩ := R0 hf (i := m) (by omega) h1
  obtain ⟨w1, w2, w3, w4⟩ := W9 (i := m) (by omega) r1
  have aY := (h2.trans r2).trans w2
  have lA : ∀ j, j ≠ m → (Cn p f (Dd p f s m) m).K j = (Dd p f s m).K j := by
   intro j hj
   have eT : m < (Dd p f s m).k.length := by rw [h1.len.k]; omega
   unfold Cn
   split
   ·show ((Dd p f s m).k.set m true)[j]?.getD false = _
    rw [Bg eT, if_neg hj]; rfl
   ·split
    ·show ((Dd p f s m).k.set m true)[j]?.getD false = _
     rw [Bg eT, if_neg hj]; rfl
    ·rfl
  refine ⟨w1, aY, fun i hi hr => ?_, fun i hi hk => ?_, fun i hi => ?_⟩
  ·by_cases gC : i = m
   ·subst gC
    show (Cz p (Cn p f (Dd p f s i) i) i).K i = true
    rw [w4]
    refine r3 ⟨hr.1, hr.2.imp id fun ⟨w, e1, e2⟩ => ⟨w, e1, (h2.t w e2).1⟩⟩
   ·exact ((r2.trans w2).k i (h3 i (by omega) hr)).1
  ·by_cases gC : i = m
   ·subst gC
    refine w3 (hk.imp id fun e => e.imp (fun e => ⟨e.1, ?_⟩) id)
    have := e.2
    rw [show Dd p f s (i + 1) = Cz p (Cn p f (Dd p f s i) i) i from rfl, w4] at this
    exact this
   ·refine ((r2.trans w2).t i (h4 i (by omega) (hk.imp id fun e => e.imp (fun e => ⟨e.1, ?_⟩) id))).1
    have := e.2
    rw [show Dd p f s (m + 1) = Cz p (Cn p f (Dd p f s m) m) m from rfl, w4, lA i gC] at this
    exact this
  ·have aC : (Cz p (Cn p f (Dd p f s m) m) m).K i = true := hi
   rw [w4] at aC
   by_cases gC : i = m
   ·exact .inl (by omega)
   ·rw [lA i gC] at aC
    rcases h5 i aC with h | h
    ·exact .inl (by omega)
    ·exact .inr h
theorem Bg7 : (wd0 p.length).Inv p f := by
 have hT : ∀ i, (wd0 p.length).T i = false := fun i => by simp only [Wd.T, wd0, lBy]; split <;> rfl
 have hK : ∀ i, (wd0 p.length).K i = false := fun i => by simp only [Wd.K, wd0, lBy]; split <;> rfl
 refine ⟨Ah6 _, fun i h => ?_, fun i _ => ?_, fun i h => ?_⟩
 ·rw [hK] at h; cases h
 ·simp only [Wd.R, wd0, lBy]; split <;> rfl
 ·rw [hT] at h; cases h
theorem Dt (hf : Df p f) : ∀ k, (Bk p f k).Inv p f
 | 0 => Bg7
 | k + 1 => (E8 hf (Dt hf k) _ (lA5 _)).1
def L7 (p : List Ev) (f : List Int) : Prop := ∀ i w : Nat, i < p.length → (evAt p i).reads = true → B4 f i = w → w < p.length ∧ 1 ≤ (evAt p w).op.kind ∧ (evAt p w).op.kind ≤ 4
theorem Na (hf : Df p f) (hs : L7 p f) : ∀ (m i : Nat), i < p.length → (evAt p i).reads = true → (Bk p f (m + 1)).K i = false →
  ∃ g : Nat → Nat, g 0 = i ∧ (∀ j, j ≤ m → g j < p.length) ∧ ∀ j, j < m → B4 f (g j) = (g (j + 1) : Nat)
 | 0, i, hi, _, _ => ⟨fun _ => i, rfl, fun _ _ => hi, fun j hj => by omega⟩
 | m + 1, i, hi, hr, hk => by
  obtain ⟨_, _, h3, _, _⟩ := E8 hf (Dt hf (m + 1)) p.length (lA5 _)
  obtain ⟨_, _, _, k4, _⟩ := E8 hf (Dt hf m) p.length (lA5 _)
  have hn : B4 f i ≠ -1 := fun e => by
   have := h3 i hi ⟨hr, .inl e⟩
   rw [show Dd p f (Bk p f (m + 1)) p.length = Bk p f (m + 1 + 1) from rfl, hk] at this; cases this
  obtain ⟨w, hw⟩ : ∃ w : Nat, B4 f i = w := by
   rcases hf.2 i hi hr with h1 | ⟨h1, _⟩
   ·exact absurd h1 hn
   ·exact ⟨(B4 f i).toNat, by unfold B4; omega⟩
  obtain ⟨cY, cM, uT⟩ := hs i w hi hr hw
  have hT : (Bk p f (m + 1)).T w = false := by
   cases ht : (Bk p f (m + 1)).T w with
   | false => rfl
   | true =>
    have := h3 i hi ⟨hr, .inr ⟨w, hw, ht⟩⟩
    rw [show Dd p f (Bk p f (m + 1)) p.length = Bk p f (m + 1 + 1) from rfl, hk] at this; cases this
  have cU : (evAt p w).op.kind = 2 := by
   apply lBe; intro h2
   have := k4 w cY (by omega)
   rw [show Dd p f (Bk p f m) p.length = Bk p f (m + 1) from rfl, hT] at this; cases this
  have jr : (Bk p f (m + 1)).K w = false := by
   cases ht : (Bk p f (m + 1)).K w with
   | false => rfl
   | true =>
    have := k4 w cY (.inr (.inl ⟨cU, ht⟩))
    rw [show Dd p f (Bk p f m) p.length = Bk p f (m + 1) from rfl, hT] at this; cases this
  obtain ⟨g, g1, g2, g3⟩ := Na hf hs m w cY (by simp [Ev.reads, cU]) jr
  refine ⟨fun j => if j = 0 then i else g (j - 1), rfl, fun j hj => ?_, fun j hj => ?_⟩
  ·by_cases h0 : j = 0
   ·simp [h0, hi]
   ·simp only [h0, if_false]; exact g2 _ (by omega)
  ·by_cases h0 : j = 0
   ·subst h0; simpa [g1] using hw
   ·have := g3 (j - 1) (by omega)
    rw [show j - 1 + 1 = j by omega] at this
    simpa [h0] using this
structure Words (p : List Ev) (f : List Int) (R W : Nat → Int) : Prop where
 out : ∀ i, i < p.length → (evAt p i).reads = false → R i = 0
 init : ∀ i, i < p.length → (evAt p i).reads = true → B4 f i = -1 → R i = 0
 from_ : ∀ i w : Nat, i < p.length → (evAt p i).reads = true → B4 f i = w → R i = W w
 store : ∀ i, i < p.length → (evAt p i).op.kind = 1 → W i = (evAt p i).op.v
 add : ∀ i, i < p.length → (evAt p i).op.kind = 2 → W i = IntKind.i64.wrap (R i + (evAt p i).op.v)
 cas : ∀ i, i < p.length → ((evAt p i).op.kind = 3 ∨ (evAt p i).op.kind = 4) → W i = (evAt p i).op.w
theorem H7 (hf : Df p f) (hs : L7 p f) (ap : ∀ a, ¬ TG (fun a b => b < p.length ∧ B4 f b = (a : Nat)) a a) {i : Nat} (hi : i < p.length) (hr : (evAt p i).reads = true) : (Aw p f).K i = true := by
 cases hk : (Aw p f).K i with
 | true => rfl
 | false =>
  exfalso
  obtain ⟨g, g1, g2, g3⟩ := Na hf hs p.length i hi hr hk
  have := S4 (R := fun a b => a < p.length ∧ B4 f a = (b : Nat)) (n := p.length) (m := p.length) (f := g) (fun a ha => ?_) (fun j hj => ⟨g2 j (by omega), g3 j hj⟩) g2
  ·omega
  ·have key : ∀ a b, TG (fun a b => a < p.length ∧ B4 f a = (b : Nat)) a b → TG (fun a b => b < p.length ∧ B4 f b = (a : Nat)) b a := by
    intro a b h
    induction h with
    | one h => exact .one h
    | more h _ ih => exact ih.trans (.one h)
   exact ap a (key a a ha)
theorem words_ok (hf : Df p f) (hs : L7 p f) (ap : ∀ a, ¬ TG (fun a b => b < p.length ∧ B4 f b = (a : Nat)) a a) : Words p f (Aw p f).R (Aw p f).W := by
 have bp := Dt hf (p.length + 1)
 have hT : ∀ i, i < p.length → ((evAt p i).op.kind = 1 ∨ ((evAt p i).op.kind = 2 ∧ (Aw p f).K i = true) ∨ (evAt p i).op.kind = 3 ∨ (evAt p i).op.kind = 4) → (Aw p f).T i = true :=
  (E8 hf (Dt hf p.length) _ (lA5 _)).2.2.2.1
 refine ⟨fun i hi hr => ?_, fun i hi hr h0 => ?_, fun i w hi hr hw => ?_, fun i hi hk => ?_, fun i hi hk => ?_, fun i hi hk => ?_⟩
 ·refine bp.n i ?_
  cases hk : (Bk p f (p.length + 1)).K i with
  | false => rfl
  | true => rw [(bp.k i hk).1] at hr; cases hr
 ·rcases (bp.k i (H7 hf hs ap hi hr)).2 with ⟨_, h⟩ | ⟨w, h, _⟩
  ·exact h
  ·omega
 ·rcases (bp.k i (H7 hf hs ap hi hr)).2 with ⟨h, _⟩ | ⟨w', h, _, h3⟩
  ·omega
  ·have : w' = w := by omega
   subst this; exact h3
 ·rcases bp.t i (hT i hi (.inl hk)) with ⟨_, h⟩ | ⟨h, _⟩ | ⟨h, _⟩
  ·exact h
  ·omega
  ·omega
 ·have hr : (evAt p i).reads = true := by simp [Ev.reads, hk]
  rcases bp.t i (hT i hi (.inr (.inl ⟨hk, H7 hf hs ap hi hr⟩))) with ⟨h, _⟩ | ⟨_, _, h⟩ | ⟨h, _⟩
  ·omega
  ·exact h
  ·omega
 ·rcases bp.t i (hT i hi (.inr (.inr hk))) with ⟨h, _⟩ | ⟨h, _⟩ | ⟨_, h⟩
  ·omega
  ·omega
  ·exact h
theorem Dh9 {n : Nat} {f : Nat → Int} (aU : ∀ i, i < n → f i < n) (ap : ∀ a, ¬ TG (fun a b => b < n ∧ f b = (a : Nat)) a a) (C : Nat → Prop) (h : ∀ i, i < n → (∀ w : Nat, f i = w → C w) → C i) : ∀ i, i < n → C i := by
 intro i hi
 apply lC7; intro hn
 have step : ∀ x : { i : Nat // i < n ∧ ¬ C i }, ∃ y : { i : Nat // i < n ∧ ¬ C i }, f x.1 = (y.1 : Nat) := by
  intro ⟨x, hx, hc⟩
  apply lC7; intro aI
  refine hc (h x hx fun w hw => ?_)
  apply lC7; intro eD
  exact aI ⟨⟨w, by have := aU x hx; omega, eD⟩, hw⟩
 have hg : ∃ g : { i : Nat // i < n ∧ ¬ C i } → { i : Nat // i < n ∧ ¬ C i }, ∀ x, f x.1 = ((g x).1 : Nat) := ⟨fun x => Classical.choose (step x), fun x => Classical.choose_spec (step x)⟩
 obtain ⟨g, hg⟩ := hg
 let it : Nat → { i : Nat // i < n ∧ ¬ C i } := fun k => Nat.rec ⟨i, hi, hn⟩ (fun _ x => g x) k
 have := S4 (R := fun a b => a < n ∧ f a = (b : Nat)) (n := n) (m := n) (f := fun k => (it k).1) (fun a ha => ?_) (fun j hj => ⟨(it j).2.1, hg (it j)⟩) (fun j _ => (it j).2.1)
 ·omega
 ·have key : ∀ a b, TG (fun a b => a < n ∧ f a = (b : Nat)) a b → TG (fun a b => b < n ∧ f b = (a : Nat)) b a := by
   intro a b h
   induction h with
   | one h => exact .one h
   | more h _ ih => exact ih.trans (.one h)
  exact ap a (key a a ha)
theorem Words.uniq (hf : Df p f) (hs : L7 p f) (ap : ∀ a, ¬ TG (fun a b => b < p.length ∧ B4 f b = (a : Nat)) a a) (aU : ∀ i, i < p.length → B4 f i < p.length) {R W R' W' : Nat → Int} (h : Words p f R W) (h' : Words p f R' W') :
  ∀ i, i < p.length → R i = R' i ∧ (1 ≤ (evAt p i).op.kind → (evAt p i).op.kind ≤ 4 → W i = W' i) := by
 refine Dh9 (f := B4 f) aU ap _ fun i hi ih => ?_
 have hR : R i = R' i := by
  cases hr : (evAt p i).reads with
  | false => rw [h.out i hi hr, h'.out i hi hr]
  | true =>
   rcases hf.2 i hi hr with h0 | ⟨h0, h1⟩
   ·rw [h.init i hi hr h0, h'.init i hi hr h0]
   ·obtain ⟨w, hw⟩ : ∃ w : Nat, B4 f i = w := ⟨(B4 f i).toNat, by unfold B4; omega⟩
    obtain ⟨q1, q2, q3⟩ := hs i w hi hr hw
    rw [h.from_ i w hi hr hw, h'.from_ i w hi hr hw]
    exact (ih w hw).2 q2 q3
 refine ⟨hR, fun h1 h4 => ?_⟩
 by_cases k1 : (evAt p i).op.kind = 1
 ·rw [h.store i hi k1, h'.store i hi k1]
 ·by_cases k2 : (evAt p i).op.kind = 2
  ·rw [h.add i hi k2, h'.add i hi k2, hR]
  ·rw [h.cas i hi (by omega), h'.cas i hi (by omega)]
end
theorem K9 (n : Nat) (f : Nat → Bool) : (Cq n f).Pairwise (· < ·) := by
 unfold Cq
 rw [lDp]
 refine List.Pairwise.imp (R := fun a b : Nat => a < b) (fun h => by omega) ?_
 exact List.Pairwise.filter _ List.pairwise_lt_range
theorem Ai5 {l : List Int} (h : l.Pairwise (· < ·)) {i j : Nat} (hi : i < l.length) (hj : j < l.length) (e : Ae l i = Ae l j) : i = j := by
 have hp := lBc.1 h
 simp only [Ae, lA2 hi, lA2 hj, lAn] at e
 rcases Nat.lt_trichotomy i j with h1 | h1 | h1
 ·have := hp i j hi hj h1; omega
 ·exact h1
 ·have := hp j i hj hi h1; omega
theorem C5 {l : List Int} {i : Nat} (hi : i < l.length) : Ae l i = l[i] := by simp [Ae, hi]
theorem Hp {l : List Int} {x : Int} : x ∈ l ↔ ∃ i, i < l.length ∧ Ae l i = x := by
 constructor
 ·intro h
  obtain ⟨i, hi, rfl⟩ := lBf h
  exact ⟨i, hi, C5 hi⟩
 ·rintro ⟨i, hi, rfl⟩
  rw [C5 hi]; exact lAm hi
def B7 (e : List Bool) (i : Nat) : Bool := e[i]?.getD false
theorem Ut (p : List Ev) (i : Nat) (hi : i < p.length) : ∀ m, m ≤ p.length → B7 (L1 p m) i = (decide (i < m) && (decide ((evAt p i).op.kind = 1) || decide ((evAt p i).op.kind = 2)))
 | 0, _ => by simp [L1, B7, hi]
 | m + 1, hm => by
  have ih := Ut p i hi m (by omega)
  unfold B7 at ih ⊢
  rw [L1, Bg (by rw [K4]; omega), ih]
  by_cases h : i = m
  ·subst h; simp
  ·have : decide (i < m + 1) = decide (i < m) := by rw [decide_eq_decide]; omega
   rw [if_neg h, this]
theorem Pi {p : List Ev} {i : Nat} : (i : Int) ∈ Bo p ↔ i < p.length ∧ ((evAt p i).op.kind = 3 ∨ (evAt p i).op.kind = 4) := by
 rw [Bo, B9]
 constructor
 ·rintro ⟨j, h1, h2, h3⟩
  have : j = i := by omega
  subst this
  exact ⟨h1, by simpa using h2⟩
 ·rintro ⟨h1, h2⟩; exact ⟨i, h1, by simpa using h2, rfl⟩
theorem La (p : List Ev) (set i : Nat) (hi : i < p.length) : ∀ k, k ≤ (Bo p).length →
  (∀ j, j < k → Ae (Bo p) j = i → B7 (K3 p set k) i = set.testBit j) ∧ ((∀ j, j < k → Ae (Bo p) j ≠ i) → B7 (K3 p set k) i = (decide ((evAt p i).op.kind = 1) || decide ((evAt p i).op.kind = 2)))
 | 0, _ => ⟨fun j hj => by omega, fun _ => by rw [K3, Ut p i hi _ (lA5 _)]; simp [hi]⟩
 | k + 1, hk => by
  obtain ⟨h1, h2⟩ := La p set i hi k (by omega)
  have hin : (Ae (Bo p) k) ∈ Bo p := Hp.2 ⟨k, by omega, rfl⟩
  obtain ⟨w, aV, _, dO⟩ := B9.1 hin
  have aG : (Ae (Bo p) k).toNat < (K3 p set k).length := by rw [K5]; omega
  unfold B7 at h1 h2 ⊢
  rw [K3, Bg aG]
  constructor
  ·intro j hj he
   by_cases sj : j = k
   ·subst sj; rw [if_pos (by omega)]
   ·have hne : Ae (Bo p) j ≠ Ae (Bo p) k := fun e => sj (Ai5 (K9 _ _) (show j < (Bo p).length by omega) (show k < (Bo p).length by omega) e)
    rw [if_neg (by omega)]
    exact h1 j (by omega) he
  ·intro hn
   have := hn k (by omega)
   rw [if_neg (by omega)]
   exact h2 fun j hj => hn j (by omega)
def S9 (f : Nat → Bool) : Nat → Nat
 | 0 => 0
 | k + 1 => S9 f k ||| (if f k then 2 ^ k else 0)
theorem Ys (f : Nat → Bool) : ∀ k, S9 f k < 2 ^ k
 | 0 => by simp [S9]
 | k + 1 => by
  have := Ys f k
  rw [S9]
  refine lCo (by rw [Nat.pow_succ]; omega) ?_
  split
  ·rw [Nat.pow_succ]; have := lD4 k; omega
  ·exact lD4 _
theorem Uu (f : Nat → Bool) (j : Nat) : ∀ k, (S9 f k).testBit j = (decide (j < k) && f j)
 | 0 => by simp [S9]
 | k + 1 => by
  rw [S9, lD2, Uu f j k]
  by_cases h : j = k
  ·subst h
   cases f j <;> simp
  ·have h2 : decide (j < k + 1) = decide (j < k) := by rw [decide_eq_decide]; omega
   rw [h2]
   have h3 : (if f k then 2 ^ k else 0).testBit j = false := by
    split
    ·rw [lCj]; simp; omega
    ·simp
   rw [h3, lFn]
theorem Ap1 {a b : List Bool} (hl : a.length = b.length) (h : ∀ i, i < a.length → B7 a i = B7 b i) : a = b := by
 refine lEc hl fun i h1 h2 => ?_
 have := h i h1
 simpa [B7, h1, h2] using this
theorem L8 {p : List Ev} {dn : List Bool} : dn ∈ Hn p ↔ dn.length = p.length ∧ ∀ i, i < p.length →
  (((evAt p i).op.kind = 1 ∨ (evAt p i).op.kind = 2) → B7 dn i = true) ∧ (B7 dn i = true → 1 ≤ (evAt p i).op.kind ∧ (evAt p i).op.kind ≤ 4) := by
 have eZ : ∀ (set i : Nat), i < p.length → (∀ j, j < (Bo p).length → Ae (Bo p) j = i → B7 (I1 p set) i = set.testBit j) ∧ ((evAt p i).op.kind ≠ 3 → (evAt p i).op.kind ≠ 4 → B7 (I1 p set) i = (decide ((evAt p i).op.kind = 1) || decide ((evAt p i).op.kind = 2))) := by
  intro set i hi
  obtain ⟨h1, h2⟩ := La p set i hi _ (lA5 _)
  refine ⟨h1, fun k3 k4 => h2 fun j hj he => ?_⟩
  have : (i : Int) ∈ Bo p := Hp.2 ⟨j, hj, he⟩
  rcases (Pi.1 this).2 with h | h
  ·exact k3 h
  ·exact k4 h
 constructor
 ·intro h
  obtain ⟨set, hs, rfl⟩ := lAk.1 h
  refine ⟨Fv p set, fun i hi => ?_⟩
  obtain ⟨h1, h2⟩ := eZ set i hi
  constructor
  ·rintro (hk | hk)
   ·rw [h2 (by omega) (by omega)]; simp [hk]
   ·rw [h2 (by omega) (by omega)]; simp [hk]
  ·intro hd
   by_cases k3 : (evAt p i).op.kind = 3
   ·omega
   ·by_cases k4 : (evAt p i).op.kind = 4
    ·omega
    ·rw [h2 k3 k4] at hd
     simp only [lAr, decide_eq_true_eq] at hd
     omega
 ·rintro ⟨hl, h⟩
  refine lAk.2 ⟨S9 (fun j => B7 dn (Ae (Bo p) j).toNat) (Bo p).length, lAl.2 (Ys _ _), ?_⟩
  refine Ap1 (by rw [Fv, hl]) fun i hi => ?_
  rw [Fv] at hi
  obtain ⟨h1, h2⟩ := eZ (S9 (fun j => B7 dn (Ae (Bo p) j).toNat) (Bo p).length) i hi
  by_cases hf : (i : Int) ∈ Bo p
  ·obtain ⟨j, hj, he⟩ := Hp.1 hf
   rw [h1 j hj he, Uu]
   simp [hj, he]
  ·have sn : (evAt p i).op.kind ≠ 3 ∧ (evAt p i).op.kind ≠ 4 := ⟨fun e => hf (Pi.2 ⟨hi, .inl e⟩), fun e => hf (Pi.2 ⟨hi, .inr e⟩)⟩
   rw [h2 sn.1 sn.2]
   have := h i hi
   cases hd : B7 dn i with
   | true =>
    have := this.2 hd
    simp only [lAr, decide_eq_true_eq]; omega
   | false =>
    simp only [lBq, decide_eq_false_iff_not]
    refine ⟨fun e => ?_, fun e => ?_⟩
    ·rw [this.1 (.inl e)] at hd; cases hd
    ·rw [this.1 (.inr e)] at hd; cases hd
def Ap2 (p : List Ev) (m : List Int) : Prop := m.Pairwise fun x y => thI p x = thI p y → x < y
theorem Uv {l : List Int} {i : Nat} (hi : i < l.length) : l.Perm (l[i] :: l.eraseIdx i) := by
 have h2 : l = l.take i ++ l[i] :: l.drop (i + 1) := by rw [List.getElem_cons_drop, lDx]
 rw [lCs]
 conv => lhs; rw [h2]
 exact lEq
theorem Kd {p : List Ev} : ∀ (n : Nat) (l m : List Int), l.length = n → l.Pairwise (· < ·) → (m ∈ Bz p n l ↔ m.Perm l ∧ Ap2 p m)
 | 0, l, m, hl, _ => by
  have : l = [] := lC6.1 hl
  subst this
  simp only [Bz, lAi, List.perm_nil]
  constructor
  ·rintro rfl; exact ⟨rfl, List.Pairwise.nil⟩
  ·exact fun h => h.1
 | n + 1, l, m, hl, ha => by
  have hp := lBc.1 ha
  simp only [Bz, lB4, lAl]
  constructor
  ·rintro ⟨i, hi, hm⟩
   have cZ : i < l.length := by omega
   split at hm
   ·exact absurd hm lB5
   ·rename_i hb
    obtain ⟨m', ll, rfl⟩ := lAk.1 hm
    obtain ⟨h1, h2⟩ := (Kd n (l.eraseIdx i) m' (by rw [lD8 cZ]; omega) (ha.sublist (lFa ..))).1 ll
    rw [C5 cZ]
    refine ⟨(lCi _ h1).trans (Uv cZ).symm, lDm.2 ⟨fun y hy cr => ?_, h2⟩⟩
    have eP : y ∈ l.eraseIdx i := h1.mem_iff.1 hy
    rw [lCs, lB7] at eP
    rcases eP with eP | eP
    ·exfalso
     apply hb
     rw [Ef, lBx]
     exact ⟨y, eP, by rw [C5 cZ, decide_eq_true_eq]; exact cr.symm⟩
    ·obtain ⟨j, hj, rfl⟩ := lBf eP
     rw [List.getElem_drop]
     exact hp i _ cZ _ (by omega)
  ·rintro ⟨h1, h2⟩
   rcases m with _ | ⟨x, m'⟩
   ·have := h1.length_eq; simp at this; omega
   ·have hx : x ∈ l := h1.mem_iff.1 (lB1 ..)
    obtain ⟨i, hi, rfl⟩ := lBf hx
    obtain ⟨h3, h4⟩ := lDm.1 h2
    have h5 : m'.Perm (l.eraseIdx i) := (h1.trans (Uv hi)).cons_inv
    refine ⟨i, by omega, ?_⟩
    rw [if_neg ?_]
    ·rw [C5 hi]
     exact lAk.2 ⟨m', (Kd n (l.eraseIdx i) m' (by rw [lD8 hi]; omega) (ha.sublist (lFa ..))).2 ⟨h5, h4⟩, rfl⟩
    ·intro hb
     rw [Ef, lBx] at hb
     obtain ⟨z, hz, cr⟩ := hb
     rw [C5 hi, decide_eq_true_eq] at cr
     have uU : z ∈ m' := h5.mem_iff.2 (by rw [lCs, lB7]; exact .inl hz)
     have := h3 z uU cr.symm
     obtain ⟨j, hj, rfl⟩ := lBf hz
     rw [lC4] at hj
     rw [lEk] at this
     have := hp j i (by omega) hi (by omega)
     omega
theorem Pj {p : List Ev} {l m : List Int} (ha : l.Pairwise (· < ·)) : m ∈ Ct p l ↔ m.Perm l ∧ Ap2 p m := Kd _ l m rfl ha
theorem Es (p : List Ev) (dn : List Bool) (loc : Int) : (Az p dn loc).Pairwise (· < ·) := K9 _ _
theorem Ji (p : List Ev) : (A5 p).Pairwise (· < ·) := K9 _ _
theorem F7 {p : List Ev} {dn : List Bool} : ∀ (k : Nat) (loc : Int) (x : List (List Int)), x ∈ Bt p dn k loc ↔ x.length = k ∧ ∀ j, j < k → (x[j]?.getD []) ∈ Ct p (Az p dn (loc + j))
 | 0, loc, x => by
  simp only [Bt, lAi]
  constructor
  ·rintro rfl; exact ⟨rfl, fun j hj => by omega⟩
  ·rintro ⟨h, _⟩; exact lC6.1 h
 | k + 1, loc, x => by
  simp only [Bt, lB4, lAk]
  constructor
  ·rintro ⟨l, hl, y, hy, rfl⟩
   obtain ⟨h1, h2⟩ := (F7 k (loc + 1) y).1 hy
   refine ⟨by simp [h1], fun j hj => ?_⟩
   cases j with
   | zero => simpa using hl
   | succ j =>
    have := h2 j (by omega)
    simpa [Int.add_assoc, Int.add_comm 1] using this
  ·rintro ⟨h1, h2⟩
   rcases x with _ | ⟨l, y⟩
   ·simp at h1
   ·refine ⟨l, by simpa using h2 0 (by omega), y, (F7 k (loc + 1) y).2 ⟨by simpa using h1, fun j hj => ?_⟩, rfl⟩
    have := h2 (j + 1) (by omega)
    simpa [Int.add_assoc, Int.add_comm 1] using this
theorem Jj {p : List Ev} {dn : List Bool} {ord : List (List Int)} : ∀ (k i : Nat) (x : List Int), x ∈ Ce p dn ord k i ↔ x.length = k ∧ ∀ j, j < k → B4 x j ∈ Bf p dn ord (i + j)
 | 0, i, x => by
  simp only [Ce, lAi]
  constructor
  ·rintro rfl; exact ⟨rfl, fun j hj => by omega⟩
  ·rintro ⟨h, _⟩; exact lC6.1 h
 | k + 1, i, x => by
  simp only [Ce, lB4, lAk]
  constructor
  ·rintro ⟨w, hw, y, hy, rfl⟩
   obtain ⟨h1, h2⟩ := (Jj k (i + 1) y).1 hy
   refine ⟨by simp [h1], fun j hj => ?_⟩
   cases j with
   | zero => simpa [B4] using hw
   | succ j =>
    have := h2 j (by omega)
    simpa [B4, lDa, lE6 1] using this
  ·rintro ⟨h1, h2⟩
   rcases x with _ | ⟨w, y⟩
   ·simp at h1
   ·refine ⟨w, by simpa [B4] using h2 0 (by omega), y, (Jj k (i + 1) y).2 ⟨by simpa using h1, fun j hj => ?_⟩, rfl⟩
    have := h2 (j + 1) (by omega)
    simpa [B4, lDa, lE6 1] using this
structure Shape (p : List Ev) (e : Exec) : Prop where
 fl : e.frm.length = p.length
 dl : e.dn.length = p.length
 ol : e.ord.length = 3
 dn1 : ∀ i, i < p.length → ((evAt p i).op.kind = 1 ∨ (evAt p i).op.kind = 2) → B7 e.dn i = true
 dn0 : ∀ i, i < p.length → B7 e.dn i = true → 1 ≤ (evAt p i).op.kind ∧ (evAt p i).op.kind ≤ 4
 out : ∀ i, i < p.length → (evAt p i).reads = false → Af e i = -2
 src : ∀ i, i < p.length → (evAt p i).reads = true → Af e i = -1 ∨ ∃ w : Nat, Af e i = w ∧ w < p.length ∧ B7 e.dn w = true ∧ (evAt p w).op.loc = (evAt p i).op.loc
 ord : ∀ k : Nat, k < 3 → (e.ord[k]?.getD []).Perm (Az p e.dn k)
 fen : e.fen.Perm (A5 p)
def Uw (p : List Ev) (e : Exec) : Prop := ∀ i, i < p.length →
 ((evAt p i).op.kind = 3 → (B7 e.dn i = true ↔ (Aw p e.frm).R i = (evAt p i).op.v)) ∧ ((evAt p i).op.kind = 4 → B7 e.dn i = true → (Aw p e.frm).R i = (evAt p i).op.v)
theorem Bb {p : List Ev} {dn : List Bool} {k : Int} {x : Int} : x ∈ Az p dn k ↔ ∃ i : Nat, x = i ∧ i < p.length ∧ (evAt p i).op.kind ≠ 5 ∧ B7 dn i = true ∧ (evAt p i).op.loc = k := by
 rw [Az, B9]
 simp only [lA6, decide_eq_true_eq, B7]
 constructor
 ·rintro ⟨i, h1, ⟨⟨h2, h3⟩, h4⟩, h5⟩; exact ⟨i, h5, h1, h2, h3, h4⟩
 ·rintro ⟨i, h5, h1, h2, h3, h4⟩; exact ⟨i, h1, ⟨⟨h2, h3⟩, h4⟩, h5⟩
theorem Shape.xok {p : List Ev} {e : Exec} (h : Shape p e) (hn : e.fen = [] ∨ True) : XOk p e := by
 have mo : ∀ l ∈ e.ord, Iy p l ∧ l.length ≤ p.length := by
  intro l hl
  obtain ⟨k, hk, rfl⟩ := lBf hl
  have := h.ord k (by rw [← h.ol]; exact hk)
  rw [lA2 hk, lAn] at this
  exact ⟨(L2 p e.dn _).perm this, by rw [this.length_eq]; exact A8 _ _⟩
 refine ⟨h.fl, h.dl, h.ol, fun i hi => ?_, mo, (O7 p).perm h.fen, by rw [h.fen.length_eq]; exact A8 _ _⟩
 cases hr : (evAt p i).reads with
 | false =>
  have := h.out i hi hr
  unfold Af at this
  exact ⟨by omega, fun h => by cases h⟩
 | true =>
  rcases h.src i hi hr with h1 | ⟨w, h1, h2, _⟩
  ·unfold Af at h1; exact ⟨by omega, fun _ => by omega⟩
  ·unfold Af at h1; exact ⟨by omega, fun _ => by omega⟩
theorem Shape.fromOk {p : List Ev} {e : Exec} (h : Shape p e) : Df p e.frm := (h.xok (.inr trivial)).fromOk
theorem Shape.srcOk {p : List Ev} {e : Exec} (h : Shape p e) : L7 p e.frm := fun i w hi hr hw => by
 rcases h.src i hi hr with h1 | ⟨w', h1, h2, h3, _⟩
 ·unfold Af at h1; unfold B4 at hw; omega
 ·have : w' = w := by unfold Af at h1; unfold B4 at hw; omega
  subst this
  exact ⟨h2, h.dn0 w' h2 h3⟩
theorem Shape.words {p : List Ev} {e : Exec} (h : Shape p e) (ap : T8 p e) : Words p e.frm (Aw p e.frm).R (Aw p e.frm).W := words_ok h.fromOk h.srcOk ap
theorem Ai6 {p : List Ev} {e : Exec} {a b : Nat} (h : Hb p ⟨e.frm, e.dn, e.ord, []⟩ a b) : Hb p e a b := by
 refine TG.mono h fun x y ct => ?_
 rcases ct with ct | ⟨j, hj, _⟩ | ⟨r, w, v, h1, h2, h3, h4, h5, h6⟩
 ·exact .inl ct
 ·simp at hj
 ·refine .inr (.inr ⟨r, w, v, h1, h2, h3, ?_, h5, h6⟩)
  have key : ∀ {w v : Nat}, Back p ⟨e.frm, e.dn, e.ord, []⟩ w v → Back p e w v := by
   intro w v h
   induction h with
   | here => exact .here
   | on h _ ih => exact .on h ih
  exact key h4
theorem Cons.less {p : List Ev} {e : Exec} (h : Cons p e) : Cons p ⟨e.frm, e.dn, e.ord, []⟩ := by
 refine ⟨fun ⟨a, ha⟩ => h.round ⟨a, ha.mono fun x y ct => ?_⟩, fun hc => h.cross ?_, h.next⟩
 ·rcases ct with ct | ⟨j, hj, _⟩ | ct
  ·exact .inl ct
  ·simp at hj
  ·exact .inr (.inr ct)
 ·rcases hc with ⟨a, ha⟩ | ⟨a, b, h1, h2⟩
  ·exact .inl ⟨a, Ai6 ha⟩
  ·refine .inr ⟨a, b, Ai6 h1, TG.mono h2 fun x y ct => ?_⟩
   exact ct
theorem Pk {p : List Ev} {e : Exec} : (List.range p.length).any (I0 p e) = false ↔ Uw p e := by
 unfold Uw
 rw [lF5]
 simp only [lAl]
 refine forall_congr' fun i => forall_congr' fun hi => ?_
 unfold I0
 show ¬ ((decide ((evAt p i).op.kind = 3) && xor (B7 e.dn i) (decide ((Aw p e.frm).R i = (evAt p i).op.v))) || (decide ((evAt p i).op.kind = 4) && (B7 e.dn i) && decide ((Aw p e.frm).R i ≠ (evAt p i).op.v))) = true ↔ _
 cases hd : B7 e.dn i <;> by_cases hv : (Aw p e.frm).R i = (evAt p i).op.v <;> by_cases h3 : (evAt p i).op.kind = 3 <;> by_cases h4 : (evAt p i).op.kind = 4 <;> simp [hv, h3, h4]
theorem Bg8 {l : List Int} (hn : l.Nodup) {x : Int} {j : Nat} (hj : j < l.length) (e : l[j] = x) : l.findIdx (fun y => decide (x = y)) = j := by
 refine (List.findIdx_eq hj).2 ⟨by simp [e], fun k hk => ?_⟩
 rw [decide_eq_false_iff_not]
 intro h
 have := (lBc.1 (lBv.1 hn)) k j (by omega) hj hk
 exact this (by rw [e, ← h])
theorem Ab2 {l : List Int} (hn : l.Nodup) (hpos : ∀ x ∈ l, 0 ≤ x) {i j : Nat} (hj : j < l.length) (e : l[j] = i) : Hd (-1 :: l) i = Ed l j := by
 unfold Hd
 have : (-1 :: l : List Int).findIdx (fun y => decide ((i : Int) = y)) = j + 1 := by
  refine Bg8 (x := (i : Int)) (lCu.2 ⟨fun h => by have := hpos _ h; omega, hn⟩) (by simp; omega) (by simpa using e)
 rw [this, lEv]
 cases j with
 | zero => rfl
 | succ j => simp [Ed, Ae]
theorem F8 {l : List Int} (h : l.Pairwise (· < ·)) : l.Nodup := by
 rw [lBv]; exact h.imp fun h => by omega
theorem Di0 {p : List Ev} (hm : L5 p) {e : Exec} : ∀ (d a : Nat), a + d + 1 < p.length → (evAt p a).th = (evAt p (a + d + 1)).th → Hb p e a (a + d + 1)
 | 0, a, h, ht => .one (.inl ⟨rfl, h, ht.symm⟩)
 | d + 1, a, h, ht => by
  have h1 := hm.between (a := a) (b := a + (d + 1) + 1) (x := a + d + 1) h (by omega) (by omega) ht
  exact (Di0 hm d a (by omega) (by rw [h1]; exact ht)).trans (.one (.inl ⟨by omega, h, h1.symm⟩))
theorem Yt {p : List Ev} (hm : L5 p) {e : Exec} : ∀ (d a : Nat), a + d + 1 < p.length → (evAt p a).th = (evAt p (a + d + 1)).th → TG (fun a b => Sb1 p a b ∨ Fo1 e.fen a b ∨ Rf e p.length a b) a (a + d + 1)
 | 0, a, h, ht => .one (.inl ⟨rfl, h, ht.symm⟩)
 | d + 1, a, h, ht => by
  have h1 := hm.between (a := a) (b := a + (d + 1) + 1) (x := a + d + 1) h (by omega) (by omega) ht
  exact (Yt hm d a (by omega) (by rw [h1]; exact ht)).trans (.one (.inl ⟨by omega, h, h1.symm⟩))
theorem Yu {p : List Ev} {e : Exec} : ∀ (d j a b : Nat), j + d + 1 < e.fen.length → (∀ k, k < e.fen.length → 0 ≤ Ae e.fen k) → Ae e.fen j = a → Ae e.fen (j + d + 1) = b → TG (fun a b => Sb1 p a b ∨ Fo1 e.fen a b ∨ Rf e p.length a b) a b
 | 0, j, a, b, h, _, ha, hb => .one (.inr (.inl ⟨j, h, ha, hb⟩))
 | d + 1, j, a, b, h, hp, ha, hb => by
  have h1 := hp (j + d + 1) (by omega)
  obtain ⟨c, hc⟩ : ∃ c : Nat, Ae e.fen (j + d + 1) = c := ⟨(Ae e.fen (j + d + 1)).toNat, by omega⟩
  exact (Yu d j a c (by omega) hp ha hc).trans (.one (.inr (.inl ⟨j + d + 1, by omega, hc, by rw [← hb]; congr 1⟩)))
theorem Lb {p : List Ev} (hp : POk p) (hm : L5 p) {e : Exec} : e ∈ Cf p ↔ Shape p e ∧ Uw p e ∧ Cons p e := by
 constructor
 ·intro h
  have h0 := h
  simp only [Cf, J2, Mw, lB4] at h
  obtain ⟨dn, hd, ord, ho, frm, hf, h⟩ := h
  unfold F5 at h
  split at h
  ·rename_i hpos
   obtain ⟨h, hb⟩ := lCm.1 h
   obtain ⟨fen, hn, rfl⟩ := lAk.1 h
   have hx := exec_ok hp hd ho hf (L3 hn)
   obtain ⟨d1, d2⟩ := L8.1 hd
   obtain ⟨o1, o2⟩ := (F7 3 0 ord).1 ho
   obtain ⟨f1, f2⟩ := (Jj _ _ frm).1 hf
   have bJ : ∀ k : Nat, k < 3 → (ord[k]?.getD []).Perm (Az p dn k) := fun k hk => by
    have := E7 (o2 k hk)
    rwa [Int.zero_add] at this
   unfold Ee at hpos
   simp only [lA6, lB6, decide_eq_true_eq] at hpos hb
   have hw : Uw p ⟨frm, dn, ord, []⟩ := Pk.1 hpos.1
   have hc := (I3 hp hm hx).1 hb
   refine ⟨⟨f1, d1, o1, fun i hi => (d2 i hi).1, fun i hi => (d2 i hi).2, fun i hi hr => ?_, fun i hi hr => ?_, bJ, E7 hn⟩, hw, hc⟩
   ·have := f2 i hi
    rw [lBi, Bf, if_pos hr, lAi] at this
    exact this
   ·have h1 := f2 i hi
    rw [lBi, Bf, if_neg (by rw [hr]; simp)] at h1
    have bg := hp.loc i hi
    have ce : ∀ x ∈ Iq p ord i, x = -1 ∨ ∃ w : Nat, x = w ∧ w < p.length ∧ B7 dn w = true ∧ (evAt p w).op.loc = (evAt p i).op.loc := by
     intro x hx
     rcases lBp.1 hx with h | h
     ·exact .inl h
     ·have h3 := (bJ (evAt p i).op.loc.toNat (by omega)).mem_iff.1 h
      obtain ⟨w, q1, q2, _, q3, q4⟩ := Bb.1 h3
      exact .inr ⟨w, q1, q2, q3, by omega⟩
    split at h1
    ·rw [lAi] at h1
     show B4 frm i = -1 ∨ _
     show _ ∨ ∃ w : Nat, B4 frm i = w ∧ _
     rw [h1]
     unfold Hd Ae
     rcases hq : (Iq p ord i)[(Iq p ord i).findIdx (fun y => decide ((i : Int) = y)) - 1]? with _ | y
     ·
      exfalso
      have := List.getElem?_eq_none_iff.1 hq
      have h2 := List.findIdx_le_length (p := fun y => decide ((i : Int) = y)) (xs := Iq p ord i)
      have h3 : 0 < (Iq p ord i).length := by simp [Iq]
      have h4 : (Iq p ord i).findIdx (fun y => decide ((i : Int) = y)) ≠ 0 := by
       intro h0
       simp [Iq, List.findIdx_cons] at h0
      omega
     ·exact ce y (lCb hq)
    ·exact ce _ h1
  ·exact absurd h lB5
 ·rintro ⟨hs, hw, hc⟩
  have hx := hs.xok (.inr trivial)
  obtain ⟨frm, dn, ord, fen⟩ := e
  have ap : T8 p ⟨frm, dn, ord, fen⟩ := JL hc.round
  simp only [Cf, J2, Mw, lB4]
  have hdn : dn ∈ Hn p := L8.2 ⟨hs.dl, fun i hi => ⟨hs.dn1 i hi, hs.dn0 i hi⟩⟩
  have bJ : ∀ k : Nat, k < 3 → (ord[k]?.getD []).Perm (Az p dn k) := hs.ord
  have aJ : ∀ k : Nat, k < 3 → (ord[k]?.getD []) ∈ ord := fun k hk => by
   have : k < ord.length := by have : ord.length = 3 := hs.ol; omega
   rw [lA2 this, lAn]; exact lAm _
  have bE : ∀ k : Nat, k < 3 → Ap2 p (ord[k]?.getD []) := by
   intro k hk
   have aq := bJ k hk
   have eX := aJ k hk
   generalize ord[k]?.getD [] = l at aq eX
   refine lBc.2 fun i j hi hj gK cr => ?_
   apply lBe; intro aU
   have mi := Bb.1 (aq.mem_iff.1 (lAm hi))
   have mj := Bb.1 (aq.mem_iff.1 (lAm hj))
   obtain ⟨a, ea, la, _⟩ := mi
   obtain ⟨b, eb, lb, _⟩ := mj
   have hne : a ≠ b := by
    intro e
    have hnd : l.Nodup := (aq.nodup_iff).2 (F8 (Es p dn k))
    exact (lBc.1 (lBv.1 hnd)) i j hi hj gK (by rw [ea, eb, e])
   rw [ea, eb] at aU cr
   simp only [thI, lAy] at cr
   have oe : b < a := by omega
   refine hc.cross (.inr ⟨b, a, ?_, .one (.inl ⟨l, eX, i, j, gK, hj, by rw [C5 hi, ea], by rw [C5 hj, eb]⟩)⟩)
   have := Di0 hm (e := ⟨frm, dn, ord, fen⟩) (a - b - 1) b (by omega) (by rw [show b + (a - b - 1) + 1 = a by omega]; exact cr.symm)
   rwa [show b + (a - b - 1) + 1 = a by omega] at this
  have mp : ord ∈ O6 p dn := (F7 3 0 ord).2 ⟨hs.ol, fun j hj => by
   rw [Int.zero_add]; exact (Pj (Es _ _ _)).2 ⟨bJ j hj, bE j hj⟩⟩
  have jQ : frm ∈ Mu p dn ord := by
   refine (Jj _ _ frm).2 ⟨hs.fl, fun i hi => ?_⟩
   rw [lBi, Bf]
   cases hr : (evAt p i).reads with
   | false => rw [if_pos rfl, lAi]; exact hs.out i hi hr
   | true =>
    rw [if_neg (by simp)]
    have bg := hp.loc i hi
    have cH : (evAt p i).op.loc.toNat < 3 := by omega
    have aq := bJ _ cH
    have eX := aJ _ cH
    split
    ·rename_i hd
     rw [lAi]
     have tu := hs.dn0 i hi hd
     have hin : (i : Int) ∈ ord[(evAt p i).op.loc.toNat]?.getD [] := aq.mem_iff.2 (Bb.2 ⟨i, rfl, hi, by omega, hd, by omega⟩)
     obtain ⟨j, hj, jm⟩ := lBf hin
     have js := hc.next _ eX j hj
     rw [C5 hj, jm, lAy] at js
     have := js hr
     show Af ⟨frm, dn, ord, fen⟩ i = _
     rw [this, Iq, Ab2 ((aq.nodup_iff).2 (F8 (Es _ _ _))) (fun x hx => by
      obtain ⟨w, hw, _⟩ := Bb.1 (aq.mem_iff.1 hx); omega) hj jm]
    ·rcases hs.src i hi hr with h | ⟨w, h1, h2, h3, h4⟩
     ·exact lBp.2 (.inl h)
     ·refine lBp.2 (.inr (aq.mem_iff.2 (Bb.2 ⟨w, h1, h2, ?_, h3, by omega⟩)))
      have := hs.dn0 w h2 h3; omega
  have s9 : Ap2 p fen := by
   have aq : fen.Perm (A5 p) := hs.fen
   refine lBc.2 fun i j hi hj gK cr => ?_
   apply lBe; intro aU
   have bR : Iy p fen := hx.fin.1
   have hin := fun k (hk : k < fen.length) => bR.num hk
   have h1 := hin i hi
   have h2 := hin j hj
   obtain ⟨a, ea⟩ : ∃ a : Nat, Ae fen i = a := ⟨(Ae fen i).toNat, by omega⟩
   obtain ⟨b, eb⟩ : ∃ b : Nat, Ae fen j = b := ⟨(Ae fen j).toNat, by omega⟩
   rw [← C5 hi, ← C5 hj, ea, eb] at aU cr
   simp only [thI, lAy] at cr
   have hne : a ≠ b := by
    intro e
    have hnd : fen.Nodup := (aq.nodup_iff).2 (F8 (Ji p))
    exact (lBc.1 (lBv.1 hnd)) i j hi hj gK (by rw [← C5 hi, ← C5 hj, ea, eb, e])
   have oe : b < a := by omega
   have g1 := Yu (p := p) (e := ⟨frm, dn, ord, fen⟩) (j - i - 1) i a b (show i + (j - i - 1) + 1 < fen.length by omega) (fun k hk => (hin k hk).1) ea (by rw [show i + (j - i - 1) + 1 = j by omega]; exact eb)
   have g2 := Yt hm (e := ⟨frm, dn, ord, fen⟩) (a - b - 1) b (by omega) (by rw [show b + (a - b - 1) + 1 = a by omega]; exact cr.symm)
   rw [show b + (a - b - 1) + 1 = a by omega] at g2
   exact hc.round ⟨a, g1.trans g2⟩
  have b7 : fen ∈ Ct p (A5 p) := (Pj (Ji p)).2 ⟨hs.fen, s9⟩
  refine ⟨dn, hdn, ord, mp, frm, jQ, ?_⟩
  unfold F5
  have hpos : Ee p ⟨frm, dn, ord, []⟩ = true := by
   unfold Ee
   rw [lA6, lB6, decide_eq_true_eq]
   refine ⟨Pk.2 hw, ?_⟩
   have cF : XOk p ⟨frm, dn, ord, []⟩ := ⟨hx.fl, hx.dl, hx.ol, hx.fr, hx.oin, fun x h => (nomatch h), lA8 _⟩
   exact (I3 hp hm cF).2 hc.less
  rw [if_pos hpos]
  exact lCm.2 ⟨lAk.2 ⟨fen, b7, rfl⟩, decide_eq_true ((I3 hp hm hx).2 hc)⟩
def Bc (p : List Ev) (w : Wd) : Nat → List Int
 | 0 => []
 | i + 1 => Bc p w i ++ if (evAt p i).reads then [w.r[i]?.getD 0] else []
def Bn (w : Wd) (l : List Int) : Int := if l.length = 0 then 0 else w.w[(Ae l (l.length - 1)).toNat]?.getD 0
def Ar (p : List Ev) (e : Exec) : List Int := Bc p (Aw p e.frm) p.length ++ e.ord.map (Bn (Aw p e.frm))
theorem Cb (p : List Ev) (w : Wd) : ∀ i, (Bc p w i).length ≤ i
 | 0 => lA5 _
 | i + 1 => by
  have := Cb p w i
  simp only [Bc, lA4]
  split <;> simp <;> omega
section
variable {M : Aa}
theorem Nb (p : List Ev) (s : Value) (hs : Sl M 6 Bj s p) (hp : POk p) (e : Exec) (v : Value) (hv : IsX M v e) (hx : XOk p e) :
  Con Tryz.prog 35 #[s, v] M [] (Dh7 (Ar p e)) := by
 have aM := hs
 have hb := hp.len
 obtain ⟨a, c, rfl, aH⟩ := hs
 obtain ⟨f, d, o, n, rfl, hf, hd, ho, hn⟩ := hv
 have dh := hf
 obtain ⟨oa, oc, ovs, rfl, ar, bQ, bi⟩ := ho
 have eG := hx.ol
 obtain ⟨ob, oo, rfl, bC⟩ := Dj.at bQ ar bi (by omega)
 refine Con.enter Q30_ok (args := [.slice a p.length c, .agg #[f, d, .slice (some ⟨ob, oo, none⟩) e.ord.length oc, n]]) (by simp [Q30]) fun w0 => ?_
 simp only [Q30, A9]
 repeat' first | refine st ?_ | refine rg ?_ | ((first | with_reducible intro b | refine xrA rfl ?_ | fail); try refine nx ?_) | exact ⟨⟩ | fail
 rename Nat => xb
 refine Con.callS (G1 := []) (Ro p _ aM (by omega) e.frm _ _ _ _ dh hx.fromOk) ?_
 rintro v M1 G1 bv ⟨rv, wv, kv, rfl, hr, hw, -⟩
 obtain ⟨ra, rc, rfl, cn⟩ := hr
 obtain ⟨wa, wc, rfl, fy⟩ := hw
 have ed : (Aw p e.frm).r.length = p.length := (Fu p e.frm _).r
 have cY : (Aw p e.frm).w.length = p.length := (Fu p e.frm _).w
 have mq : Ar p e = Bc p (Aw p e.frm) p.length ++ e.ord.map (Bn (Aw p e.frm)) := rfl
 generalize Aw p e.frm = W at *
 (refine nx ?_; try with_reducible exact ⟨⟩)
 repeat' first | refine st ?_ | refine rg ?_ | exact ⟨⟩ | fail
 refine JE (ρ' := [(0, .slice a p.length c), (3, pv xb 0), (5, .slice ra W.r.length rc), (6, .slice wa W.w.length wc), (8, osv none 0), (21, .slice a p.length c), (22, vi p.length), (23, vi (0 : Nat))]) (G' := [(xb, Cl 45 [f, d, .slice (some ⟨ob, oo, none⟩) e.ord.length oc, n])]) ?_ ?env0
 case env0 =>
  exact eE
 refine JC (fun x : Nat × Vec => ([(0, .slice a p.length c), (3, pv xb 0), (5, .slice ra W.r.length rc), (6, .slice wa W.w.length wc), (8, osv x.2 (Bc p W x.1).length), (21, .slice a p.length c), (22, vi p.length), (23, vi x.1)], M1, (xb, Cl 45 [f, d, .slice (some ⟨ob, oo, none⟩) e.ord.length oc, n]) :: osg 3 x.2 ((Bc p W x.1).map vi)))
  (fun x => x.1 ≤ p.length ∧ Ey 1 x.2 (Bc p W x.1).length ((Bc p W x.1).map vi)) (fun x => p.length - x.1) (0, none) rfl ⟨lA8 _, rfl, rfl⟩ ?env1 (by simp [osg]) ?_
 case env1 =>
  exact eE
 rintro ⟨i, ov⟩ ⟨hi, aQ⟩ ih
 dsimp only at hi aQ ih ⊢
 repeat' first | refine st ?_ | refine rg ?_ | (refine cX ?_ ?_ <;> intro h <;> try exact Ah h) | (refine xsA rfl ?_; try refine nx ?_) | exact ⟨⟩ | fail
 ·have aC : i < p.length := by omega
  obtain ⟨pb, po, rfl, hat⟩ := Sl.at (enc := Bj) (fun _ => rfl) (by decide) aH (by omega)
  obtain ⟨rb, ro, rfl, gY⟩ := Sl.at (sz := 1) (enc := ei) (fun _ => rfl) (by decide) cn (by omega)
  have jH := (JJ hat i aC).mono bv
  have iD : rd M1 rb (ro + i) 1 [vi (W.r[i]?.getD 0)] := Cj gY i (by omega)
  have s7 : (i : Int) < W.r.length := by omega
  have kZ := Cb p W i
  have bI : Bc p W (i + 1) = Bc p W i ++ if (evAt p i).reads then [W.r[i]?.getD 0] else [] := rfl
  repeat' first | refine st ?_ | refine rg ?_ | (refine Aq.call (Ci (evAt p i)) ?_; try refine nx ?_) | (refine cX ?_ ?_ <;> intro h <;> try exact Ah h) | (with_reducible intro b; try refine nx ?_) | refine ZF ?_ | ((first | refine xm ?_ | refine xrA rfl ?_ | fail); try refine nx ?_) | (refine xw ?_; refine nx ?_) | exact ⟨⟩ | fail
  ·rw [if_pos (by assumption)] at bI
   refine ⟨[vi (W.r[i]?.getD 0)], Or.inr ⟨b, 0, rfl, An 0 rfl rfl (by simp)⟩, by simp [Bq, Ch, Value.oneCell'], Or.inl ⟨ov, _, rfl, _, aQ, _, PullL.p, ?_, ?_, ?_⟩⟩
   ·simp only [maxLen]; omega
   ·omega
   intro o2 au _
   (refine nx ?_; try with_reducible exact ⟨⟩)
   repeat' first | refine su ?_ | refine rg ?_ | exact ⟨⟩ | fail
   have ih3 := ih (i + 1, o2) ⟨by dsimp only; omega, by rw [bI, lA4, lAv]; exact au⟩ (by dsimp only; omega)
   dsimp only at ih3
   rw [bI, lA4, lAv, show List.map vi [W.r[i]?.getD 0] = [vi (W.r[i]?.getD 0)] from rfl] at ih3
   refine JE ih3 ?_
   exact eE
  ·rw [if_neg (by simp_all), lAa] at bI
   have ih3 := ih (i + 1, ov) ⟨by dsimp only; omega, by rw [bI]; exact aQ⟩ (by dsimp only; omega)
   dsimp only at ih3
   rw [bI] at ih3
   refine JE ih3 ?_
   exact eE
 ·have bO : i = p.length := by omega
  subst bO
  clear ih
  repeat' first | fail
  have qK := Cb p W p.length
  generalize hR : Bc p W p.length = R at *
  refine JC (fun x : Nat × Vec => ([(3, pv xb 0), (6, .slice wa W.w.length wc), (8, osv x.2 (R ++ (e.ord.take x.1).map (Bn W)).length), (39, .slice (some ⟨ob, oo, none⟩) e.ord.length oc), (40, vi e.ord.length), (41, vi x.1)], M1, (xb, Cl 45 [f, d, .slice (some ⟨ob, oo, none⟩) e.ord.length oc, n]) :: osg 3 x.2 ((R ++ (e.ord.take x.1).map (Bn W)).map vi)))
   (fun x => x.1 ≤ e.ord.length ∧ Ey 1 x.2 (R ++ (e.ord.take x.1).map (Bn W)).length ((R ++ (e.ord.take x.1).map (Bn W)).map vi)) (fun x => e.ord.length - x.1) (0, ov) rfl ⟨lA8 _, by simpa using aQ⟩ ?env2 (by simp) ?_
  case env2 =>
   simp only [lCr, lFk, lAa]
   exact eE
  rintro ⟨k, o1⟩ ⟨hk, bU⟩ ih
  dsimp only at hk bU ih ⊢
  repeat' first | refine st ?_ | refine rg ?_ | (refine cX ?_ ?_ <;> intro h <;> try exact Ah h) | refine ZF ?_ | exact ⟨⟩ | fail
  ·have af : k < e.ord.length := by omega
   obtain ⟨la, lc, aT, cW, aX⟩ := bC k af
   have aT := aT.mono bv
   have aX := aX.mono bv
   rw [lAu] at aT
   obtain ⟨hin, kZ⟩ := hx.oin _ (lAm af)
   have lp : R ++ (e.ord.take (k + 1)).map (Bn W) = (R ++ (e.ord.take k).map (Bn W)) ++ [Bn W e.ord[k]] := by
    rw [lA7 af, lAv, lAc]; rfl
   have ak : (R ++ (e.ord.take k).map (Bn W)).length ≤ 35 := by simp; omega
   have ih3 := fun o2 h => ih (k + 1, o2) ⟨by dsimp only; omega, h⟩ (by dsimp only; omega)
   dsimp only at ih3
   rw [lp, lA4, lAv] at ih3
   have hlo : Bn W e.ord[k] = if e.ord[k].length = 0 then 0 else W.w[(Ae e.ord[k] (e.ord[k].length - 1)).toNat]?.getD 0 := rfl
   generalize R ++ (e.ord.take k).map (Bn W) = Q at *
   generalize e.ord[k] = l at *
   clear ih
   repeat' first | (refine xn ?_; try refine nx ?_) | exact ⟨⟩ | fail
   refine EV.seq ?_
   repeat' first | refine rg ?_ | exact ⟨⟩ | fail
   refine EV.seq (JI (fun ρ' M' G' => M' = M1 ∧ (∀ q ∈ [(3, pv xb 0), (6, .slice wa W.w.length wc), (8, osv o1 Q.length), (13, vi (Bn W l)), (39, .slice (some ⟨ob, oo, none⟩) e.ord.length oc), (40, vi e.ord.length), (41, vi k)], get ρ' q.1 = some q.2) ∧
    G' = (xb, Cl 45 [f, d, .slice (some ⟨ob, oo, none⟩) e.ord.length oc, n]) :: osg 3 o1 (Q.map vi)) ?_ ?_)
   ·intro k' key
    clear ih3
    rw [hlo] at key
    by_cases fV : l.length = 0
    ·rw [if_pos fV] at key
     repeat' first | refine st ?_ | refine rg ?_ | (refine cX ?_ ?_ <;> intro h <;> try exact Ah h) | exact ⟨⟩ | fail
     refine JH (key _ _ _ ⟨rfl, ?_, rfl⟩)
     exact eE
    ·rw [if_neg fV] at key
     obtain ⟨lb, lo, rfl, bA⟩ := Sl.at (sz := 1) (enc := ei) (fun _ => rfl) (by decide) aX (by omega)
     have bL := Cj bA (l.length - 1) (by omega)
     have qL := E0 hin (k := l.length - 1) (by omega)
     have iC : 0 < p.length := by omega
     obtain ⟨wb, wo, rfl, iO⟩ := Sl.at (sz := 1) (enc := ei) (fun _ => rfl) (by decide) fy (by omega)
     have ii := Cj iO (Ae l (l.length - 1)).toNat (by omega)
     simp only [Ae] at ii
     change rd M1 wb _ 1 [vi (W.w[(Ae l (l.length - 1)).toNat]?.getD 0)] at ii
     have sZ : Ae l (l.length - 1) < (W.w.length : Int) := by omega
     have aV : IntKind.i64.wrap ((l.length : Int) - 1) = ((l.length - 1 : Nat) : Int) := (w64 (by omega) (by omega)).trans (by omega)
     have dO : (((l.length - 1 : Nat) : Int)) < (l.length : Int) := by omega
     clear bA iO
     repeat' first | refine st ?_ | (refine EV.reg ?_; (conv => (arg 2; whnf)); (repeat first | refine nx ?_ | simp only [aV])) | (refine cX ?_ ?_ <;> intro h <;> try exact Ah h) | refine ZF ?_ | (refine xm ?_; (repeat first | refine nx ?_ | simp only [aV])) | fail
     refine JH (key _ _ _ ⟨rfl, ?_, rfl⟩)
     exact eE
   rintro ρ2 M2 G2 ⟨rfl, hq, rfl⟩
   refine JA ?_ hq (lA0 _)
   clear hq hlo
   generalize Bn W l = lw at *
   repeat' first | refine rg ?_ | (with_reducible intro b; try refine nx ?_) | exact ⟨⟩ | fail
   refine ⟨[vi lw], Or.inr ⟨b, 0, rfl, An 0 rfl rfl (by simp)⟩, by simp [Bq, Ch, Value.oneCell'], Or.inl ⟨o1, _, rfl, _, bU, _, PullL.p, ?_, ?_, ?_⟩⟩
   ·simp only [maxLen]; omega
   ·omega
   intro o2 au _
   (refine nx ?_; try with_reducible exact ⟨⟩)
   repeat' first | refine su ?_ | refine rg ?_ | exact ⟨⟩ | fail
   have ih4 := ih3 o2 au
   rw [show List.map vi [lw] = [vi lw] from rfl] at ih4
   refine JE ih4 ?_
   exact eE
  ·have eH : k = e.ord.length := by omega
   subst eH
   rw [lB2] at bU ⊢
   refine JE (ρ' := [(4, osv o1 (R ++ e.ord.map (Bn W)).length)]) (G' := osg 3 o1 ((R ++ e.ord.map (Bn W)).map vi)) ?_ ?env3
   case env3 =>
    exact eE
   (refine rt Q30_ok ?_; try with_reducible exact ⟨⟩)
   rw [mq]
   exact ⟨o1, rfl, bU, rfl⟩
end
theorem I4 {M : Aa} {G : Own} {T : TypeId} {ov : Vec} {xs : List Int} (ai : Ey 1 ov xs.length (xs.map vi)) (hG : ∀ q ∈ osg T ov (xs.map vi), q ∈ G) : Sl (M.add G) 1 ei (osv ov xs.length) xs :=
 ⟨oad ov, Rd ov, rfl, by rw [A0]; exact E5 ai hG⟩
theorem Ai7 {M : Aa} {G : Own} {T : TypeId} {ov : Vec} {xs : List Bool} (ai : Ey 1 ov xs.length (xs.map vb)) (hG : ∀ q ∈ osg T ov (xs.map vb), q ∈ G) : Sl (M.add G) 1 eb (osv ov xs.length) xs :=
 ⟨oad ov, Rd ov, rfl, by rw [Er]; exact E5 ai hG⟩
section
variable {M : Aa}
theorem Ai8 (e : Exec) (v : Value) (hv : IsX M v e) (h1 : e.frm.length < 1000) (h2 : e.dn.length < 1000) (h3 : e.ord.length < 1000) (h4 : e.fen.length < 1000) (h5 : ∀ l ∈ e.ord, l.length < 1000) :
  Con Tryz.prog 84 #[v] M [] fun v M' _ => IsX M' v e := by
 obtain ⟨f, d, o, n, rfl, hf, hd, ho, hn⟩ := hv
 have dh := hf
 have oY := hd
 have gH := hn
 obtain ⟨fa, fc, rfl, bc⟩ := hf
 obtain ⟨da, dc, rfl, aH⟩ := hd
 obtain ⟨na, nc, rfl, kf⟩ := hn
 obtain ⟨oa, oc, ovs, rfl, ar, bQ, bi⟩ := ho
 refine Con.enter Q2_ok (args := [.agg #[.slice fa e.frm.length fc, .slice da e.dn.length dc, .slice oa e.ord.length oc, .slice na e.fen.length nc]]) (by simp [Q2]) fun w0 => ?_
 simp only [Q2, A9]
 refine EV.seq (EV.reg ?_)
 (repeat first | refine nx ?_ | simp only [Fr8])
 intro xb rb
 refine EV.seq (JI (fun ρ' M' G' => ∃ cb fv dv nv, M.le M' ∧ Sl M' 1 ei fv e.frm ∧ Sl M' 1 eb dv e.dn ∧ Sl M' 1 ei nv e.fen ∧ get ρ' 1 = some (pv xb 0) ∧ get ρ' 2 = some (pv rb 0) ∧ get ρ' 3 = some (pv cb 0) ∧
  G' = [(cb, Cl 45 [fv, dv, .slice none 0 0, nv]), (rb, Cl 45 [.slice none 0 0, .slice none 0 0, .slice none 0 0, .slice none 0 0]), (xb, Cl 45 [.slice fa e.frm.length fc, .slice da e.dn.length dc, .slice oa e.ord.length oc, .slice na e.fen.length nc])]) ?_ ?_)
 ·intro k' key
  have mr := fun G => Hm (M := M.add G) e.frm _ (dh.mono (JB _ _)) (by omega)
  have gA := fun G => W4 (M := M.add G) e.dn _ (oY.mono (JB _ _)) (by omega)
  have ji := fun G => Hm (M := M.add G) e.fen _ (gH.mono (JB _ _)) (by omega)
  refine EV.any (t := Fr9) [(xb, Cl 45 [.slice fa e.frm.length fc, .slice da e.dn.length dc, .slice oa e.ord.length oc, .slice na e.fen.length nc])] (by simp) ?_
  simp only [Aj, As, Ak, Au, reduceIte, Nat.reduceEqDiff]
  repeat' first | ((first | refine zo (fun lq aD => ?_) | refine zl ?_ | fail); try refine nz ?_) | refine zq (fun lq tq aD aB => ?_) | ((with_reducible refine JK (mr _) ?_) ;  rintro v1 M1 G1 ⟨o1, rfl, bU, rfl⟩; try refine nz ?_) | ((with_reducible refine JK (gA _) ?_) ;  rintro v2 M2 G2 ⟨o2, rfl, au, rfl⟩; try refine nz ?_) | ((with_reducible refine JK (ji _) ?_) ;  rintro v3 M3 G3 ⟨o3, rfl, uV, rfl⟩; try refine nz ?_) | (refine ZA (fun tq aB => ?_) (fun tq aB => ?_) <;> try refine nz ?_) | (refine ZB (fun tq aB => ?_) (fun tq aB => ?_) <;> try refine nz ?_) | exact zn | refine zf ?_ | ((first | with_reducible intro b | refine xsA rfl ?_ | refine xw ?_ | refine lAd (Aa.le_refl _) (lAd (Ax ?_) ?_); focus ((repeat' first | exact lA0 _ | exact lAe _ | exact lAh _ _ | refine lAg _ ?_ | refine lAo ?_ _ | refine lA9 ?_ | refine lAq _ ?_); done) | fail); try refine nz ?_) | exact ⟨⟩ | fail
  all_goals
   refine JG [(b, Cl 45 [osv o1 e.frm.length, osv o2 e.dn.length, .slice none 0 0, osv o3 e.fen.length]), (rb, Cl 45 [.slice none 0 0, .slice none 0 0, .slice none 0 0, .slice none 0 0]), (xb, Cl 45 [.slice fa e.frm.length fc, .slice da e.dn.length dc, .slice oa e.ord.length oc, .slice na e.fen.length nc])] ?_
   generalize hR : M.add _ = N
   have aA : M.le N := hR ▸ JB _ _
   have q1 : Sl N 1 ei (osv o1 e.frm.length) e.frm := hR ▸ I4 (T := 3) bU (fun q hq => by simp [hq])
   have q2 : Sl N 1 eb (osv o2 e.dn.length) e.dn := hR ▸ Ai7 (T := 4) au (fun q hq => by simp [hq])
   have q3 : Sl N 1 ei (osv o3 e.fen.length) e.fen := hR ▸ I4 (T := 3) uV (fun q hq => by simp [hq])
   exact key _ _ _ ⟨b, _, _, _, aA, q1, q2, q3, rfl, rfl, rfl, rfl⟩
 rintro ρ2 M2 G2 ⟨cb, fv, dv, nv, bS, q1, q2, q3, e1, e2, e3, rfl⟩
 obtain ⟨f2, fc2, rfl, ga⟩ := q1
 obtain ⟨d2, dc2, rfl, fR⟩ := q2
 obtain ⟨n2, nc2, rfl, pm⟩ := q3
 refine JA (ρ' := [(1, pv xb 0), (2, pv rb 0), (3, pv cb 0)]) ?_ (by simp only [lBs]; exact ⟨e1, e2, e3, fun _ h => nomatch h⟩) (lA0 _)
 clear e1 e2 e3
 repeat' first | refine st ?_ | refine rg ?_ | (refine xsA rfl ?_; try refine nx ?_) | exact ⟨⟩ | fail
 refine JC (fun x : Nat × Aa × Vec × List Value => ([(1, pv xb 0), (2, pv rb 0), (3, pv cb 0), (17, .slice oa e.ord.length oc), (18, vi e.ord.length), (19, vi x.1)], x.2.1,
   (cb, Cl 45 [.slice f2 e.frm.length fc2, .slice d2 e.dn.length dc2, osv x.2.2.1 x.1, .slice n2 e.fen.length nc2]) :: (rb, Cl 45 [.slice none 0 0, .slice none 0 0, .slice none 0 0, .slice none 0 0]) :: osg 34 x.2.2.1 x.2.2.2))
  (fun x => x.1 ≤ e.ord.length ∧ M2.le x.2.1 ∧ Ey 1 x.2.2.1 x.1 x.2.2.2 ∧ x.2.2.2.length = x.1 ∧ ∀ j (h : j < x.2.2.2.length) (h' : j < e.ord.length), SlC x.2.1 1 ei x.2.2.2[j] e.ord[j]) (fun x => e.ord.length - x.1) (0, M2, none, []) rfl ⟨lA8 _, Aa.le_refl _, ⟨rfl, rfl⟩, rfl, fun j h => absurd h (lBn _)⟩ ?env1 (lAg _ (lAg _ (lAe _))) ?_
 case env1 =>
  exact eE
 rintro ⟨k, Mk, ov, vs⟩ ⟨hk, io, aQ, eU, c6⟩ ih
 dsimp only at hk io aQ eU c6 ih ⊢
 repeat' first | refine st ?_ | refine rg ?_ | (refine cX ?_ ?_ <;> intro h <;> try exact Ah h) | (refine xrA rfl ?_; try refine nx ?_) | (refine xw ?_; refine nx ?_) | exact ⟨⟩ | fail
 ·have af : k < e.ord.length := by omega
  obtain ⟨ob, oo, rfl, bC⟩ := Dj.at bQ ar bi (by omega)
  obtain ⟨la, lc, aT, cW, aX⟩ := bC k af
  have aT := aT.mono (Aa.le_trans bS io)
  have aX := aX.mono (Aa.le_trans bS io)
  rw [lAu] at aT
  have oh := h5 _ (lAm af)
  repeat' first | refine ZF ?_ | (refine xn ?_; try refine nx ?_) | exact ⟨⟩ | fail
  have aS := fun G => Hm (M := Mk.add G) e.ord[k] (.slice la e.ord[k].length lc) (⟨la, lc, rfl, aX.mono (JB _ _)⟩) (by omega)
  refine EV.any (t := Fs0) [(cb, Cl 45 [.slice f2 e.frm.length fc2, .slice d2 e.dn.length dc2, osv ov k, .slice n2 e.fen.length nc2])] (by simp) ?_
  simp only [Aj, As, Ak, Au, reduceIte, Nat.reduceEqDiff]
  repeat' first | ((first | refine zo (fun lq aD => ?_) | refine zl ?_ | fail); try refine nz ?_) | refine zq (fun lq tq aD aB => ?_) | ((with_reducible refine JK (aS _) ?_) ;  rintro v1 M1 G1 ⟨o1, rfl, bU, rfl⟩; try refine nz ?_) | (refine ZA (fun tq aB => ?_) (fun tq aB => ?_) <;> try refine nz ?_) | (refine ZB (fun tq aB => ?_) (fun tq aB => ?_) <;> try refine nz ?_) | exact zn | ((first | with_reducible intro b | refine xsA rfl ?_ | refine lAd (Aa.le_refl _) (lAd (Ax ?_) ?_); focus ((repeat' first | exact lA0 _ | exact lAe _ | exact lAh _ _ | refine lAg _ ?_ | refine lAo ?_ _ | refine lA9 ?_ | refine lAq _ ?_); done) | fail); try refine nz ?_) | exact ⟨⟩ | fail
  refine ⟨[osv o1 e.ord[k].length], Or.inr ⟨_, 0, rfl, Bm (T := 34) (cs := [osv o1 e.ord[k].length]) (by simp) rfl (by simp)⟩, by simp [Bq, Ch, Value.oneCell'], Or.inl ⟨ov, _, rfl, _, aQ, _, PullL.p, by simp only [maxLen]; omega, by omega, fun o2 au _ => ?_⟩⟩
  repeat' first | ((first | refine zo (fun lq aD => ?_) | refine zl ?_ | fail); try refine nz ?_) | refine zq (fun lq tq aD aB => ?_) | (refine ZB (fun tq aB => ?_) (fun tq aB => ?_) <;> try refine nz ?_) | exact zn | refine zf ?_ | (refine xw ?_; try refine nz ?_) | exact ⟨⟩ | fail
  refine JG ((cb, Cl 45 [.slice f2 e.frm.length fc2, .slice d2 e.dn.length dc2, osv o2 (k + 1), .slice n2 e.fen.length nc2]) :: (rb, Cl 45 [.slice none 0 0, .slice none 0 0, .slice none 0 0, .slice none 0 0]) :: osg 34 o2 (vs ++ [osv o1 e.ord[k].length])) ?_
  generalize hR : Mk.add _ = N
  have aA : Mk.le N := hR ▸ JB _ _
  have c7 : SlC N 1 ei (osv o1 e.ord[k].length) e.ord[k] := hR ▸ Hc (T := 3) bU rfl (fun q hq => by simp [hq])
  clear hR
  have ih3 := ih (k + 1, N, o2, vs ++ [osv o1 e.ord[k].length]) ⟨by dsimp only; omega, Aa.le_trans io aA, au, by simp [eU], fun j hj ib => ?_⟩ (by dsimp only; omega)
  ·dsimp only at ih3
   repeat' first | refine su ?_ | refine rg ?_ | exact ⟨⟩ | fail
   refine JE ih3 ?_
   exact eE
  ·dsimp only at hj ⊢
   by_cases mt : j < vs.length
   ·rw [lCq mt]; exact (c6 j mt ib).mono aA
   ·have : j = k := by simp at hj; omega
    subst this
    rw [lCn (by omega)]
    simp only [eU, lF9, lAt]; exact c7
 ·have eH : k = e.ord.length := by omega
  subst eH
  repeat' first | fail
  refine JG [(rb, Cl 45 [.slice f2 e.frm.length fc2, .slice d2 e.dn.length dc2, osv ov e.ord.length, .slice n2 e.fen.length nc2])] ?_
  generalize hR : Mk.add _ = N
  have aA : Mk.le N := hR ▸ JB _ _
  have bQ : rdS N 1 (oad ov) e.ord.length vs := hR ▸ E5 (T := 34) aQ (fun q hq => by simp [hq])
  clear hR
  have aY := Aa.le_trans io aA
  (refine rt Q2_ok ?_; try with_reducible exact ⟨⟩)
  refine ⟨_, An 0 rfl rfl (by simp), ?_⟩
  exact ⟨_, _, _, _, rfl, ⟨_, _, rfl, ga.mono aY⟩, ⟨_, _, rfl, fR.mono aY⟩, ⟨_, _, vs, rfl, eU, bQ, fun j a b => (c6 j a b).mono aA⟩, ⟨_, _, rfl, pm.mono aY⟩⟩
end
section
variable {P : Program}
def Xa {α : Type} (P : Program) (g : FuncId) (first caps : Array Value) (M : Aa) (L : List α) (El : α → Value → Aa → Prop) : Prop :=
 ∀ (l : Nat) (I : List α → Aa → Own → Prop) (S : Aa → Own → Prop) (M1 : Aa) (G : Own), M.le M1 →
  (∀ xs M2 M3 G2, M2.le M3 → I xs M2 G2 → I xs M3 G2) →
  (∀ M2 M3 G2, M2.le M3 → S M2 G2 → S M3 G2) →
  (∀ xs x, x ∈ L → ∀ M2 G2 v, M1.le M2 → I xs M2 G2 → El x v M2 → Oo P l #[v] M2 G2 fun b M3 G3 => (b = .bool true ∧ I (xs ++ [x]) M3 G3) ∨ (b = .bool false ∧ S M3 G3)) →
  ∀ xs, I xs M1 G → Con P g (first ++ #[yv l] ++ caps) M1 G fun _ M' G' => I (xs ++ L) M' G' ∨ S M' G'
theorem Xa.mono {α : Type} {g : FuncId} {first caps : Array Value} {M M' : Aa} {L : List α} {El : α → Value → Aa → Prop} (h : Xa P g first caps M L El) (hM : M.le M') : Xa P g first caps M' L El :=
 fun l I S M1 G aY => h l I S M1 G (Aa.le_trans hM aY)
variable {α : Type} {C : Cx P} {V : List Nat} {k : List RItem} {ρ : Env} {M : Aa} {G : Own} {f : A} {ps : List Nat} {asg bd : RCode} {fv : Value} {g : FuncId} {first caps : Array Value}
theorem Ux {L : List α} {El : α → Value → Aa → Prop} (dR : Xa P g first caps M L El) (I : List α → Aa → Own → Prop) (S : Code → Aa → Own → Prop)
  {l : Nat} {r : Loop} {fn : FuncId} {nt t : Nat} (hr : LoopIs P V r fn nt [t] asg bd ρ)
  (aE : ∀ xs M2 M3 G2, M2.le M3 → I xs M2 G2 → I xs M3 G2)
  (mu : ∀ c M2 M3 G2, M2.le M3 → S c M2 G2 → S c M3 G2)
  (cP : ∀ xs x v M2 G2 w0 F, x ∈ L → M.le M2 → I xs M2 G2 → El x v M2 → EV (JO P l r fn nt w0 F M2 (I (xs ++ [x])) S) V [.code asg, .begins, .code bd] ((t, v) :: ρ) M2 ((l, Obj.loop r) :: G2))
  {G0 : Own} (hI : I [] M G0) :
  Con P g (first ++ #[yv l] ++ caps) M ((l, Obj.loop r) :: G0) fun _ M' G' => (∃ G1, G'.Perm ((l, Obj.loop r) :: G1) ∧ I L M' G1) ∨ (∃ c G1, G'.Perm ((l, Obj.loop { r with state := .done, pending := some c }) :: G1) ∧ S c M' G1) := by
 have := dR l (fun xs M2 G2 => ∃ G1, G2.Perm ((l, Obj.loop r) :: G1) ∧ I xs M2 G1) (fun M2 G2 => ∃ c G1, G2.Perm ((l, Obj.loop { r with state := .done, pending := some c }) :: G1) ∧ S c M2 G1) M ((l, Obj.loop r) :: G0) (Aa.le_refl _)
  (fun xs M2 M3 G2 aY ⟨G1, h1, h2⟩ => ⟨G1, h1, aE _ _ _ _ aY h2⟩) (fun M2 M3 G2 aY ⟨c, G1, h1, h2⟩ => ⟨c, G1, h1, mu _ _ _ _ aY h2⟩) ?_ [] ⟨G0, lAf _, hI⟩
 ·exact this
 ·rintro xs x hx M2 G2 v bS ⟨G1, hp, h2⟩ hv
  have hy : Oo P l [v].toArray M2 ((l, Obj.loop r) :: G1) (Ah2 l r (I (xs ++ [x])) S) :=
   Oo.enter (lB1 ..) hr rfl fun w0 => cP xs x v M2 G1 w0 _ hx bS h2 hv
  intro w hs
  obtain ⟨r', e1, e2, e3⟩ := hy w (by
   have ah := hs.perm hp
   have : St w ((((l, Obj.loop r) :: G1)).map (·.1)) M2 M2 ((l, Obj.loop r) :: G1) w := St.enter ah.agree ah.own ah.sep ah.nodup
   exact this)
  refine ⟨r', e1, e2, e3.mono ?_⟩
  rintro b w' ⟨M', G', k1, k2⟩
  refine ⟨M', G', ?_, ?_⟩
  ·have aJ : ∀ b, b ∈ (((l, Obj.loop r) :: G1).map (·.1)) ↔ b ∈ G2.map (·.1) := fun b => ((hp.map (·.1)).mem_iff).symm
   exact ⟨k1.os, k1.tape, k1.output, k1.size, fun b hb hf => k1.frame b hb (fun h => hf ((aJ b).1 h)), k1.agree, k1.own, k1.sep, fun p pY => (k1.new p pY).imp (aJ _).1 id, k1.nodup, k1.base,
    fun b o hm => (k1.fresh b o hm).imp id fun h => h.imp (aJ _).1 id⟩
  ·rcases k2 with ⟨rfl, G3, h3, h4⟩ | ⟨rfl, c, G3, h3, h4⟩
   ·exact .inl ⟨rfl, G3, h3, h4⟩
   ·exact .inr ⟨rfl, c, G3, h3, h4⟩
theorem EV.overM {L : List α} {El : α → Value → Aa → Prop} (bQ : C.b.roundOf = none) (hfv : ev ρ f = some fv) (bu : fn? fv = some (g, first, caps)) (dR : Xa P g first caps M L El)
  (I : Nat → List α → Aa → Own → Prop) (S : Nat → Code → Aa → Own → Prop) {t : Nat}
  (aE : ∀ d xs M2 M3 G2, M2.le M3 → I d xs M2 G2 → I d xs M3 G2)
  (mu : ∀ d c M2 M3 G2, M2.le M3 → S d c M2 G2 → S d c M3 G2)
  (hI : ∀ d, I d [] M ((d, Obj.deferred (some [])) :: G))
  (cP : ∀ l d (r : Loop), r.state = .ready → r.pending = none → ∀ xs x v M2 G2 w0 F, x ∈ L → M.le M2 → I d xs M2 G2 → El x v M2 →
   EV (JO P l r C.b.fn C.nt w0 F M2 (I d (xs ++ [x])) (S d)) V [.code asg, .begins, .code bd] ((t, v) :: ρ) M2 ((l, Obj.loop r) :: G2))
  (cz : ∀ d M' G', M.le M' → I d L M' G' → EV (C.marks [d]) V k ρ M' G')
  (ee : ∀ d c M' G', M.le M' → S d c M' G' → Ah3 (C.marks [d]) V k ρ c M' G') :
  EV C V (.code (.rangeF f [t] asg bd) :: k) ρ M G := by
 refine EV.rangeF bQ hfv bu fun l d r hr h1 h2 => ?_
 refine Con.callA (G2 := []) (Ux dR (I d) (S d) hr (aE d) (mu d) (fun xs x v M2 G2 w0 F => cP l d r h1 h2 xs x v M2 G2 w0 F) (hI d)) (by simp) ?_
 rintro v M' G' bB (⟨G1, hp, h3⟩ | ⟨c, G1, hp, h3⟩)
 ·refine ⟨r, G1, by simpa using hp, by rw [h1]; simp, ?_⟩
  rw [h2]; exact cz d M' G1 bB h3
 ·refine ⟨_, G1, by simpa using hp, by simp, ?_⟩
  have := ee d c M' G1 bB h3
  cases c <;> first | exact this | exact this.elim
end
def ElX (x : Exec) (v : Value) (M : Aa) : Prop := IsX M v x
section
variable {M : Aa}
theorem Ta (p : List Ev) {pb po pc b1 : Nat} (h1 : rd M b1 0 1 [.slice (some ⟨pb, po, none⟩) p.length pc]) (i : Nat) (hi : i < p.length) (hp : rd M pb (po + i * 6) 6 (Bj (evAt p i))) :
  Aq Tryz.prog 75 #[vi i, pv b1 0] M (vb (evAt p i).strong) := by
 have aC : (i : Int) < p.length := by omega
 refine Con.enter Q19_ok (args := [vi i, pv b1 0]) (by simp [Q19]) fun w0 => ?_
 simp only [Q19, A9]
 repeat' first | refine st ?_ | refine rg ?_ | (refine Aq.call (W0 (evAt p i)) ?_; try refine nx ?_) | refine ZF ?_ | ((first | refine xm ?_ | refine xn ?_ | fail); try refine nx ?_) | exact ⟨⟩ | fail
 (refine rt Q19_ok ?_; try with_reducible exact ⟨⟩)
theorem Ap3 {p : List Ev} {e : Exec} (hp : POk p) (hx : XOk p e) : e.frm.length < 1000 ∧ e.dn.length < 1000 ∧ e.ord.length < 1000 ∧ e.fen.length < 1000 ∧ ∀ l ∈ e.ord, l.length < 1000 := by
 have := hp.len
 refine ⟨by rw [hx.fl]; omega, by rw [hx.dl]; omega, by rw [hx.ol]; omega, by have := hx.fin.2; omega, fun l hl => by have := (hx.oin l hl).2; omega⟩
theorem Xb (p : List Ev) (hp : POk p) {ps ss : Value} {pb sb : Nat} (hps : Sl M 6 Bj ps p) (so : SlC M 1 ei ss (A5 p)) (h1 : rd M pb 0 1 [ps]) (h2 : rd M sb 0 1 [ss]) :
  Xa Tryz.prog 77 #[] #[pv pb 0, pv sb 0] M (Cf p) ElX := by
 have aP := hp.len
 intro ly I S M1 G hM aE mu hy xs hI
 have dZ := h1.mono hM
 have iJ := h2.mono hM
 have fC := hps.mono hM
 have mw := so.mono hM
 obtain ⟨ea, ec, rfl, an⟩ := hps
 obtain ⟨sa, sc, rfl, sQ, lj⟩ := so
 refine Con.enter Q20_ok (args := [yv ly, pv pb 0, pv sb 0]) (by simp [Q20]) fun w0 => ?_
 simp only [Q20, A9]
 refine EV.seq (EV.reg ?_)
 (repeat first | refine nx ?_ | simp only [Cg4])
 intro yb
 refine EV.frz [(yb, Cl 124 [yv ly])] ?_
 generalize hR : M1.add _ = N
 have aA : M1.le N := hR ▸ JB _ _
 have mc : rd N yb 0 1 [yv ly] := hR ▸ An 0 rfl rfl (by simp)
 clear hR
 have km := dZ.mono aA
 have me := iJ.mono aA
 have my := fC.mono aA
 have qM := mw.mono aA
 have iI := aE _ _ _ _ aA hI
 repeat' first | refine st ?_ | refine rg ?_ | (refine xn ?_; try refine nx ?_) | exact ⟨⟩ | fail
 refine Con.callS (G1 := []) (Aa7 p aP my) ?_
 rintro v M2 G2 bS ⟨g2, caps2, rfl, iP⟩
 repeat' first | refine su ?_ | fail
 refine JE (ρ' := [(0, yv ly), (1, pv pb 0), (2, pv sb 0), (3, pv yb 0), (9, .func (.func g2) #[] caps2)]) (G' := G) ?_ ?env1
 case env1 =>
  exact eE
 have o8 : Cf p = (Hn p).flatMap (J2 p) := rfl
 refine EV.over rfl rfl rfl iP (fun d ls M G' => ∃ G0, G'.Perm ((d, Obj.deferred (some [])) :: G0) ∧ I (xs ++ ls.flatMap (J2 p)) M G0)
  (fun d c M G' => c = .ret ∧ ∃ G0, G'.Perm ((d, Obj.deferred (some [])) :: G0) ∧ S M G0) ?_ ?_ ?_ ?_ ?_
 ·rintro d ls M4 M5 G4 aY ⟨G0, hp, iM⟩
  exact ⟨G0, hp, aE _ _ _ _ aY iM⟩
 ·intro d
  exact ⟨G, lAf _, by simpa using aE _ _ _ _ bS iI⟩
 ·intro l1 d r1 aT qN ls dn v M4 G4 w1 F1 hdn bq ⟨G0, d8, kt⟩ d7
  refine JF ?_ (lCi _ d8)
  have ax : dn.length = p.length := by
   obtain ⟨set, _, rfl⟩ := lAk.1 hdn; exact Fv p set
  have fE := d7.sl
  obtain ⟨da, dc, rfl, sq, il⟩ := d7
  refine EV.reg (sts := Ba3) ?_
  (repeat first | refine nx ?_ | simp only [Ba3])
  intro db
  repeat' first | (refine xw ?_; refine nx ?_) | exact ⟨⟩ | fail
  refine EV.frz [(db, Cl 35 [.slice da dn.length dc])] ?_
  generalize hR : M4.add _ = N4
  have cC : M4.le N4 := hR ▸ JB _ _
  have qO : rd N4 db 0 1 [.slice da dn.length dc] := hR ▸ An 0 rfl rfl (by simp)
  clear hR
  refine JQ aT ?_
  have eI := Aa.le_trans bS (Aa.le_trans bq cC)
  have qB := km.mono eI
  have qC := me.mono eI
  have o9 := mc.mono eI
  have mz := my.mono eI
  have qP := qM.mono eI
  have qD := aE _ _ _ _ cC kt
  have nA := fE.mono cC
  have uW := Aa.le_trans aA eI
  clear km me mc dZ iJ fC mw
  repeat' first | refine st ?_ | refine rg ?_ | (refine xn ?_; try refine nx ?_) | exact ⟨⟩ | fail
  refine Con.callS (G1 := []) (W8 p dn aP ax 3 0 rfl (Int.le_refl _) N4 _ _ mz nA) ?_
  rintro v5 M5 G5 gq ⟨g5, caps5, rfl, ku⟩
  repeat' first | refine su ?_ | fail
  refine JE (ρ' := [(0, yv ly), (1, pv pb 0), (2, pv sb 0), (3, pv yb 0), (4, pv db 0), (13, .func (.func g5) #[] caps5)]) (G' := (l1, Obj.loop { r1 with state := .busy }) :: (d, Obj.deferred (some [])) :: G0) ?_ ?env2
  case env2 =>
   exact eE
  generalize dC : xs ++ ls.flatMap (J2 p) = ys at *
  have wE : J2 p dn = (Bt p dn 3 0).flatMap (Mw p dn) := rfl
  refine JW (l0 := l1) (r0 := { r1 with state := .busy }) rfl (by simp) rfl rfl ku (fun zs M G' => ∃ G1, G'.Perm ((l1, Obj.loop { r1 with state := .busy }) :: (d, Obj.deferred (some [])) :: G1) ∧ I (ys ++ zs.flatMap (Mw p dn)) M G1)
   (fun c M G' => c = .ret ∧ ∃ G1, G'.Perm ((l1, Obj.loop { r1 with state := .busy }) :: (d, Obj.deferred (some [])) :: G1) ∧ S M G1) ?_ ?_ ?_ ?_ ?_
  ·rintro zs M6 M7 G6 aY ⟨G1, hp, iM⟩
   exact ⟨G1, hp, aE _ _ _ _ aY iM⟩
  ·exact ⟨G0, lAf _, by simpa using aE _ _ _ _ gq qD⟩
  ·intro l2 r2 aX lB zs ord v M6 G6 w2 F2 bJ fO ⟨G1, iN, kw⟩ nB
   refine JF ?_ (lCi _ iN)
   obtain ⟨gZ, mn⟩ := ordersP_ok hp ax bJ
   have nC := nB
   obtain ⟨oa, oc, ovs, rfl, ar, am, fN⟩ := nB
   refine EV.reg (sts := Ba4) ?_
   (repeat first | refine nx ?_ | simp only [Ba4])
   intro ob
   repeat' first | (refine xw ?_; refine nx ?_) | exact ⟨⟩ | fail
   refine EV.frz [(ob, Cl 26 [.slice oa ord.length oc])] ?_
   generalize hR : M6.add _ = N6
   have lC : M6.le N6 := hR ▸ JB _ _
   have ip : rd N6 ob 0 1 [.slice oa ord.length oc] := hR ▸ An 0 rfl rfl (by simp)
   clear hR
   refine JQ aX ?_
   have jt := Aa.le_trans gq (Aa.le_trans fO lC)
   have sr := qB.mono jt
   have sw := qC.mono jt
   have sy := o9.mono jt
   have nD := mz.mono jt
   have qQ := qP.mono jt
   have uX := aE _ _ _ _ lC kw
   have nE := nA.mono jt
   have qR := qO.mono jt
   have nF : Dj N6 1 ei (.slice oa ord.length oc) ord := Dj.mono lC nC
   have ia := Aa.le_trans uW jt
   clear qB qC o9
   repeat' first | refine st ?_ | refine rg ?_ | (refine xn ?_; try refine nx ?_) | exact ⟨⟩ | fail
   refine Con.callS (G1 := []) (Aa9 hp ax gZ nD nE nF) ?_
   rintro v7 M7 G7 tA ⟨g7, caps7, rfl, qS⟩
   repeat' first | refine su ?_ | fail
   refine JE (ρ' := [(0, yv ly), (1, pv pb 0), (2, pv sb 0), (3, pv yb 0), (4, pv db 0), (5, pv ob 0), (18, .func (.func g7) #[] caps7)]) (G' := (l2, Obj.loop { r2 with state := .busy }) :: (l1, Obj.loop { r1 with state := .busy }) :: (d, Obj.deferred (some [])) :: G1) ?_ ?env3
   case env3 =>
    exact eE
   generalize lD : ys ++ zs.flatMap (Mw p dn) = us at *
   refine JW (l0 := l2) (r0 := { r2 with state := .busy }) rfl (by simp) rfl rfl qS (fun qs M G' => ∃ G2, G'.Perm ((l2, Obj.loop { r2 with state := .busy }) :: (l1, Obj.loop { r1 with state := .busy }) :: (d, Obj.deferred (some [])) :: G2) ∧ I (us ++ qs.flatMap (F5 p dn ord)) M G2)
    (fun c M G' => c = .ret ∧ ∃ G2, G'.Perm ((l2, Obj.loop { r2 with state := .busy }) :: (l1, Obj.loop { r1 with state := .busy }) :: (d, Obj.deferred (some [])) :: G2) ∧ S M G2) ?_ ?_ ?_ ?_ ?_
   ·rintro qs M8 M9 G8 aY ⟨G2, hp, iM⟩
    exact ⟨G2, hp, aE _ _ _ _ aY iM⟩
   ·exact ⟨G1, lAf _, by simpa using aE _ _ _ _ tA uX⟩
   ·intro l3 r3 dP nG qs frm v M8 G8 w3 F3 jQ od ⟨G2, nH, lu⟩ nI
    refine JF ?_ (lCi _ nH)
    have nJ := nI.sl
    obtain ⟨fa, fc, rfl, iQ, bW⟩ := nI
    have cF : ∀ fen : List Int, Iy p fen ∧ fen.length ≤ p.length → XOk p ⟨frm, dn, ord, fen⟩ := fun fen hn => exec_ok hp hdn bJ jQ hn
    have bn : XOk p ⟨frm, dn, ord, []⟩ := cF [] ⟨fun x h => (nomatch h), lA8 _⟩
    refine EV.reg (sts := Ba5) ?_
    (repeat first | refine nx ?_ | simp only [Ba5])
    refine JQ dP ?_
    have iq := Aa.le_trans tA od
    have uY := sr.mono iq
    have wF := sw.mono iq
    have kM := sy.mono iq
    have lE := nD.mono iq
    have qT := qQ.mono iq
    have uZ := qR.mono iq
    have u0 := ip.mono iq
    have qU := nE.mono iq
    have qV : Dj M8 1 ei (.slice oa ord.length oc) ord := Dj.mono iq nF
    have u1 := Aa.le_trans ia iq
    clear sr sw sy
    have tB : ∀ M', M8.le M' → ∀ (n : Value) (fen : List Int), Sl M' 1 ei n fen → IsX M' (.agg #[.slice fa frm.length fc, .slice da dn.length dc, .slice oa ord.length oc, n]) ⟨frm, dn, ord, fen⟩ :=
     fun M' bB n fen hn => ⟨_, _, _, _, rfl, nJ.mono bB, qU.mono bB, Dj.mono bB qV, hn⟩
    have cd := fun G => S1 (M := M8.add G) p _ (lE.mono (JB _ _)) hp ⟨frm, dn, ord, []⟩ _ (tB _ (JB _ _) (.slice none 0 0) [] ⟨none, 0, rfl, .inl ⟨rfl, rfl⟩⟩) bn
    repeat' first | refine st ?_ | refine rg ?_ | (refine Aq.call (cd _) ?_; try refine nx ?_) | (refine cX ?_ ?_ <;> intro h <;> try exact Ah h) | ((first | with_reducible intro b | refine xn ?_ | refine xrA rfl ?_ | fail); try refine nx ?_) | (refine xw ?_; refine nx ?_) | exact ⟨⟩ | fail
    ·have hF : F5 p dn ord frm = [] := by rw [F5, if_neg (by simp [h])]
     refine JG ((l3, Obj.loop { r3 with state := .busy }) :: (l2, Obj.loop { r2 with state := .busy }) :: (l1, Obj.loop { r1 with state := .busy }) :: (d, Obj.deferred (some [])) :: G2) ?_
     refine JM dP nG (lAf _) ⟨G2, lAf _, ?_⟩
     rw [lB0, lCa, hF, lAa]
     exact aE _ _ _ _ (JB _ _) lu
    ·have hF : F5 p dn ord frm = ((Ct p (A5 p)).map fun f => (⟨frm, dn, ord, f⟩ : Exec)).filter fun e => decide (Dm p e = 0) := by rw [F5, if_pos h]
     have aj : (A5 p).length ≤ p.length := A8 _ _
     refine Con.callS (G1 := []) (O5 p (by omega) lE qT (O7 p) (by omega)) ?_
     rintro v9 M9 G9 tC ⟨g9, caps9, rfl, qX⟩
     repeat' first | refine su ?_ | fail
     refine JE (ρ' := [(0, yv ly), (1, pv pb 0), (2, pv sb 0), (3, pv yb 0), (4, pv db 0), (5, pv ob 0), (7, pv b 0), (30, .func (.func g9) #[] caps9)]) (G' := (b, Cl 45 [.slice fa frm.length fc, .slice da dn.length dc, .slice oa ord.length oc, .slice none 0 0]) :: (l3, Obj.loop { r3 with state := .busy }) :: (l2, Obj.loop { r2 with state := .busy }) :: (l1, Obj.loop { r1 with state := .busy }) :: (d, Obj.deferred (some [])) :: G2) ?_ ?env4
     case env4 =>
      exact eE
     generalize lF : us ++ qs.flatMap (F5 p dn ord) = ts at *
     refine JW (l0 := l3) (r0 := { r3 with state := .busy }) rfl (by simp) rfl rfl qX (fun ns M G' => ∃ fv G3, G'.Perm ((b, Cl 45 [.slice fa frm.length fc, .slice da dn.length dc, .slice oa ord.length oc, fv]) :: (l3, Obj.loop { r3 with state := .busy }) :: (l2, Obj.loop { r2 with state := .busy }) :: (l1, Obj.loop { r1 with state := .busy }) :: (d, Obj.deferred (some [])) :: G3) ∧ I (ts ++ (ns.map fun f => (⟨frm, dn, ord, f⟩ : Exec)).filter fun e => decide (Dm p e = 0)) M G3)
      (fun c M G' => c = .ret ∧ ∃ fv G3, G'.Perm ((b, Cl 45 [.slice fa frm.length fc, .slice da dn.length dc, .slice oa ord.length oc, fv]) :: (l3, Obj.loop { r3 with state := .busy }) :: (l2, Obj.loop { r2 with state := .busy }) :: (l1, Obj.loop { r1 with state := .busy }) :: (d, Obj.deferred (some [])) :: G3) ∧ S M G3) ?_ ?_ ?_ ?_ ?_
     ·rintro ns M10 M11 G10 aY ⟨fv, G3, hp, iM⟩
      exact ⟨fv, G3, hp, aE _ _ _ _ aY iM⟩
     ·exact ⟨_, G2, lAf _, by simpa using aE _ _ _ _ tC lu⟩
     ·intro l4 r4 im nK ns fen v M10 G10 w4 F4 b7 lG ⟨fv, G3, iR, jR⟩ nL
      refine JF ?_ (lCi _ iR)
      have nM := nL.sl
      obtain ⟨na, nc, rfl, iw, ju⟩ := nL
      have nN := Aa.le_trans tC lG
      have om : XOk p ⟨frm, dn, ord, fen⟩ := cF fen (L3 b7)
      have hX := fun M' (bB : M10.le M') => tB M' (Aa.le_trans nN bB) (.slice na fen.length nc) fen (nM.mono bB)
      have tD := fun G => O4 (M := M10.add G) p _ (lE.mono (Aa.le_trans nN (JB _ _))) hp ⟨frm, dn, ord, fen⟩ _ (hX _ (JB _ _)) om
      obtain ⟨c1, c2, c3, c4, c5⟩ := Ap3 hp om
      have lz := Ai8 (M := M10) ⟨frm, dn, ord, fen⟩ _ (hX _ (Aa.le_refl _)) c1 c2 c3 c4 c5
      have wG := uY.mono nN
      have uP := kM.mono nN
      repeat' first | refine rg ?_ | (refine xw ?_; refine nx ?_) | exact ⟨⟩ | fail
      refine JQ im ?_
      refine EV.block (EV.seq ?_)
      refine EV.any (t := At2) [(b, Cl 45 [.slice fa frm.length fc, .slice da dn.length dc, .slice oa ord.length oc, .slice na fen.length nc])] (lAq _ (lAg _ (lAe _))) ?_
      simp only [Aj, As, Ak, Au, reduceIte, Nat.reduceEqDiff]
      by_cases hb : Dm p ⟨frm, dn, ord, fen⟩ = 0
      ·have dY : decide (Dm p ⟨frm, dn, ord, fen⟩ = 0) = true := decide_eq_true hb
       repeat' first | ((first | refine zo (fun lq aD => ?_) | refine zl ?_ | fail); (repeat first | refine nz ?_ | simp only [dY])) | refine zq (fun lq tq aD aB => ?_) | (refine lAb _ (lAd (tD _) ?_); (repeat first | refine nz ?_ | simp only [dY])) | (refine ZA (fun tq aB => ?_) (fun tq aB => ?_) <;> (repeat first | refine nz ?_ | simp only [dY])) | exact zn | ((refine ZD (fun tq aB h => ?_) (fun tq aB h => ?_)) <;> try (exfalso; simp at h; done)) | ((first | refine xm ?_ | refine xn ?_ | refine xrA rfl ?_ | fail); (repeat first | refine nz ?_ | simp only [dY])) | fail
       refine Con.callS (G1 := []) lz ?_
       rintro v11 M11 G11 nO qY
       repeat' first | refine ZF ?_ | fail
       refine ⟨fun q hq => by simp only [lAi] at hq; simp [hq], ?_⟩
       repeat' first | (refine zl ?_; (repeat first | refine nz ?_ | simp only [dY])) | refine zq (fun lq tq aD aB => ?_) | (refine ZB (fun tq aB => ?_) (fun tq aB => ?_) <;> (repeat first | refine nz ?_ | simp only [dY])) | exact zn | fail
       refine Fx.frzS G11 ?_
       have aJ : (⟨frm, dn, ord, fen⟩ : Exec) ∈ Cf p :=
        lB4.2 ⟨dn, hdn, lB4.2 ⟨ord, bJ, lB4.2 ⟨frm, jQ, by rw [hF]; exact lCm.2 ⟨lAk.2 ⟨fen, b7, rfl⟩, dY⟩⟩⟩⟩
       refine Oo.callS (hy _ _ aJ _ G3 _ (Aa.le_trans u1 (Aa.le_trans nN (Aa.le_trans nO (JB _ _)))) (aE _ _ _ _ (Aa.le_trans nO (JB _ _)) jR) (IsX.mono (JB _ _) qY)) ?_
       rintro v12 M12 G12 u2 (⟨rfl, qZ⟩ | ⟨rfl, q8⟩)
       ·repeat' first | ((refine ZE ?_ (fun lq aD hc => ?_) (fun lq aD => ?_); rotate_left) <;> (try (exfalso; simp at hc; done)) <;> (repeat first | refine nz ?_ | simp only [lBd])) | ((first | refine zo (fun lq aD => ?_) | refine zl ?_ | fail); (repeat first | refine nz ?_ | simp only [lBd])) | refine zq (fun lq tq aD aB => ?_) | refine zf ?_ | with_reducible rfl | fail
        repeat' first | refine su ?_ | (refine cX ?_ ?_ <;> intro h <;> try exact Ah h) | fail
        refine JM im nK (lAf _) ⟨_, G12, lAf _, ?_⟩
        rw [lAv, lCp, lE0, lCy, List.filter_nil, dY, if_pos rfl, ← lAc]; exact qZ
       ·repeat' first | ((refine ZE ?_ (fun lq aD hc => ?_) (fun lq aD => ?_); rotate_left) <;> (try (exfalso; simp at hc; done)) <;> (repeat first | refine nz ?_ | simp only [lB9])) | ((first | refine zo (fun lq aD => ?_) | refine zl ?_ | fail); (repeat first | refine nz ?_ | simp only [lB9])) | refine zq (fun lq tq aD aB => ?_) | refine zf ?_ | with_reducible rfl | fail
        repeat' first | (refine cX ?_ ?_ <;> intro h <;> try exact Ah h) | fail
        exact JS (lAf _) ⟨rfl, _, G12, lAf _, q8⟩
      ·have dY : decide (Dm p ⟨frm, dn, ord, fen⟩ = 0) = false := decide_eq_false hb
       repeat' first | ((refine ZE ?_ (fun lq aD hc => ?_) (fun lq aD => ?_); rotate_left) <;> (try (exfalso; simp at hc; done)) <;> (repeat first | refine nz ?_ | simp only [dY])) | ((first | refine zo (fun lq aD => ?_) | refine zl ?_ | fail); (repeat first | refine nz ?_ | simp only [dY])) | refine zq (fun lq tq aD aB => ?_) | (refine lAb _ (lAd (tD _) ?_); (repeat first | refine nz ?_ | simp only [dY])) | refine zf ?_ | refine ZC (fun tq aB => ?_) | ((refine ZD (fun tq aB h => ?_) (fun tq aB h => ?_)) <;> try (exfalso; simp at h; done)) | ((first | refine xn ?_ | refine xrA rfl ?_ | fail); (repeat first | refine nz ?_ | simp only [dY])) | exact false | fail
       repeat' first | refine su ?_ | (refine cX ?_ ?_ <;> intro h <;> try exact Ah h) | fail
       refine JM im nK (lAf _) ⟨_, G3, lAf _, ?_⟩
       rw [lAv, lCp, lE0, lCy, List.filter_nil, dY, if_neg (by decide), lAa]; exact jR
     ·rintro M10 G10 lG ⟨fv, G3, iR, jR⟩
      repeat' first | refine su ?_ | fail
      refine JF ?_ iR
      refine JG ((l3, Obj.loop { r3 with state := .busy }) :: (l2, Obj.loop { r2 with state := .busy }) :: (l1, Obj.loop { r1 with state := .busy }) :: (d, Obj.deferred (some [])) :: G3) ?_
      refine JM dP nG (lAf _) ⟨G3, lAf _, ?_⟩
      rw [lB0, lCa, ← lAc, lF, hF]
      exact aE _ _ _ _ (JB _ _) jR
     ·rintro c M10 G10 lG ⟨rfl, fv, G3, iR, q9⟩
      refine JF ?_ iR
      refine JG ((l3, Obj.loop { r3 with state := .busy }) :: (l2, Obj.loop { r2 with state := .busy }) :: (l1, Obj.loop { r1 with state := .busy }) :: (d, Obj.deferred (some [])) :: G3) ?_
      exact JS (lAf _) ⟨rfl, G3, lAf _, mu _ _ _ (JB _ _) q9⟩
   ·rintro M8 G8 od ⟨G2, nH, lu⟩
    repeat' first | refine su ?_ | fail
    refine JM aX lB nH ⟨G2, lAf _, ?_⟩
    rw [lB0, lCa, ← lAc, lD]; exact lu
   ·rintro c M8 G8 od ⟨rfl, G2, nH, qH⟩
    exact JS nH ⟨rfl, G2, lAf _, qH⟩
  ·rintro M6 G6 fO ⟨G1, iN, kw⟩
   repeat' first | refine su ?_ | fail
   refine JM aT qN iN ⟨G1, lAf _, ?_⟩
   rw [lB0, lCa, ← lAc, dC]; exact kw
  ·rintro c M6 G6 fO ⟨rfl, G1, iN, qI⟩
   exact JS iN ⟨rfl, G1, lAf _, qI⟩
 ·rintro d M4 G4 bq ⟨G0, d8, kt⟩
  refine EV.inBlock ?_
  refine EV.doneM Q20_ok (ms := [d]) (by simpa [Oq] using d8) ?_
  (repeat first | refine nx ?_ | simp only [Q20])
  left; rw [o8]; exact kt
 ·rintro d c M4 G4 bq ⟨rfl, G0, d8, qJ⟩
  refine JU Q20_ok (ms := [d]) (by simpa [Oq] using d8) ?_
  (repeat first | refine nx ?_ | simp only [Q20])
  right; exact qJ
def Fw8 {α : Type} (L : List α) (El : α → Value → Aa → Prop) (v : Value) (M : Aa) (_ : Own) : Prop := ∃ g caps, v = .func (.func g) #[] caps ∧ Xa Tryz.prog g #[] caps M L El
theorem R1 (p : List Ev) (hp : POk p) {ps : Value} (hps : Sl M 6 Bj ps p) : Con Tryz.prog 34 #[ps] M [] (Fw8 (Cf p) ElX) := by
 have aP := hp.len
 refine Con.enter Q18_ok (args := [ps]) (by simp [Q18]) fun w0 => ?_
 simp only [Q18, A9]
 have cd := hps
 obtain ⟨ea, ec, rfl, an⟩ := hps
 refine EV.seq (EV.reg ?_)
 (repeat first | refine nx ?_ | simp only [Bp4])
 intro pb
 refine EV.frz [(pb, Cl 74 [.slice ea p.length ec])] ?_
 generalize hR : M.add _ = N
 have aA : M.le N := hR ▸ JB _ _
 have iS : rd N pb 0 1 [.slice ea p.length ec] := hR ▸ An 0 rfl rfl (by simp)
 clear hR
 repeat' first | refine st ?_ | refine rg ?_ | (refine xn ?_; try refine nx ?_) | exact ⟨⟩ | fail
 refine Con.callS (G1 := []) (Ow p _ ⟨ea, ec, rfl, an.mono aA⟩ (by omega) _ _ (fun i => (evAt p i).strong) ?_) ?_
 ·intro M' bB i hi
  obtain ⟨eb1, eo, rfl, hat⟩ := Sl.at (enc := Bj) (fun _ => rfl) (by decide) an (by omega)
  exact Ta p (iS.mono bB) i hi ((JJ hat i hi).mono (Aa.le_trans aA bB))
 rintro v M2 G2 bS ⟨of, rfl, eQ, rfl⟩
 repeat' first | refine st ?_ | refine rg ?_ | (with_reducible intro b; try refine nx ?_) | (refine xw ?_; refine nx ?_) | exact ⟨⟩ | fail
 refine JG [] ?_
 generalize hR : M2.add _ = N2
 have fD : M2.le N2 := hR ▸ JB _ _
 (refine rt Q18_ok ?_; try with_reducible exact ⟨⟩)
 refine ⟨_, _, rfl, Xb p hp (cd.mono (Aa.le_trans aA (Aa.le_trans bS fD))) (hR ▸ Hc (T := 3) eQ rfl (fun q hq => by simp [hq])) (iS.mono (Aa.le_trans bS fD)) (hR ▸ An 0 rfl rfl (by simp))⟩
end
theorem Pl : ∀ (l : List (List OpV)) (n : Nat) (e : Ev), e ∈ C4 n l → e.op ∈ l.flatten
 | [], _, e, h => by simp [C4] at h
 | t :: l, n, e, h => by
  simp only [C4, lB7, lAk] at h
  rcases h with ⟨o, ho, rfl⟩ | h
  ·exact lEd.2 ⟨t, lB1 .., ho⟩
  ·obtain ⟨l', h1, h2⟩ := lEd.1 (Pl l (n + 1) e h)
   exact lEd.2 ⟨l', lBa _ h1, h2⟩
theorem expOp_ok {o : OpV} (h : Ny o = true) : ∀ x ∈ Cy o, B3 x.ord = true ∧ 0 ≤ x.loc ∧ x.loc < 3 := by
 obtain ⟨q1, q2, q3⟩ := (Fk o).1 h
 have hl : 0 ≤ o.loc ∧ o.loc < 3 := by
  simp only [Z9, lA6, decide_eq_true_eq] at q3; exact q3.1
 have ho : B3 o.ord = true := by
  simp only [Wc, lA6] at q1; exact q1.2
 intro x hx
 unfold Cy at hx
 split at hx
 ·simp only [lAi] at hx; subst hx; exact ⟨ho, hl⟩
 ·simp only [lBp, lB5, or_false] at hx
  rcases hx with rfl | rfl | rfl
  ·decide
  ·refine ⟨?_, hl⟩
   have : ∀ k : Int, B3 (J1 k o.ord) = true := fun k => by
    unfold J1
    split
    ·exact ho
    ·split
     ·decide
     ·split <;> decide
   exact this _
  ·decide
theorem Yv (l : List OpV) (hall : ∀ o ∈ l, Ny o = true) : ((Ek l).length : Int) ≤ (Bi l).acc + (Bi l).fen ∧ True := by
 have key : ∀ (l : List OpV) (s : LimS), (∀ o ∈ l, Ny o = true) → ((Ek l).length : Int) + s.acc + s.fen ≤ (l.foldl Ao s).acc + (l.foldl Ao s).fen := by
  intro l
  induction l with
  | nil => intro s _; simp [Ek]
  | cons o l ih =>
   intro s h
   have ih2 := ih (Ao s o) (fun x hx => h x (lBa _ hx))
   have ho := h o (lB1 ..)
   obtain ⟨q1, q2, q3⟩ := (Fk o).1 ho
   have hk : 0 ≤ o.kind ∧ o.kind < 6 := by
    simp only [Wc, lA6, decide_eq_true_eq] at q1; exact q1.1
   have e : (Ek (o :: l)).length = (Cy o).length + (Ek l).length := by simp [Ek]
   have : ((Cy o).length : Int) + s.acc + s.fen ≤ (Ao s o).acc + (Ao s o).fen := by
    by_cases h5 : o.kind = 5
    ·have e1 : (Cy o).length = 1 := by unfold Cy Bs; rw [if_pos (by left; simp [h5])]; rfl
     have e2 : (Ao s o).acc = s.acc ∧ (Ao s o).fen = s.fen + 1 := by unfold Ao; rw [if_pos h5]; exact ⟨rfl, rfl⟩
     omega
    ·have ha : Bs o = true := by simp [Bs]; omega
     by_cases h4 : o.ord = 4
     ·have e1 : (Cy o).length = 3 := by unfold Cy; rw [if_neg (by simp [ha, h4])]; rfl
      have e2 : (Ao s o).acc = s.acc + 1 ∧ (Ao s o).fen = s.fen + 2 := by unfold Ao; rw [if_neg h5, if_pos ha]; simp [h4]
      omega
     ·have e1 : (Cy o).length = 1 := by unfold Cy; rw [if_pos (by right; exact h4)]; rfl
      have e2 : (Ao s o).acc = s.acc + 1 ∧ (Ao s o).fen = s.fen := by unfold Ao; rw [if_neg h5, if_pos ha]; simp [h4]
      omega
   rw [lD3]
   omega
 exact ⟨by have := key l ⟨0, 0, 0, 0, 0⟩ hall; simpa [Bi] using this, trivial⟩
theorem He {ts : List (List OpV)} (h : A1 ts = 0) : POk (Ac ts) := by
 obtain ⟨hl, hn, hall⟩ := Di h
 have cu : ∀ o ∈ ts.flatten, Ny o = true := lAz.1 hall
 have aj : (ts.map Ek).flatten = Ek ts.flatten := by simp [Ek, List.flatMap_def, List.map_flatten, lFf, lE5]; rfl
 have aJ : ∀ i, i < (Ac ts).length → B3 (evAt (Ac ts) i).op.ord = true ∧ 0 ≤ (evAt (Ac ts) i).op.loc ∧ (evAt (Ac ts) i).op.loc < 3 := by
  intro i hi
  have he : evAt (Ac ts) i = (Ac ts)[i] := by simp [evAt, hi]
  rw [he]
  have := Pl _ _ _ (lAm hi)
  rw [aj, Ek, lB4] at this
  obtain ⟨o, ho, hx⟩ := this
  exact expOp_ok (cu o ho) _ hx
 refine ⟨?_, fun i hi => (aJ i hi).1, fun i hi => (aJ i hi).2⟩
 have h1 := (Yv ts.flatten cu).1
 simp only [Gy, lA6, decide_eq_true_eq] at hl
 have : (Ac ts).length = (Ek ts.flatten).length := by rw [Ac, Iw, aj]
 omega
section
variable {M : Aa}
end
theorem Bw {α : Type} [DecidableEq α] : ∀ {l m : List α}, l.Nodup → (∀ x ∈ l, x ∈ m) → l.length ≤ m.length
 | [], _, _, _ => lA8 _
 | x :: l, m, hn, h => by
  obtain ⟨h1, h2⟩ := lCu.1 hn
  have hx : x ∈ m := h x (lB1 ..)
  have := Bw (l := l) (m := m.erase x) h2 (fun y hy => (List.mem_erase_of_ne (fun e => by subst e; exact h1 hy)).2 (h y (lBa _ hy)))
  rw [List.length_erase_of_mem hx] at this
  have hpos : 0 < m.length := List.length_pos_of_mem hx
  rw [lB3]; omega
def Pm {α : Type} : List (List α) → List (List α)
 | [] => [[]]
 | l :: ls => l.flatMap fun x => (Pm ls).map (x :: ·)
theorem Pn {α : Type} : ∀ {ls : List (List α)} {x : List α}, x.length = ls.length → (∀ i (h : i < x.length) (h' : i < ls.length), x[i] ∈ ls[i]) → x ∈ Pm ls
 | [], x, hl, _ => by
  have : x = [] := lC6.1 hl
  simp [Pm, this]
 | l :: ls, [], hl, _ => by simp at hl
 | l :: ls, y :: x, hl, h => by
  simp only [Pm, lB4, lAk]
  exact ⟨y, h 0 (by simp) (by simp), x, Pn (by simpa using hl) (fun i h1 h2 => by have := h (i + 1) (by simpa using h1) (by simpa using h2); rwa [lAs, lAs] at this), rfl⟩
theorem C6 {α β : Type} {f : α → List β} {c : Nat} : ∀ {l : List α}, (∀ x ∈ l, (f x).length ≤ c) → (l.flatMap f).length ≤ l.length * c
 | [], _ => by simp
 | x :: l, h => by
  have h1 := C6 (l := l) (fun y hy => h y (lBa _ hy))
  have h2 := h x (lB1 ..)
  rw [lC2, lA4, lB3, lEh]; omega
theorem Eg {α : Type} {l : List α} {ls : List (List α)} {a b : Nat} (h1 : l.length ≤ a) (h2 : (Pm ls).length ≤ b) : (Pm (l :: ls)).length ≤ a * b := by
 have : (Pm (l :: ls)).length ≤ l.length * b := C6 fun x _ => by rw [lA1]; exact h2
 exact lBm this (lBw _ h1)
theorem Nc {f : Nat → List Int} {g : Nat → Bool} {c : Nat} (hc : 0 < c) (h1 : ∀ i, g i = true → (f i).length ≤ c) (h2 : ∀ i, g i = false → (f i).length ≤ 1) : ∀ (l : List Nat), (Pm (l.map f)).length ≤ c ^ (l.filter g).length
 | [] => by simp [Pm]
 | x :: l => by
  have ih := Nc hc h1 h2 l
  rw [lDv]
  cases hg : g x with
  | true =>
   rw [lCy, hg, if_pos rfl, lB3, Nat.pow_succ, Nat.mul_comm]
   exact Eg (h1 x hg) ih
  | false =>
   rw [lCy, hg, if_neg (by decide)]
   have := Eg (h2 x hg) ih
   rwa [Nat.one_mul] at this
theorem Ab3 (p : List Ev) : (List.range p.length).map (evAt p) = p := by
 refine lEc (by simp) fun i h1 h2 => ?_
 rw [lDn, lDl, Dc h2]
theorem Gp (p : List Ev) (g : Ev → Bool) : ((List.range p.length).filter fun i => g (evAt p i)).length = (p.filter g).length := by
 conv => rhs; rw [← Ab3 p]
 rw [List.filter_map, lA1]; rfl
theorem Nd (g : OpV → Bool) : ∀ (l : List (List OpV)) (n : Nat), ((C4 n l).filter fun e => g e.op).length = (l.flatten.filter g).length
 | [], n => rfl
 | t :: l, n => by
  rw [C4, lCp, lA4, Nd g l (n + 1), lD0, lCp, lA4, List.filter_map, lA1]; rfl
theorem Po {g : OpV → Bool} (h5 : g Ii = false) (ho : ∀ o : OpV, ∀ r, g { o with ord := r } = g o) : ∀ l : List OpV, ((Ek l).filter g).length = (l.filter g).length
 | [] => rfl
 | o :: l => by
  have ih := Po h5 ho l
  have e : Ek (o :: l) = Cy o ++ Ek l := by simp [Ek]
  have h1 : ((Cy o).filter g).length = ([o].filter g).length := by
   unfold Cy
   split
   ·rfl
   ·simp only [lCy, h5, ho, List.filter_nil]
    cases g o <;> simp
  rw [e, lCp, lA4, ih, h1, ← lA4, ← lCp]; rfl
theorem Yw (ts : List (List OpV)) : (ts.map Ek).flatten = Ek ts.flatten := by simp [Ek, List.flatMap_def, List.map_flatten, lFf, lE5]; rfl
theorem R2 {g : OpV → Bool} (h5 : g Ii = false) (ho : ∀ o : OpV, ∀ r, g { o with ord := r } = g o) (ts : List (List OpV)) : ((Ac ts).filter fun e => g e.op).length = (ts.flatten.filter g).length := by
 rw [Ac, Nd, Yw, Po h5 ho]
theorem Ab4 {o : OpV} (h : Ny o = true) : ∀ x ∈ Cy o, 0 ≤ x.kind ∧ x.kind ≤ 5 := by
 obtain ⟨q1, _, _⟩ := (Fk o).1 h
 have hk : 0 ≤ o.kind ∧ o.kind < 6 := by simp only [Wc, lA6, decide_eq_true_eq] at q1; exact q1.1
 intro x hx
 unfold Cy at hx
 split at hx
 ·simp only [lAi] at hx; subst hx; omega
 ·simp only [lBp, lB5, or_false] at hx
  rcases hx with rfl | rfl | rfl
  ·decide
  ·exact ⟨hk.1, by have := hk.2; show o.kind ≤ 5; omega⟩
  ·decide
theorem Di1 {ts : List (List OpV)} (h : A1 ts = 0) (i : Nat) (hi : i < (Ac ts).length) : ∃ o, Ny o = true ∧ o ∈ ts.flatten ∧ (evAt (Ac ts) i).op ∈ Cy o := by
 obtain ⟨_, _, hall⟩ := Di h
 rw [Dc hi]
 have := Pl _ _ _ (lAm hi)
 rw [Yw, Ek, lB4] at this
 obtain ⟨o, ho, hx⟩ := this
 exact ⟨o, lAz.1 hall o ho, ho, hx⟩
theorem Jk {ts : List (List OpV)} (h : A1 ts = 0) (i : Nat) (hi : i < (Ac ts).length) : 0 ≤ (evAt (Ac ts) i).op.kind ∧ (evAt (Ac ts) i).op.kind ≤ 5 := by
 obtain ⟨o, h1, _, h2⟩ := Di1 h i hi
 exact Ab4 h1 _ h2
theorem R3 : ∀ (l : List (List OpV)) (n : Nat), (C4 n l).Pairwise (fun a b => a.th ≤ b.th) ∧ ∀ e ∈ C4 n l, (n : Int) ≤ e.th
 | [], n => ⟨List.Pairwise.nil, fun e h => nomatch h⟩
 | t :: l, n => by
  obtain ⟨h1, h2⟩ := R3 l (n + 1)
  rw [C4]
  refine ⟨List.pairwise_append.2 ⟨?_, h1, ?_⟩, ?_⟩
  ·rw [lDp]; exact List.pairwise_of_forall fun _ _ => Int.le_refl _
  ·intro a ha b hb
   obtain ⟨o, _, rfl⟩ := lAk.1 ha
   have := h2 b hb
   show (n : Int) ≤ b.th
   omega
  ·intro e he
   rcases lB7.1 he with he | he
   ·obtain ⟨o, _, rfl⟩ := lAk.1 he
    exact Int.le_refl _
   ·have := h2 e he; omega
theorem Jl (ts : List (List OpV)) : L5 (Ac ts) := by
 intro a b gb hb
 rcases Nat.lt_or_eq_of_le gb with h | h
 ·have := (lBc.1 (R3 (ts.map Ek) 0).1) a b (by rw [Ac] at hb; omega) hb h
  rw [Dc hb, Dc (by omega)]; exact this
 ·rw [h]; exact Int.le_refl _
def isW (k : Int) (o : OpV) : Bool := decide (1 ≤ o.kind) && decide (o.kind ≤ 4) && decide (o.loc = k)
theorem Ab5 (l : List OpV) (hall : ∀ o ∈ l, Ny o = true) : ((l.filter fun o => decide (o.kind ≠ 5)).length : Int) ≤ (Bi l).acc ∧
  ((l.filter (isW 0)).length : Int) ≤ (Bi l).w0 ∧ ((l.filter (isW 1)).length : Int) ≤ (Bi l).w1 ∧ ((l.filter (isW 2)).length : Int) ≤ (Bi l).w2 := by
 have key : ∀ (l : List OpV) (s : LimS), (∀ o ∈ l, Ny o = true) → s.acc + ((l.filter fun o => decide (o.kind ≠ 5)).length : Int) ≤ (l.foldl Ao s).acc ∧
  s.w0 + ((l.filter (isW 0)).length : Int) ≤ (l.foldl Ao s).w0 ∧ s.w1 + ((l.filter (isW 1)).length : Int) ≤ (l.foldl Ao s).w1 ∧ s.w2 + ((l.filter (isW 2)).length : Int) ≤ (l.foldl Ao s).w2 := by
  intro l
  induction l with
  | nil => intro s _; simp
  | cons o l ih =>
   intro s h
   have ih2 := ih (Ao s o) (fun x hx => h x (lBa _ hx))
   have ho := h o (lB1 ..)
   obtain ⟨q1, _, _⟩ := (Fk o).1 ho
   have hk : 0 ≤ o.kind ∧ o.kind < 6 := by simp only [Wc, lA6, decide_eq_true_eq] at q1; exact q1.1
   rw [lD3]
   by_cases h5 : o.kind = 5
   ·have e : Ao s o = { s with fen := s.fen + 1 } := by unfold Ao; rw [if_pos h5]
    rw [e] at ih2 ⊢
    simp only [lCy, isW, h5]
    simpa [isW] using ih2
   ·have ha : Bs o = true := by simp [Bs]; omega
    have e : Ao s o = { acc := s.acc + 1, fen := if o.ord = 4 then s.fen + 2 else s.fen, w0 := if o.kind ≠ 0 ∧ o.loc = 0 then s.w0 + 1 else s.w0, w1 := if o.kind ≠ 0 ∧ o.loc = 1 then s.w1 + 1 else s.w1, w2 := if o.kind ≠ 0 ∧ o.loc = 2 then s.w2 + 1 else s.w2 } := by
     unfold Ao; rw [if_neg h5, if_pos ha]
    have hw : ∀ k : Int, isW k o = decide (o.kind ≠ 0 ∧ o.loc = k) := fun k => by
     unfold isW
     rw [lEz]
     simp only [lA6, decide_eq_true_eq]; omega
    rw [e] at ih2 ⊢
    obtain ⟨i1, i2, i3, i4⟩ := ih2
    dsimp only at i1 i2 i3 i4
    generalize l.foldl Ao _ = z at i1 i2 i3 i4 ⊢
    have hh : ∀ (g : OpV → Bool), (((o :: l).filter g).length : Int) = (if g o = true then 1 else 0) + ((l.filter g).length : Int) := fun g => by
     rw [lCy]; split
     ·rw [lB3]; omega
     ·omega
    refine ⟨?_, ?_, ?_, ?_⟩
    ·rw [hh]; split <;> omega
    ·rw [hh, hw]
     by_cases hc : o.kind ≠ 0 ∧ o.loc = 0
     ·rw [if_pos hc] at i2; rw [if_pos (decide_eq_true hc)]; omega
     ·rw [if_neg hc] at i2; rw [if_neg (by simpa using hc)]; omega
    ·rw [hh, hw]
     by_cases hc : o.kind ≠ 0 ∧ o.loc = 1
     ·rw [if_pos hc] at i3; rw [if_pos (decide_eq_true hc)]; omega
     ·rw [if_neg hc] at i3; rw [if_neg (by simpa using hc)]; omega
    ·rw [hh, hw]
     by_cases hc : o.kind ≠ 0 ∧ o.loc = 2
     ·rw [if_pos hc] at i4; rw [if_pos (decide_eq_true hc)]; omega
     ·rw [if_neg hc] at i4; rw [if_neg (by simpa using hc)]; omega
 have := key l ⟨0, 0, 0, 0, 0⟩ hall
 simpa [Bi] using this
structure Few (p : List Ev) : Prop where
 acc : (p.filter fun e => decide (e.op.kind ≠ 5)).length ≤ 6
 w : ∀ k : Int, (p.filter fun e => isW k e.op).length ≤ 4
 ws : (p.filter fun e => isW 0 e.op).length + (p.filter fun e => isW 1 e.op).length + (p.filter fun e => isW 2 e.op).length ≤ 6
theorem Pp {α : Type} {f g h t : α → Bool} (hd : ∀ x, (f x = true → g x = false ∧ h x = false ∧ t x = true) ∧ (g x = true → h x = false ∧ t x = true) ∧ (h x = true → t x = true)) : ∀ l : List α, (l.filter f).length + (l.filter g).length + (l.filter h).length ≤ (l.filter t).length
 | [] => by simp
 | x :: l => by
  have ih := Pp hd l
  obtain ⟨h1, h2, h3⟩ := hd x
  simp only [lCy]
  cases hf : f x with
  | true =>
   obtain ⟨a, b, c⟩ := h1 hf
   rw [a, b, c]; simp; omega
  | false =>
   cases hg : g x with
   | true =>
    obtain ⟨b, c⟩ := h2 hg
    rw [b, c]; simp; omega
   | false =>
    cases hh : h x with
    | true => rw [h3 hh]; simp; omega
    | false => cases t x <;> simp <;> omega
theorem Tb {ts : List (List OpV)} (h : A1 ts = 0) : Few (Ac ts) := by
 obtain ⟨hl, _, hall⟩ := Di h
 obtain ⟨c1, c2, c3, c4⟩ := Ab5 ts.flatten (lAz.1 hall)
 simp only [Gy, lA6, decide_eq_true_eq] at hl
 obtain ⟨⟨⟨⟨⟨_, l1⟩, _⟩, l2⟩, l3⟩, l4⟩ := hl
 have ha : ((Ac ts).filter fun e => decide (e.op.kind ≠ 5)).length ≤ 6 := by
  have := R2 (g := fun o => decide (o.kind ≠ 5)) (by simp) (fun _ _ => rfl) ts
  omega
 have hw : ∀ k : Int, ((Ac ts).filter fun e => isW k e.op).length = (ts.flatten.filter (isW k)).length := fun k => R2 (g := isW k) (by simp [isW]) (fun _ _ => rfl) ts
 refine ⟨ha, fun k => ?_, ?_⟩
 ·by_cases h0 : k = 0
  ·subst h0; have := hw 0; omega
  ·by_cases h1 : k = 1
   ·subst h1; have := hw 1; omega
   ·by_cases h2 : k = 2
    ·subst h2; have := hw 2; omega
    ·have : ((Ac ts).filter fun e => isW k e.op) = [] := by
      rw [List.filter_eq_nil_iff]
      intro e he hk
      obtain ⟨i, hi, rfl⟩ := lBf he
      have := (He h).loc i hi
      rw [Dc hi] at this
      simp only [isW, lA6, decide_eq_true_eq] at hk
      omega
     rw [this]; simp
 ·refine lBm (Pp (t := fun e : Ev => decide (e.op.kind ≠ 5)) (fun x => ?_) _) ha
  simp only [isW, lA6, decide_eq_true_eq, lBj, decide_eq_false_iff_not]
  refine ⟨fun h => ⟨.inr (by omega), .inr (by omega), by omega⟩, fun h => ⟨.inr (by omega), by omega⟩, fun h => by omega⟩
def Jm (p : List Ev) (k : Int) : List Int := Cq p.length fun i => isW k (evAt p i).op
theorem Nf {p : List Ev} {k : Int} : (Jm p k).length = (p.filter fun e => isW k e.op).length := by
 rw [Jm, Cq, lA1, ← Gp p fun e => isW k e.op]
theorem Ng {p : List Ev} {k : Int} {w : Nat} : (w : Int) ∈ Jm p k ↔ w < p.length ∧ 1 ≤ (evAt p w).op.kind ∧ (evAt p w).op.kind ≤ 4 ∧ (evAt p w).op.loc = k := by
 rw [Jm, B9]
 simp only [isW, lA6, decide_eq_true_eq]
 constructor
 ·rintro ⟨i, h1, ⟨⟨h2, h3⟩, h4⟩, h5⟩
  have : i = w := by omega
  subst this; exact ⟨h1, h2, h3, h4⟩
 ·rintro ⟨h1, h2, h3, h4⟩; exact ⟨w, h1, ⟨⟨h2, h3⟩, h4⟩, rfl⟩
def Dl5 (p : List Ev) : List (List Int) := Pm ((List.range p.length).map fun i => if (evAt p i).reads then -1 :: Jm p (evAt p i).op.loc else [-2])
def Xc (p : List Ev) (w : Wd) (k : Int) : List Int := 0 :: (Jm p k).map fun x => w.w[x.toNat]?.getD 0
def Ap4 (p : List Ev) : List (List Int) := (Dl5 p).flatMap fun f => (Pm [Xc p (Aw p f) 0, Xc p (Aw p f) 1, Xc p (Aw p f) 2]).map (Bc p (Aw p f) p.length ++ ·)
theorem Fw9 : ∀ a b c : Fin 5, a.1 + b.1 + c.1 ≤ 6 → (a.1 + 1) * ((b.1 + 1) * ((c.1 + 1) * 1)) ≤ 27 := by decide
theorem Ai9 {p : List Ev} (h : Few p) : (Ap4 p).length ≤ 421875 := by
 have h1 : (Dl5 p).length ≤ 5 ^ ((List.range p.length).filter fun i => (evAt p i).reads).length := by
  refine Nc (by decide) (fun i hi => ?_) (fun i hi => ?_) _
  ·rw [if_pos hi, lB3, Nf]
   have := h.w (evAt p i).op.loc; omega
  ·rw [if_neg (by rw [hi]; decide)]; simp
 have h2 : ((List.range p.length).filter fun i => (evAt p i).reads).length ≤ 6 := by
  rw [Gp p Ev.reads]
  refine lBm ?_ h.acc
  have : p.filter Ev.reads = (p.filter fun e => decide (e.op.kind ≠ 5)).filter Ev.reads := by
   rw [lFl]
   congr 1
   funext e
   simp only [Ev.reads]
   cases decide (e.op.kind ≠ 1) <;> cases decide (e.op.kind ≠ 5) <;> rfl
  rw [this]; exact lDy _ _
 have h3 : (Dl5 p).length ≤ 15625 := lBm h1 (lBm (lCg (by decide) h2) (by decide))
 have h4 : (Ap4 p).length ≤ (Dl5 p).length * 27 := by
  refine C6 fun f _ => ?_
  rw [lA1]
  have hl : ∀ k, (Xc p (Aw p f) k).length ≤ (p.filter fun e => isW k e.op).length + 1 := fun k => by rw [Xc, lB3, lA1, Nf]; exact lA5 _
  refine lBm (Eg (hl 0) (Eg (hl 1) (Eg (hl 2) (lA5 1)))) ?_
  have w0 := h.w 0; have w1 := h.w 1; have w2 := h.w 2; have ws := h.ws
  exact Fw9 ⟨_, by omega⟩ ⟨_, by omega⟩ ⟨_, by omega⟩ ws
 omega
theorem Aj0 {p : List Ev} (hp : POk p) {e : Exec} (h : Shape p e) : Ar p e ∈ Ap4 p := by
 unfold Ap4
 rw [lB4]
 refine ⟨e.frm, Pn (by simp [h.fl]) fun i h1 h2 => ?_, ?_⟩
 ·simp only [lDn, lDl]
  have hi : i < p.length := by rw [← h.fl]; exact h1
  have hf : Af e i = e.frm[i] := by simp [Af, h1]
  cases hr : (evAt p i).reads with
  | false => rw [if_neg (by decide), lAi, ← hf]; exact h.out i hi hr
  | true =>
   rw [if_pos rfl, ← hf]
   rcases h.src i hi hr with h3 | ⟨w, h3, h4, h5, h6⟩
   ·exact lBp.2 (.inl h3)
   ·have := h.dn0 w h4 h5
    exact lBp.2 (.inr (by rw [h3]; exact Ng.2 ⟨h4, this.1, this.2, h6⟩))
 ·refine lAk.2 ⟨e.ord.map (Bn (Aw p e.frm)), Pn (by simp [h.ol]) fun i h1 h2 => ?_, rfl⟩
  rw [lA1] at h1
  have iB : i < 3 := by rw [h.ol] at h1; exact h1
  have aq := h.ord i iB
  rw [lA2 h1, lAn] at aq
  have key : Bn (Aw p e.frm) e.ord[i] ∈ Xc p (Aw p e.frm) i := by
   unfold Bn Xc
   split
   ·exact lB1 ..
   ·rename_i hne
    refine lBa _ (lAk.2 ⟨Ae e.ord[i] (e.ord[i].length - 1), ?_, rfl⟩)
    have := aq.mem_iff.1 (Hp.2 ⟨e.ord[i].length - 1, by omega, rfl⟩)
    obtain ⟨w, q1, q2, _, q3, q4⟩ := Bb.1 this
    have := h.dn0 w q2 q3
    rw [q1]; exact Ng.2 ⟨q2, this.1, this.2, q4⟩
  rw [lDn]
  have : i = 0 ∨ i = 1 ∨ i = 2 := by omega
  rcases this with rfl | rfl | rfl <;> exact key
def Pq (p : List Ev) (x : List Int) : Prop := ∃ e, e ∈ Cf p ∧ Ar p e = x
theorem Tc {p : List Ev} (hp : POk p) (hm : L5 p) (hf : Few p) {l : List (List Int)} (hn : l.Nodup) (h : ∀ x ∈ l, Pq p x) : l.length ≤ 421875 :=
 lBm (Bw hn fun x hx => by
  obtain ⟨e, he, rfl⟩ := h x hx
  exact Aj0 hp ((Lb hp hm).1 he).1) (Ai9 hf)
def Ap5 (a b : Int) : Int := if a < b then -1 else if a > b then 1 else 0
def C7 : List Int → List Int → Int
 | [], [] => 0
 | [], _ :: _ => -1
 | _ :: _, [] => 1
 | a :: l, b :: m => if Ap5 a b = 0 then C7 l m else Ap5 a b
theorem Bg9 (a b : Int) : Ap5 a b < 0 ↔ a < b := by unfold Ap5; split <;> (try split) <;> omega
theorem I5 (a b : Int) : Ap5 a b = 0 ↔ a = b := by unfold Ap5; split <;> (try split) <;> omega
theorem Ck : ∀ xs, C7 xs xs = 0
 | [] => rfl
 | x :: xs => by rw [C7, if_pos ((I5 x x).2 rfl), Ck xs]
theorem Gq {a b : Int} {l m : List Int} : C7 (a :: l) (b :: m) < 0 ↔ a < b ∨ (a = b ∧ C7 l m < 0) := by
 rw [C7]
 split
 ·rename_i h; have := (I5 a b).1 h; subst this; simp
 ·rename_i h
  have h2 : a ≠ b := fun e => h ((I5 a b).2 e)
  rw [Bg9]; simp [h2]
theorem Cr : ∀ xs ys zs, C7 xs ys < 0 → C7 ys zs < 0 → C7 xs zs < 0
 | [], [], _, h, _ => by simp [C7] at h
 | [], _ :: _, [], _, h => by simp [C7] at h
 | [], _ :: _, _ :: _, _, _ => by simp [C7]
 | _ :: _, [], _, h, _ => by simp [C7] at h
 | _ :: _, _ :: _, [], _, h => by simp [C7] at h
 | a :: l, b :: m, c :: n, h1, h2 => by
  rw [Gq] at *
  rcases h1 with h1 | ⟨rfl, h1⟩ <;> rcases h2 with h2 | ⟨rfl, h2⟩
  ·left; omega
  ·left; exact h1
  ·left; exact h2
  ·right; exact ⟨rfl, Cr _ _ _ h1 h2⟩
theorem Et : ∀ xs ys, C7 xs ys < 0 ∨ xs = ys ∨ C7 ys xs < 0
 | [], [] => by simp
 | [], _ :: _ => by simp [C7]
 | _ :: _, [] => by simp [C7]
 | a :: l, b :: m => by
  rw [Gq, Gq]
  have := Et l m
  by_cases h1 : a < b
  ·left; left; exact h1
  ·by_cases h2 : b < a
   ·right; right; left; exact h2
   ·have : a = b := by omega
    subst this
    rcases Et l m with h | rfl | h
    ·left; right; exact ⟨rfl, h⟩
    ·right; left; rfl
    ·right; right; right; exact ⟨rfl, h⟩
theorem Uy {xs ys : List Int} : ∀ {i : Nat}, xs.take i = ys.take i → C7 xs ys = C7 (xs.drop i) (ys.drop i) := by
 induction xs generalizing ys with
 | nil => intro i h; cases i with
  | zero => rfl
  | succ i => cases ys with
   | nil => rfl
   | cons y ys => simp at h
 | cons x xs ih => intro i h; cases i with
  | zero => rfl
  | succ i => cases ys with
   | nil => simp at h
   | cons y ys =>
    simp only [lEs, List.cons.injEq] at h
    rw [h.1, C7, if_pos ((I5 y y).2 rfl), ih h.2]; rfl
section
variable {M : Aa}
theorem Xd (x : Int) : Aq Tryz.prog 152 #[vi x] M (vb false) := by
 refine Con.enter Q44_ok (args := [vi x]) (by simp [Q44]) fun w0 => ?_
 simp only [Q44, A9]
 repeat' first | refine st ?_ | refine rg ?_ | refine rt Q44_ok ?_ | exact ⟨⟩ | fail
 all_goals simp
theorem Td (x y : Int) : Aq Tryz.prog 127 #[vi x, vi y] M (vi (Ap5 x y)) := by
 refine Con.enter Q43_ok (args := [vi x, vi y]) (by simp [Q43]) fun w0 => ?_
 simp only [Q43, A9]
 repeat' first | refine st ?_ | refine rg ?_ | (refine Aq.call (Xd _) ?_; try refine nx ?_) | (refine cX ?_ ?_ <;> intro h <;> try exact Ah h) | refine rt Q43_ok ?_ | exact ⟨⟩ | fail
 all_goals (simp only [Ap5]; grind)
theorem Uz (xs ys : List Int) (s t : Value) (hs : Sl M 1 ei s xs) (ht : Sl M 1 ei t ys) (hb : xs.length < 1000000) (fB : ys.length < 1000000) : Aq Tryz.prog 88 #[s, t] M (vi (C7 xs ys)) := by
 obtain ⟨a, c, rfl, aH⟩ := hs
 obtain ⟨a2, c2, rfl, d4⟩ := ht
 refine Con.enter Q113_ok (args := [.slice a xs.length c, .slice a2 ys.length c2]) (by simp [Dj6]) fun w0 => ?_
 simp only [Dj6, A9]
 repeat' first | refine st ?_ | refine rg ?_ | exact ⟨⟩ | fail
 refine JC (fun i : Nat => ([(0, .slice a xs.length c), (1, .slice a2 ys.length c2), (9, .slice a xs.length c), (10, vi xs.length), (11, vi i)], M, [])) (fun i => i ≤ xs.length ∧ i ≤ ys.length ∧ xs.take i = ys.take i) (fun i => xs.length - i) 0 rfl ⟨lA8 _, lA8 _, rfl⟩ ?env1 (lA0 _) ?_
 case env1 =>
  exact eE
 rintro i ⟨hi, u3, aw⟩ ih
 dsimp only at hi u3 aw ih ⊢
 have gA := Uy aw
 repeat' first | refine st ?_ | refine rg ?_ | (refine cX ?_ ?_ <;> intro h <;> try exact Ah h) | exact ⟨⟩ | fail
 ·have aC : i < xs.length := by omega
  obtain ⟨wb, wo, rfl, hat⟩ := Sl.at (sz := 1) (enc := ei) (fun _ => rfl) (by decide) aH (by omega)
  have iD := hat i aC
  rw [lAu] at iD
  rw [lBh aC] at gA
  by_cases bo : i < ys.length
  ·obtain ⟨wb2, wo2, rfl, aN⟩ := Sl.at (sz := 1) (enc := ei) (fun _ => rfl) (by decide) d4 (by omega)
   have gU := aN i bo
   rw [lAu] at gU
   rw [lBh bo, C7] at gA
   have cp : ¬ ((ys.length : Int) ≤ i) := by omega
   have iB : (i : Int) < (ys.length : Int) := by omega
   repeat' first | refine st ?_ | refine rg ?_ | (refine Aq.call (Td xs[i] ys[i]) ?_; try refine nx ?_) | (refine cX ?_ ?_ <;> intro h <;> try exact Ah h) | refine ZF ?_ | (refine xm ?_; try refine nx ?_) | exact ⟨⟩ | fail
   ·(refine rt Q113_ok ?_; try with_reducible exact ⟨⟩)
    rw [gA, if_neg (by simp_all)]
   ·have hz : Ap5 xs[i] ys[i] = 0 := by simp_all
    have he := (I5 _ _).1 hz
    refine JA (ih (i + 1) ⟨by omega, by omega, ?_⟩ (by omega)) ?_ (lA0 _)
    ·rw [lA7 aC, lA7 bo, aw, he]
    ·exact eE
  ·have cp : ((ys.length : Int) ≤ i) := by omega
   have qa : ys.drop i = [] := lCt (by omega)
   rw [qa, C7] at gA
   repeat' first | refine st ?_ | refine rg ?_ | (refine cX ?_ ?_ <;> intro h <;> try exact Ah h) | refine ZF ?_ | (refine xm ?_; try refine nx ?_) | exact ⟨⟩ | fail
   (refine rt Q113_ok ?_; try with_reducible exact ⟨⟩)
   rw [gA]
 ·have bO : i = xs.length := by omega
  have fY : xs.drop i = [] := lCt (by omega)
  have bo : i < ys.length := by omega
  rw [fY, lBh bo, C7] at gA
  (refine rt Q113_ok ?_; try with_reducible exact ⟨⟩)
  rw [gA]
 ·have fY : xs.drop i = [] := lCt (by omega)
  have qa : ys.drop i = [] := lCt (by omega)
  rw [fY, qa, C7] at gA
  (refine rt Q113_ok ?_; try with_reducible exact ⟨⟩)
  rw [gA]
end
theorem execsP_ok {p : List Ev} (hp : POk p) {e : Exec} (h : e ∈ Cf p) : XOk p e := by
 simp only [Cf, J2, Mw, lB4] at h
 obtain ⟨dn, hd, ord, ho, frm, hf, h⟩ := h
 unfold F5 at h
 split at h
 ·obtain ⟨h, _⟩ := lCm.1 h
  obtain ⟨fen, hn, rfl⟩ := lAk.1 h
  exact exec_ok hp hd ho hf (L3 hn)
 ·exact absurd h lB5
def Ad1 (p : List Ev) (outs : List (List Int)) : Prop := outs.Pairwise (fun x y => C7 x y < 0) ∧ ∀ x, x ∈ outs ↔ x ∈ (Cf p).map (Ar p)
theorem Yx : ∀ {a b : List (List Int)}, a.Pairwise (fun x y => C7 x y < 0) → b.Pairwise (fun x y => C7 x y < 0) → (∀ x, x ∈ a ↔ x ∈ b) → a = b
 | [], [], _, _, _ => rfl
 | [], y :: b, _, _, h => absurd ((h y).2 (lB1 ..)) lB5
 | x :: a, [], _, _, h => absurd ((h x).1 (lB1 ..)) lB5
 | x :: a, y :: b, ha, hb, h => by
  obtain ⟨a1, a2⟩ := lDm.1 ha
  obtain ⟨b1, b2⟩ := lDm.1 hb
  have ct : x = y := by
   have h1 := (h x).1 (lB1 ..)
   have h2 := (h y).2 (lB1 ..)
   rcases lBp.1 h1 with h1 | h1
   ·exact h1
   ·rcases lBp.1 h2 with h2 | h2
    ·exact h2.symm
    ·have := Cr _ _ _ (a1 y h2) (b1 x h1)
     rw [Ck] at this; omega
  subst ct
  have : a = b := Yx a2 b2 fun z => by
   constructor
   ·intro hz
    rcases lBp.1 ((h z).1 (lBa _ hz)) with e | e
    ·subst e
     have := a1 z hz
     rw [Ck] at this; omega
    ·exact e
   ·intro hz
    rcases lBp.1 ((h z).2 (lBa _ hz)) with e | e
    ·subst e
     have := b1 z hz
     rw [Ck] at this; omega
    ·exact e
  rw [this]
def L9 (x : List Int) : List (List Int) → List (List Int)
 | [] => [x]
 | y :: l => if C7 x y < 0 then x :: y :: l else if x = y then y :: l else y :: L9 x l
theorem Ob {x z : List Int} : ∀ l : List (List Int), z ∈ L9 x l ↔ z = x ∨ z ∈ l
 | [] => by simp [L9]
 | y :: l => by
  rw [L9]
  split
  ·simp
  ·split
   ·rename_i h; subst h; simp
   ·simp only [lBp, Ob l]
    constructor
    ·rintro (h | h | h)
     ·exact .inr (.inl h)
     ·exact .inl h
     ·exact .inr (.inr h)
    ·rintro (h | h | h)
     ·exact .inr (.inl h)
     ·exact .inl h
     ·exact .inr (.inr h)
theorem Te {x : List Int} : ∀ {l : List (List Int)}, l.Pairwise (fun x y => C7 x y < 0) → (L9 x l).Pairwise (fun x y => C7 x y < 0)
 | [], _ => by simp [L9]
 | y :: l, h => by
  obtain ⟨h1, h2⟩ := lDm.1 h
  rw [L9]
  split
  ·rename_i hx
   refine lDm.2 ⟨fun z hz => ?_, h⟩
   rcases lBp.1 hz with rfl | hz
   ·exact hx
   ·exact Cr _ _ _ hx (h1 z hz)
  ·rename_i hx
   split
   ·exact h
   ·rename_i hne
    refine lDm.2 ⟨fun z hz => ?_, Te h2⟩
    rcases (Ob l).1 hz with rfl | hz
    ·rcases Et y z with k | k | k
     ·exact k
     ·exact absurd k.symm hne
     ·exact absurd k hx
    ·exact h1 z hz
def Bh0 (p : List Ev) : List (List Int) := ((Cf p).map (Ar p)).foldr L9 []
theorem Aj1 (l : List (List Int)) : (l.foldr L9 []).Pairwise (fun x y => C7 x y < 0) ∧ ∀ x, x ∈ l.foldr L9 [] ↔ x ∈ l := by
 induction l with
 | nil => exact ⟨List.Pairwise.nil, fun x => Iff.rfl⟩
 | cons y l ih => exact ⟨Te ih.1, fun x => by rw [List.foldr_cons, Ob, ih.2, lBp]⟩
theorem Di2 (p : List Ev) : Ad1 p (Bh0 p) := Aj1 _
theorem Ad1.uniq {p : List Ev} {a b : List (List Int)} (h : Ad1 p a) (k : Ad1 p b) : a = b := Yx h.1 k.1 fun x => (h.2 x).trans (k.2 x).symm
theorem Ad1.eq {p : List Ev} {a : List (List Int)} (h : Ad1 p a) : a = Bh0 p := h.uniq (Di2 p)
def Lc : List (List OpV) := [[⟨1, 0, 1, 0, 0⟩, ⟨0, 1, 0, 0, 0⟩], [⟨1, 1, 1, 0, 0⟩, ⟨0, 0, 0, 0, 0⟩]]
theorem buffers_ok : A1 Lc = 0 := by decide +kernel
theorem U0 : Bh0 (Ac Lc) = [[0, 0, 1, 1, 0], [0, 1, 1, 1, 0], [1, 0, 1, 1, 0], [1, 1, 1, 1, 0]] := by decide +kernel
variable {P : Program}
theorem Ext.grown {w w' : World} (e : Ext w w') : ∃ q os, w' = Go.Sort.grow (w.drewN q) os := by
 refine ⟨w'.drawn - w.drawn, w'.heap.extract w.heap.size w'.heap.size, ?_⟩
 have h1 : w'.heap = w.heap ++ w'.heap.extract w.heap.size w'.heap.size := by
  apply Array.ext_getElem?
  intro i
  rw [Array.getElem?_append]
  split
  ·rename_i hi; exact e.block i hi
  ·rename_i hi
   rw [Array.getElem?_extract]
   have := e.size
   by_cases h2 : i < w'.heap.size
   ·rw [if_pos (by omega)]; congr 1; omega
   ·rw [if_neg (by omega), Array.getElem?_eq_none (by omega)]
 have h2 := e.os
 have h3 := e.tape
 have h4 := e.output
 obtain ⟨h5, h6⟩ := h3
 cases w' with
 | mk heap' tape' drawn' os' output' =>
  dsimp only at h1 h2 h4 h5 h6 ⊢
  subst h2 h4 h5
  simp only [Go.Sort.grow, World.drewN]
  congr 1
  omega
theorem St.enterIn {w W : World} {F : List Nat} {M : Aa} {G : Own} (hs : St w F M M G w) (h : ∀ b o, M b o → W.heap[b]? = w.heap[b]?) : St W [] M M [] W :=
 St.enter (G := []) (fun b o hb => (h b o hb).trans (hs.agree b o hb)) (fun p hp => by cases hp) (fun p hp => by cases hp) (by simp)
theorem Aq.exact {g : FuncId} {args : Array Value} {M : Aa} {v : Value} (h : Aq P g args M v) {W : World} (hs : St W [] M M [] W) :
  Calls P g args W fun e w' => e = .returned v ∧ ∃ q os', w' = Go.Sort.grow (W.drewN q) os' :=
 (h.2 W hs).mono fun e w' ⟨u, he, M', G', h1, h2⟩ => ⟨by rw [he, h2], (JY h1).grown⟩
theorem U1 {α : Type} [Inhabited α] (enc : α → Value) (w : World) (b : Nat) (d : Array α) {T : TypeId} {cs : List Value} (hb : w.heap[b]? = some (Cl T cs)) (hl : d.size ≤ cs.length) :
  (Go.Sort.putRow enc w b 0 d).heap[b]? = some (Cl T (d.toList.map enc ++ cs.drop d.size)) := by
 unfold Go.Sort.putRow Go.Sort.mapBlock
 simp only [Array.getElem?_modify, if_true, hb, lC9, Go.Sort.onCells, Option.some.injEq, Obj.cells.injEq, and_true]
 apply Array.ext_getElem?
 intro i
 simp only [Go.Sort.putCells, Array.getElem?_mapIdx, lF8, lBi, lA8, true_and, Nat.sub_zero]
 by_cases hi : i < d.size
 ·rw [lE1 (by simpa using hi), lA2 (by omega : i < cs.length)]
  simp [hi]
 ·rw [lEn (by simpa using (by omega : d.size ≤ i))]
  simp only [hi, if_false, lA1, Array.length_toList, List.getElem?_drop]
  rw [show d.size + (i - d.size) = i by omega]
  simp
theorem Nh {α : Type} [Inhabited α] (enc : α → Value) (w : World) (b off : Nat) (d : Array α) {k : Nat} (hk : k ≠ b) : (Go.Sort.putRow enc w b off d).heap[k]? = w.heap[k]? := by
 unfold Go.Sort.putRow Go.Sort.mapBlock
 simp only [Array.getElem?_modify]
 rw [if_neg (fun h => hk h.symm)]
theorem H8 {α : Type} [Inhabited α] (enc : α → Value) (w : World) (b off : Nat) (d : Array α) : (Go.Sort.putRow enc w b off d).heap.size = w.heap.size := by
 simp [Go.Sort.putRow, Go.Sort.mapBlock]
variable {P : Program}
theorem Aj2 {α : Type} [Inhabited α] (enc : α → Value) {w : World} {b : Nat} {T : TypeId} {xs : List α} {sp : List Value} (hb : w.heap[b]? = some (Cl T (xs.map enc ++ sp))) : Go.Sort.Holds enc w b 0 xs.toArray := by
 intro j hj
 have aR : j < xs.length := by simpa using hj
 constructor
 ·simp only [World.cell?, hb, Option.isSome_none, lBi]
  rw [lF8, lE1 (by simpa using aR)]
  simp [aR]
 ·simp [World.frozen?, hb]
theorem Con.sort {ρ : Go.Shelf.Ren} (L : SlLaysF.n6 P ρ) {α : Type} [Inhabited α] (enc : α → Value) (h1 : ∀ x, (enc x).oneCell' = true) (cf : α → α → Int) (hO : Go.Sort.SWO (ltOf cf)) {g : FuncId} {M : Aa} (hgo : An1 P (ρ.f 6) = true)
  (nP : ∀ x y : α, Aq P g #[enc x, enc y] M (.int .i64 (cf x y))) {b : Nat} {T : TypeId} {xs : List α} {sp : List Value} {c : Nat} (aG : xs.length < 4611686018427387904) :
  Con P (ρ.f 6) #[.slice (some ⟨b, 0, none⟩) xs.length c, .func (.func g) #[] #[]] M [(b, Cl T (xs.map enc ++ sp))] fun v M' G' =>
   v = .tuple #[] ∧ M' = M ∧ ∃ ys : List α, ys.Perm xs ∧ ys.Pairwise (fun x y => ltOf cf y x = false) ∧ G' = [(b, Cl T (ys.map enc ++ sp))] := by
 refine ⟨hgo, fun w hs => ?_⟩
 have hb := hs.own (b, _) (lCl ..)
 have lH := hs.lt (lCl ..)
 dsimp only at hb lH
 have hH := Aj2 enc hb
 have lI : ∀ b' o, M b' o → b' ≠ b := fun b' o hm e => hs.sep _ (lCl ..) o (e ▸ hm)
 have hW : ∀ m os dk, St (sortWorld enc w b 0 m dk os) [] M M [] (sortWorld enc w b 0 m dk os) := fun m os dk => hs.enterIn fun b' o hm => by
  show ((Go.Sort.putRow enc (Go.Sort.ahead w m) b 0 dk).heap ++ os)[b']? = _
  rw [lDr (by rw [H8]; exact hs.ltM hm), Nh _ _ _ _ _ (lI b' o hm)]; rfl
 have e8 := Any.slices_SortFunc L enc h1 cf hO g #[] b 0 c xs.toArray w (H0 (nP default default).1) (fun m os dk hd x y => by simpa using (nP x y).exact (hW m os dk)) hH lH (by simpa using aG)
 rw [lE3] at e8
 refine e8.mono ?_
 rintro e w' ⟨rfl, d', n, os, ⟨aO, _, hp⟩, u4, rfl⟩
 have eC : d'.size = xs.length := by simpa using aO
 have aq : d'.toList.Perm xs := by
  have := hp
  rw [show d'.extract 0 xs.length = d' by rw [← eC]; simp, show xs.toArray.extract 0 xs.length = xs.toArray by simp] at this
  simpa using this
 refine ⟨_, rfl, M, [(b, Cl T (d'.toList.map enc ++ sp))], ?_, rfl, rfl, d'.toList, aq, ?_, rfl⟩
 ·have cQ := U1 enc (Go.Sort.ahead w n) b d' (T := T) (cs := xs.map enc ++ sp) hb (by simp [eC])
  rw [eC, List.drop_left' (by simp)] at cQ
  have nQ : w.heap.size ≤ (sortWorld enc w b 0 n d' os).heap.size := by
   show _ ≤ ((Go.Sort.putRow enc (Go.Sort.ahead w n) b 0 d').heap ++ os).size
   rw [Array.size_append, H8]; exact Nat.le_add_right _ _
  have iT : ∀ k, k < w.heap.size → k ≠ b → (sortWorld enc w b 0 n d' os).heap[k]? = w.heap[k]? := fun k hk hne => by
   show ((Go.Sort.putRow enc (Go.Sort.ahead w n) b 0 d').heap ++ os)[k]? = _
   rw [lDr (by rw [H8]; exact hk), Nh _ _ _ _ _ hne]; rfl
  have hat : (sortWorld enc w b 0 n d' os).heap[b]? = some (Cl T (d'.toList.map enc ++ sp)) := by
   show ((Go.Sort.putRow enc (Go.Sort.ahead w n) b 0 d').heap ++ os)[b]? = _
   rw [lDr (by rw [H8]; exact lH)]; exact cQ
  refine ⟨rfl, ⟨rfl, Nat.le_add_right _ _⟩, rfl, nQ, fun k hk hf => iT k hk (fun e => hf (by simp [e])), fun k o hk => (iT k (hs.ltM hk) (lI k o hk)).trans (hs.agree k o hk), ?_, ?_, ?_, by simp, Aa.le_refl _, fun k o hk => .inl hk⟩
  ·intro p hp; rw [lAi] at hp; subst hp; exact hat
  ·intro p hp o hm; rw [lAi] at hp; subst hp; exact lI _ _ hm rfl
  ·intro p hp; rw [lAi] at hp; subst hp; exact .inl (by simp)
 ·rw [lBc]
  intro i j hi hj gK
  have := u4 i j (lA8 _) gK (by simpa [eC] using hj)
  rw [getElem!_pos d' i (by simpa using hi), getElem!_pos d' j (by simpa using hj)] at this
  simpa using this
theorem Con.sortNone {ρ : Go.Shelf.Ren} (L : SlLaysF0.n6 P ρ) (hgo : An1 P (ρ.f 6) = true) {M : Aa} (p : Option Addr) (cap : Nat) (fv : Value) :
  Con P (ρ.f 6) #[.slice p 0 cap, fv] M [] fun v _ G' => v = .tuple #[] ∧ G' = [] := by
 refine ⟨hgo, fun w hs => (AnyF.slices_SortFunc_none L p cap fv w).mono ?_⟩
 rintro e w' ⟨rfl, rfl⟩
 exact ⟨_, rfl, M, [], hs, rfl, rfl⟩
end Go.EV

namespace Go.Proofs
open Go.Shelf Go.RowKit Go.Lib Go.Sort
def Tryz.sortRows_ren : Go.Shelf.Ren := ⟨fun | 6 => 87 | 15 => 126 | 14 => 125 | 28 => 150 | 29 => 151 | 20 => 142 | 21 => 143 | 22 => 144 | 23 => 145 | 24 => 146 | 25 => 147 | 26 => 148 | 27 => 149 | 46 => 160 | 47 => 161 | 48 => 162 | 49 => 163 | 50 => 164 | 57 => 169 | n => n, fun | 22 => 26 | 24 => 34 | 25 => 138 | 3 => 3 | 39 => 67 | 0 => 0 | 53 => 144 | 55 => 175 | 4 => 4 | 46 => 167 | 45 => 166 | 50 => 171 | 5 => 5 | 9 => 9 | 66 => 181 | 70 => 185 | 76 => 188 | 77 => 189 | n => n, fun | n => n⟩
theorem Tryz.sortRows : Go.Proofs.SlLaysF.n6 Tryz.prog Tryz.sortRows_ren := {
 mixed := by kernel_rfl
 f6 := ⟨Tryz.f87.name, by decide, Tryz.func87.trans (congrArg some (by kernel_rfl))⟩
 f14 := ⟨Tryz.f125.name, by decide, Tryz.func125.trans (congrArg some (by kernel_rfl))⟩
 f15 := Tryz.func126.trans (congrArg some (by kernel_rfl))
 f20 := ⟨Tryz.f142.name, by decide, Tryz.func142.trans (congrArg some (by kernel_rfl))⟩
 f21 := ⟨Tryz.f143.name, by decide, Tryz.func143.trans (congrArg some (by kernel_rfl))⟩
 f22 := ⟨Tryz.f144.name, by decide, Tryz.func144.trans (congrArg some (by kernel_rfl))⟩
 f23 := ⟨Tryz.f145.name, by decide, Tryz.func145.trans (congrArg some (by kernel_rfl))⟩
 f24 := ⟨Tryz.f146.name, by decide, Tryz.func146.trans (congrArg some (by kernel_rfl))⟩
 f25 := ⟨Tryz.f147.name, by decide, Tryz.func147.trans (congrArg some (by kernel_rfl))⟩
 f26 := ⟨Tryz.f148.name, by decide, Tryz.func148.trans (congrArg some (by kernel_rfl))⟩
 f27 := ⟨Tryz.f149.name, by decide, Tryz.func149.trans (congrArg some (by kernel_rfl))⟩
 f28 := Tryz.func150.trans (congrArg some (by kernel_rfl))
 f29 := Tryz.func151.trans (congrArg some (by kernel_rfl))
 f46 := ⟨Tryz.f160.name, by decide, Tryz.func160.trans (congrArg some (by kernel_rfl))⟩
 f47 := Tryz.func161.trans (congrArg some (by kernel_rfl))
 f48 := Tryz.func162.trans (congrArg some (by kernel_rfl))
 f49 := ⟨Tryz.f163.name, by decide, Tryz.func163.trans (congrArg some (by kernel_rfl))⟩
 f50 := ⟨Tryz.f164.name, by decide, Tryz.func164.trans (congrArg some (by kernel_rfl))⟩
 f57 := ⟨Tryz.f169.name, by decide, Tryz.func169.trans (congrArg some (by kernel_rfl))⟩
 t0 := Tryz.underlying0
 a0 := Tryz.isAgg0
 z0 := Tryz.sizeOf0
 v0 := Tryz.zeroValue0
 t3 := Tryz.underlying3
 a3 := Tryz.isAgg3
 z3 := Tryz.sizeOf3
 v3 := Tryz.zeroValue3
 t4 := Tryz.underlying4
 a4 := Tryz.isAgg4
 z4 := Tryz.sizeOf4
 v4 := Tryz.zeroValue4
 t5 := Tryz.underlying5
 a5 := Tryz.isAgg5
 z5 := Tryz.sizeOf5
 v5 := Tryz.zeroValue5
 t9 := Tryz.underlying9
 a9 := Tryz.isAgg9
 z9 := Tryz.sizeOf9
 v9 := Tryz.zeroValue9
 t22 := Tryz.underlying26
 a22 := Tryz.isAgg26
 z22 := Tryz.sizeOf26
 v22 := Tryz.zeroValue26
 a24 := Tryz.isAgg34
 z24 := Tryz.sizeOf34
 t25 := Tryz.underlying138
 a25 := Tryz.isAgg138
 z25 := Tryz.sizeOf138
 v25 := Tryz.zeroValue138
 t39 := Tryz.underlying67
 a39 := Tryz.isAgg67
 z39 := Tryz.sizeOf67
 v39 := Tryz.zeroValue67
 t45 := Tryz.underlying166
 a45 := Tryz.isAgg166
 z45 := Tryz.sizeOf166
 v45 := Tryz.zeroValue166
 t46 := Tryz.underlying167
 a46 := Tryz.isAgg167
 z46 := Tryz.sizeOf167
 v46 := Tryz.zeroValue167
 t50 := Tryz.underlying171
 a50 := Tryz.isAgg171
 z50 := Tryz.sizeOf171
 v50 := Tryz.zeroValue171
 t53 := Tryz.underlying144
 a53 := Tryz.isAgg144
 z53 := Tryz.sizeOf144
 v53 := Tryz.zeroValue144
 t55 := Tryz.underlying175
 a55 := Tryz.isAgg175
 z55 := Tryz.sizeOf175
 v55 := Tryz.zeroValue175
 t66 := Tryz.underlying181
 a66 := Tryz.isAgg181
 z66 := Tryz.sizeOf181
 v66 := Tryz.zeroValue181
 t70 := Tryz.underlying185
 a70 := Tryz.isAgg185
 z70 := Tryz.sizeOf185
 v70 := Tryz.zeroValue185
 t76 := Tryz.underlying188
 a76 := Tryz.isAgg188
 z76 := Tryz.sizeOf188
 v76 := Tryz.zeroValue188
 t77 := Tryz.underlying189
 a77 := Tryz.isAgg189
 z77 := Tryz.sizeOf189
 v77 := Tryz.zeroValue189 }
end Go.Proofs
namespace Go.EV
open Go.Proofs
def Bv (M : Aa) : Type := { p : Value × List Int // SlC M 1 ei p.1 p.2 ∧ p.2.length < 1000000 }
instance (M : Aa) : Inhabited (Bv M) := ⟨⟨(.slice none 0 0, []), ⟨none, 0, rfl, lA5 _, .inl ⟨rfl, rfl⟩⟩, by decide⟩⟩
def Bv.v {M : Aa} (r : Bv M) : Value := r.1.1
def Bv.xs {M : Aa} (r : Bv M) : List Int := r.1.2
theorem Bv.one {M : Aa} (r : Bv M) : r.v.oneCell' = true := by
 obtain ⟨⟨v, xs⟩, ⟨a, c, h, _⟩, _⟩ := r
 show Value.oneCell' v = true
 dsimp only at h; rw [h]; rfl
theorem Bh1 (M : Aa) : Go.Sort.SWO (ltOf fun x y : Bv M => C7 x.xs y.xs) where
 irrefl x := by simp [ltOf, Ck]
 trans x y z h1 h2 := by
  simp only [ltOf, decide_eq_true_eq] at *
  exact Cr _ _ _ h1 h2
 ntrans x y z h1 h2 := by
  simp only [ltOf, decide_eq_false_iff_not] at *
  intro h3
  rcases Et x.xs y.xs with h | h | h
  ·exact h1 h
  ·rw [h] at h3; exact h2 h3
  ·exact h2 (Cr _ _ _ h h3)
section
variable {M : Aa}
theorem Aj3 {b : Nat} {T : TypeId} {rs : List (Bv M)} {sp : List Value} {c : Nat} (hl : rs.length < 1000000000000) :
  Con Tryz.prog 87 #[.slice (some ⟨b, 0, none⟩) rs.length c, .func (.func 88) #[] #[]] M [(b, Cl T (rs.map Bv.v ++ sp))] fun v M' G' =>
   v = .tuple #[] ∧ M' = M ∧ ∃ ys : List (Bv M), ys.Perm rs ∧ ys.Pairwise (fun x y => ¬ C7 y.xs x.xs < 0) ∧ G' = [(b, Cl T (ys.map Bv.v ++ sp))] := by
 have h := Con.sort (P := Tryz.prog) Tryz.sortRows (M := M) Bv.v Bv.one (fun x y => C7 x.xs y.xs) (Bh1 M) (g := 88) rfl
  (fun x y => Uz x.xs y.xs x.v y.v x.2.1.sl y.2.1.sl x.2.2 y.2.2) (b := b) (T := T) (xs := rs) (sp := sp) (c := c) (by omega)
 refine ⟨h.1, fun w hs => (h.2 w hs).mono ?_⟩
 rintro e w' ⟨v, he, M', G', ah, rfl, rfl, ys, h1, h2, h3⟩
 refine ⟨_, he, _, G', ah, rfl, rfl, ys, h1, h2.imp fun {x y} h => by simpa [ltOf] using h, h3⟩
end
theorem Bv.slice {M : Aa} (r : Bv M) : ∃ a n c, r.v = .slice a n c := by
 obtain ⟨⟨v, xs⟩, ⟨a, c, h, _⟩, _⟩ := r
 exact ⟨a, xs.length, c, h⟩
section
variable {M : Aa}
def Lu (l : List (Bv M)) : Nat → List (Bv M)
 | 0 => []
 | n + 1 => Lu l n ++ (if n = 0 ∨ (l[n]!).xs ≠ (l[n - 1]!).xs then [l[n]!] else [])
def Ab6 (l : List (Bv M)) : List (Bv M) := Lu l l.length
theorem Bh2 {α : Type} (f : α → Value) (xs : List α) (sp : List Value) {i : Nat} (hi : i < xs.length) (x : α) : (xs.map f ++ sp).take i ++ (f x :: (xs.map f ++ sp).drop (i + 1)) = (xs.set i x).map f ++ sp := by
 rw [lCx (by rw [lA1]; omega), lCw (by rw [lA1]; omega), ← lAp, ← lAc, Ap f xs hi x]
theorem H9 {l : List (Bv M)} {i : Nat} (h : i < l.length) : l[i]! = l[i] := getElem!_pos l i h
theorem U2 {b : Nat} {T : TypeId} {l : List (Bv M)} {sp : List Value} {c : Nat} (hl : l.length < 1000000000000) (hc : c = l.length + sp.length) :
  Con Tryz.prog 89 #[.slice (some ⟨b, 0, none⟩) l.length c, .func (.func 41) #[] #[]] M [(b, Cl T (l.map Bv.v ++ sp))] fun v M' G' =>
   M' = M ∧ ∃ sp', v = .slice (some ⟨b, 0, none⟩) (Ab6 l).length c ∧ G' = [(b, Cl T ((Ab6 l).map Bv.v ++ sp'))] ∧ c = (Ab6 l).length + sp'.length := by
 have jv : ∀ (x y : Bv M) (G : Own), Aq Tryz.prog 41 #[x.v, y.v] (M.add G) (vb (decide (x.xs = y.xs))) := fun x y G =>
  Rt x.xs y.xs x.v y.v (x.2.1.sl.mono (JB _ _)) (y.2.1.sl.mono (JB _ _)) x.2.2 y.2.2
 refine Con.enter Q112_ok (args := [.slice (some ⟨b, 0, none⟩) l.length c, .func (.func 41) #[] #[]]) (by simp [Bj0]) fun w0 => ?_
 simp only [Bj0, A9]
 repeat' first | refine st ?_ | refine rg ?_ | (refine cX ?_ ?_ <;> intro h <;> try exact Ah h) | exact ⟨⟩ | fail
 ·have aS : Ab6 l = l := by
   rcases l with _ | ⟨x, _ | ⟨y, l⟩⟩
   ·rfl
   ·simp [Ab6, Lu]
   ·exfalso; simp at h; omega
  (refine rt Q112_ok ?_; try with_reducible exact ⟨⟩)
  rw [aS]; first | exact ⟨rfl, sp, rfl, hc⟩ | exact ⟨sp, rfl, hc⟩ | exact ⟨sp, hc⟩ | exact ⟨sp, c, rfl, rfl, hc⟩ | exact ⟨rfl, sp, c, rfl, rfl, hc⟩ | exact ⟨sp, c, rfl, hc⟩ | fail
 ·have h2 : 2 ≤ l.length := by omega
  refine JC (fun i : Nat => ([(0, .slice (some ⟨b, 0, none⟩) l.length c), (1, .func (.func 41) #[] #[]), (5, vi i)], M, [(b, Cl T (l.map Bv.v ++ sp))])) (fun i => 1 ≤ i ∧ i ≤ l.length ∧ Lu l i = l.take i) (fun i => l.length - i) 1 rfl ⟨lA5 _, by omega, by rw [Lu, Lu, if_pos (.inl rfl), H9 (by omega), lAj]; cases l with | nil => simp at h2 | cons x l => rfl⟩ ?env1 (lA0 _) ?_
  case env1 =>
   exact eE
  rintro i ⟨sT, hi, lz⟩ ih
  dsimp only at sT hi lz ih ⊢
  repeat' first | refine st ?_ | refine rg ?_ | (refine cX ?_ ?_ <;> intro h <;> try exact Ah h) | exact ⟨⟩ | fail
  ·have aC : i < l.length := by omega
   have aV : IntKind.i64.wrap ((i : Int) - 1) = ((i - 1 : Nat) : Int) := by rw [w64 (by omega) (by omega)]; omega
   have aT := Yg (M := M) (G := [(b, Cl T (l.map Bv.v ++ sp))]) (b := b) (T := T) (f := Bv.v) (xs := l) (sp := sp) aC
   have aX := Yg (M := M) (G := [(b, Cl T (l.map Bv.v ++ sp))]) (b := b) (T := T) (f := Bv.v) (xs := l) (sp := sp) (i := i - 1) (by omega)
   obtain ⟨a1, n1, c1, e1⟩ := (l[i]).slice
   obtain ⟨a2, n2, c2, e2⟩ := (l[i - 1]'(by omega)).slice
   have hq := jv l[i] (l[i - 1]'(by omega))
   rw [e1, e2] at hq
   rw [e1] at aT
   rw [e2] at aX
   have iU : Lu l (i + 1) = Lu l i ++ (if (l[i]).xs ≠ (l[i - 1]'(by omega)).xs then [l[i]] else []) := by
    rw [Lu, H9 aC, H9 (show i - 1 < l.length by omega)]
    simp only [show ¬ i = 0 by omega, false_or]
   refine EV.any (t := Yd) [(b, Cl T (l.map Bv.v ++ sp))] (lA0 _) ?_
   simp only [Aj, As, Ak, Au, reduceIte, Nat.reduceEqDiff]
   by_cases aw : (l[i]).xs = (l[i - 1]'(by omega)).xs
   ·have hd : decide ((l[i]).xs = (l[i - 1]'(by omega)).xs) = true := decide_eq_true aw
    rw [hd] at hq
    rw [if_neg (by simpa using aw), lAa, lz] at iU
    refine Dh5 (t := Yd) rfl (fun lq tq aD aB => ?_)
    repeat' first | ((first | refine zo (fun lq aD => ?_) | refine zl ?_ | fail); (repeat first | refine nz ?_ | simp only [aV])) | refine zq (fun lq tq aD aB => ?_) | ((first | refine Aq.call (hq _) ?_ | refine lAb _ (lAb _ (lAb _ (lAd (aT) ?_))) | refine lAb _ (lAb _ (lAb _ (lAd (aX) ?_))) | fail); (repeat first | refine nz ?_ | simp only [aV])) | (refine ZB (fun tq aB => ?_) (fun tq aB => ?_) <;> (repeat first | refine nz ?_ | simp only [aV])) | exact zn | refine zf ?_ | refine ZF ?_ | fail
    repeat' first | refine st ?_ | refine rg ?_ | (refine cX ?_ ?_ <;> intro h <;> try exact Ah h) | exact ⟨⟩ | fail
    simp only [lC9, C2]
    refine ⟨i, rfl, by omega, by omega, Or.inr rfl, ?_⟩
    obtain ⟨ro, bQ, ero⟩ := Sv (wb := b) (wo := 0) (n := l.length) (c := c) (i := i) (by omega)
    have iF : ro = i := by have := bQ aC; omega
    subst iF
    rw [ero]
    clear bQ ero
    repeat' first | refine st ?_ | refine rg ?_ | exact ⟨⟩ | fail
    have kj : (Lu l (ro + 1)).length = ro := by rw [iU, lC4]; omega
    refine JC (fun x : Nat × List (Bv M) => ([(0, .slice (some ⟨b, 0, none⟩) l.length c), (1, .func (.func 41) #[] #[]), (5, vi (Lu l (ro + x.1)).length), (6, .slice (some ⟨b, ro, none⟩) (l.length - ro) (c - ro)), (7, vi x.1)], M, [(b, Cl T (x.2.map Bv.v ++ sp))]))
     (fun x => 1 ≤ x.1 ∧ ro + x.1 ≤ l.length ∧ x.2.length = l.length ∧ x.2.take (Lu l (ro + x.1)).length = Lu l (ro + x.1) ∧ (Lu l (ro + x.1)).length + 1 ≤ ro + x.1 ∧ ∀ j, ro + x.1 ≤ j + 1 → x.2[j]? = l[j]?) (fun x => l.length - (ro + x.1)) (1, l) rfl ⟨lA5 _, by dsimp only; omega, rfl, by dsimp only; rw [kj, iU], by dsimp only; omega, fun j _ => rfl⟩ ?env2 (lA0 _) ?_
    case env2 =>
     simp only [kj]
     exact eE
    rintro ⟨k, C⟩ ⟨cM, hk, ot, ox, u5, nR⟩ ih2
    dsimp only at cM hk ot ox u5 nR ih2 ⊢
    repeat' first | refine st ?_ | refine rg ?_ | (refine cX ?_ ?_ <;> intro h <;> try exact Ah h) | exact ⟨⟩ | fail
    ·have af : ro + k < l.length := by omega
     have g1 : C[ro + k]'(by omega) = l[ro + k] := by
      have := nR (ro + k) (by omega)
      rw [lA2 (by omega), lA2 af] at this
      exact Option.some.inj this
     have g2 : C[ro + (k - 1)]'(by omega) = l[ro + (k - 1)]'(by omega) := by
      have := nR (ro + (k - 1)) (by omega)
      rw [lA2 (by omega), lA2 (by omega)] at this
      exact Option.some.inj this
     have dO : IntKind.i64.wrap ((k : Int) - 1) = ((k - 1 : Nat) : Int) := by rw [w64 (by omega) (by omega)]; omega
     have dP := Yg (M := M) (G := [(b, Cl T (C.map Bv.v ++ sp))]) (b := b) (T := T) (f := Bv.v) (xs := C) (sp := sp) (i := ro + k) (by omega)
     have im := Yg (M := M) (G := [(b, Cl T (C.map Bv.v ++ sp))]) (b := b) (T := T) (f := Bv.v) (xs := C) (sp := sp) (i := ro + (k - 1)) (by omega)
     rw [g1] at dP
     rw [g2] at im
     obtain ⟨a3, n3, c3, e3⟩ := (l[ro + k]).slice
     obtain ⟨a4, n4, c4, e4⟩ := (l[ro + (k - 1)]'(by omega)).slice
     have lJ := jv l[ro + k] (l[ro + (k - 1)]'(by omega))
     rw [e3, e4] at lJ
     rw [e3] at dP
     rw [e4] at im
     have fZ : Lu l (ro + (k + 1)) = Lu l (ro + k) ++ (if (l[ro + k]).xs ≠ (l[ro + (k - 1)]'(by omega)).xs then [l[ro + k]] else []) := by
      rw [← lDa, Lu, H9 af, H9 (show ro + k - 1 < l.length by omega)]
      simp only [show ¬ ro + k = 0 by omega, false_or, show ro + k - 1 = ro + (k - 1) by omega]
     refine EV.any (t := Ye) [(b, Cl T (C.map Bv.v ++ sp))] (lA0 _) ?_
     simp only [Aj, As, Ak, Au, reduceIte, Nat.reduceEqDiff]
     by_cases eJ : (l[ro + k]).xs = (l[ro + (k - 1)]'(by omega)).xs
     ·have fR : decide ((l[ro + k]).xs = (l[ro + (k - 1)]'(by omega)).xs) = true := decide_eq_true eJ
      rw [fR] at lJ
      rw [if_neg (by simpa using eJ), lAa] at fZ
      refine Dh5 (t := Ye) rfl (fun lq tq aD aB => ?_)
      repeat' first | ((first | refine zo (fun lq aD => ?_) | refine zl ?_ | fail); (repeat first | refine nz ?_ | simp only [dO])) | refine zq (fun lq tq aD aB => ?_) | ((first | refine Aq.call (lJ _) ?_ | refine lAb _ (lAb _ (lAb _ (lAd (dP) ?_))) | refine lAb _ (lAb _ (lAb _ (lAd (im) ?_))) | fail); (repeat first | refine nz ?_ | simp only [dO])) | (refine ZB (fun tq aB => ?_) (fun tq aB => ?_) <;> (repeat first | refine nz ?_ | simp only [dO])) | exact zn | refine zf ?_ | refine ZF ?_ | fail
      repeat' first | refine su ?_ | refine rg ?_ | (refine cX ?_ ?_ <;> intro h <;> try exact Ah h) | exact ⟨⟩ | fail
      refine JA (ih2 (k + 1, C) ⟨by dsimp only; omega, by dsimp only; omega, ot, by dsimp only; rw [fZ]; exact ox, by dsimp only; rw [fZ]; omega, fun j hj => nR j (by dsimp only at hj; omega)⟩ (by dsimp only; omega)) ?_ (lA0 _)
      simp only [fZ]
      exact eE
     ·have fR : decide ((l[ro + k]).xs = (l[ro + (k - 1)]'(by omega)).xs) = false := decide_eq_false eJ
      rw [fR] at lJ
      rw [if_pos eJ] at fZ
      refine Dh5 (t := Ye) rfl (fun lq tq aD aB => ?_)
      repeat' first | ((first | refine zo (fun lq aD => ?_) | refine zl ?_ | fail); (repeat first | refine nz ?_ | simp only [dO])) | refine zq (fun lq tq aD aB => ?_) | ((first | refine Aq.call (lJ _) ?_ | refine lAb _ (lAb _ (lAb _ (lAd (dP) ?_))) | refine lAb _ (lAb _ (lAb _ (lAd (im) ?_))) | fail); (repeat first | refine nz ?_ | simp only [dO])) | (refine ZB (fun tq aB => ?_) (fun tq aB => ?_) <;> (repeat first | refine nz ?_ | simp only [dO])) | exact zn | refine zf ?_ | refine ZF ?_ | fail
      repeat' first | refine st ?_ | refine rg ?_ | (refine cX ?_ ?_ <;> intro h <;> try exact Ah h) | refine ZF ?_ | (refine lAb _ (lAb _ (lAb _ (lAd (by assumption) ?_))); try refine nx ?_) | (refine xw ?_; refine nx ?_) | exact ⟨⟩ | fail
      refine ⟨by rw [lA4, lA1]; omega, ?_⟩
      rw [← e3, Bh2 Bv.v C sp (show (Lu l (ro + k)).length < C.length by omega)]
      have lK : (Lu l (ro + (k + 1))).length = (Lu l (ro + k)).length + 1 := by rw [fZ, lA4, lCd]
      repeat' first | refine su ?_ | refine rg ?_ | exact ⟨⟩ | fail
      refine JA (ih2 (k + 1, C.set (Lu l (ro + k)).length l[ro + k]) ⟨by dsimp only; omega, by dsimp only; omega, by rw [lBl]; exact ot, ?_, by dsimp only; rw [lK]; omega, fun j hj => ?_⟩ (by dsimp only; omega)) ?_ (lA0 _)
      ·dsimp only
       rw [lK, fZ, lA7 (by rw [lBl]; omega), lDj, List.take_set, List.set_eq_of_length_le (by rw [lC4]; omega), ox]
      ·dsimp only at hj ⊢
       rw [List.getElem?_set_ne (by omega)]; exact nR j (by omega)
      ·simp only [lK]
       exact eE
    ·have eH : ro + k = l.length := by omega
     have u6 : Ab6 l = Lu l (ro + k) := by rw [Ab6, eH]
     generalize hm : Lu l (ro + k) = m at *
     simp only [lC9, C2]
     refine ⟨m.length, rfl, by omega, by omega, Or.inr rfl, ?_⟩
     obtain ⟨r2, lB, er2⟩ := Sv (wb := b) (wo := 0) (n := l.length) (c := c) (i := m.length) (by omega)
     have dP : r2 = m.length := by have := lB (by omega); omega
     subst dP
     rw [er2]
     refine Or.inr ⟨b, m.length, rfl, by omega, T, C.map Bv.v ++ sp, [], [], rfl, by rw [lA4, lA1]; omega, ?_⟩
     have u7 : (C.map Bv.v ++ sp).take m.length = m.map Bv.v := by
      rw [lCx (by rw [lA1]; omega), ← List.map_take, ox]
     rw [u7]
     have nS : (C.map Bv.v ++ sp).length = l.length + sp.length := by rw [lA4, lA1, ot]
     generalize bG : (List.replicate (l.length - m.length) (Value.slice none 0 0) ++ List.drop (m.length + (List.replicate (l.length - m.length) (Value.slice none 0 0)).length) (C.map Bv.v ++ sp)) = sp'
     have gd : c = m.length + sp'.length := by
      rw [← bG, lA4, lDt, nS, lDe]; omega
     rw [lAj]
     repeat' first | refine st ?_ | refine rg ?_ | exact ⟨⟩ | fail
     simp only [lC9, C2]
     refine ⟨m.length, rfl, by omega, Or.inl rfl, ?_⟩
     rw [Bg3]
     repeat' first | fail
     (refine rt Q112_ok ?_; try with_reducible exact ⟨⟩)
     rw [u6]; first | exact ⟨rfl, sp', rfl, gd⟩ | exact ⟨sp', rfl, gd⟩ | exact ⟨sp', gd⟩ | exact ⟨sp', c, rfl, rfl, gd⟩ | exact ⟨rfl, sp', c, rfl, rfl, gd⟩ | exact ⟨sp', c, rfl, gd⟩ | fail
   ·have hd : decide ((l[i]).xs = (l[i - 1]'(by omega)).xs) = false := decide_eq_false aw
    rw [hd] at hq
    rw [if_pos aw, lz, ← lA7 aC] at iU
    refine Dh5 (t := Yd) rfl (fun lq tq aD aB => ?_)
    repeat' first | ((first | refine zo (fun lq aD => ?_) | refine zl ?_ | fail); (repeat first | refine nz ?_ | simp only [aV])) | refine zq (fun lq tq aD aB => ?_) | ((first | refine Aq.call (hq _) ?_ | refine lAb _ (lAb _ (lAb _ (lAd (aT) ?_))) | refine lAb _ (lAb _ (lAb _ (lAd (aX) ?_))) | fail); (repeat first | refine nz ?_ | simp only [aV])) | (refine ZB (fun tq aB => ?_) (fun tq aB => ?_) <;> (repeat first | refine nz ?_ | simp only [aV])) | exact zn | refine zf ?_ | refine ZF ?_ | fail
    repeat' first | refine su ?_ | refine rg ?_ | (refine cX ?_ ?_ <;> intro h <;> try exact Ah h) | exact ⟨⟩ | fail
    refine JA (ih (i + 1) ⟨by omega, by omega, iU⟩ (by omega)) ?_ (lA0 _)
    exact eE
  ·have bO : i = l.length := by omega
   subst bO
   have aS : Ab6 l = l := by rw [Ab6, lz, lB2]
   (refine rt Q112_ok ?_; try with_reducible exact ⟨⟩)
   rw [aS]; first | exact ⟨rfl, sp, rfl, hc⟩ | exact ⟨sp, rfl, hc⟩ | exact ⟨sp, hc⟩ | exact ⟨sp, c, rfl, rfl, hc⟩ | exact ⟨rfl, sp, c, rfl, rfl, hc⟩ | exact ⟨sp, c, rfl, hc⟩ | fail
end
section
variable {M : Aa}
theorem U3 (l : List (Bv M)) (hs : l.Pairwise (fun x y => ¬ C7 y.xs x.xs < 0)) : ∀ n, n ≤ l.length →
  (Lu l n).Pairwise (fun x y => C7 x.xs y.xs < 0) ∧ (∀ x, x ∈ (Lu l n).map Bv.xs ↔ x ∈ (l.take n).map Bv.xs) ∧ (0 < n → ∃ y, (Lu l n).getLast? = some y ∧ y.xs = (l[n - 1]!).xs)
 | 0, _ => ⟨List.Pairwise.nil, fun x => by simp [Lu], fun h => absurd h (Nat.lt_irrefl _)⟩
 | n + 1, hn => by
  obtain ⟨h1, h2, h3⟩ := U3 l hs n (by omega)
  have kU : n < l.length := by omega
  have ht : l.take (n + 1) = l.take n ++ [l[n]] := lA7 kU
  rw [Lu, H9 kU, ht, lEv, H9 kU]
  by_cases hc : n = 0 ∨ (l[n]).xs ≠ (l[n - 1]!).xs
  ·rw [if_pos hc]
   refine ⟨?_, fun x => ?_, fun _ => ⟨l[n], by simp, rfl⟩⟩
   ·rw [List.pairwise_append]
    refine ⟨h1, List.pairwise_singleton .., fun x hx y hy => ?_⟩
    rw [lAi] at hy
    subst hy
    have u8 : x.xs ∈ (l.take n).map Bv.xs := (h2 _).1 (lAk.2 ⟨x, hx, rfl⟩)
    obtain ⟨x', dj, cV⟩ := lAk.1 u8
    obtain ⟨j, hj, rfl⟩ := lBf dj
    have jJ : j < n := by simp at hj; omega
    rw [lEk] at cV
    have hne : n ≠ 0 := by omega
    have jw : (l[n]).xs ≠ (l[n - 1]!).xs := hc.resolve_left hne
    rw [H9 (show n - 1 < l.length by omega)] at jw
    rw [← cV]
    have hp := lBc.1 hs
    rcases Et (l[j]'(by omega)).xs (l[n]).xs with h | h | h
    ·exact h
    ·exfalso
     have ha : ¬ C7 (l[n]).xs (l[n - 1]'(by omega)).xs < 0 := hp (n - 1) n (by omega) kU (by omega)
     have hb : ¬ C7 (l[n - 1]'(by omega)).xs (l[j]'(by omega)).xs < 0 := by
      by_cases u9 : j = n - 1
      ·subst u9; rw [Ck]; omega
      ·exact hp j (n - 1) (by omega) (by omega) (by omega)
     rcases Et (l[n]).xs (l[n - 1]'(by omega)).xs with k | k | k
     ·exact ha k
     ·exact jw k
     ·rw [← h] at k; exact hb k
    ·exact absurd h (hp j n (by omega) kU jJ)
   ·rw [lAv, lAv, lB7, lB7, h2 x]
  ·rw [if_neg hc, lAa]
   have gH : 0 < n := by omega
   have aw : (l[n]).xs = (l[n - 1]!).xs := by
    apply lBe; intro h; exact hc (.inr h)
   refine ⟨h1, fun x => ?_, fun _ => ?_⟩
   ·rw [h2 x, lAv, lB7]
    constructor
    ·intro h; exact .inl h
    ·rintro (h | h)
     ·exact h
     ·simp only [lE0, lAi] at h
      rw [h, aw, H9 (show n - 1 < l.length by omega)]
      exact lAk.2 ⟨_, List.mem_take_iff_getElem.2 ⟨n - 1, by omega, rfl⟩, rfl⟩
   ·obtain ⟨y, hy, ud⟩ := h3 gH
    exact ⟨y, hy, by rw [ud, aw]⟩
theorem Aj4 (l : List (Bv M)) (hs : l.Pairwise (fun x y => ¬ C7 y.xs x.xs < 0)) :
  (Ab6 l).Pairwise (fun x y => C7 x.xs y.xs < 0) ∧ ∀ x, x ∈ (Ab6 l).map Bv.xs ↔ x ∈ l.map Bv.xs := by
 obtain ⟨h1, h2, _⟩ := U3 l hs l.length (lA5 _)
 exact ⟨h1, fun x => by rw [← lB2 (l := l)]; simpa [Ab6] using h2 x⟩
theorem Ld {b cap : Nat} {T : TypeId} {sp : List Value} (rs : List (Bv M)) (hl : rs.length < 1000000) (hc : cap = rs.length + sp.length) :
  Con Tryz.prog 36 #[.slice (some ⟨b, 0, none⟩) rs.length cap] M [(b, Cl T (rs.map Bv.v ++ sp))] fun v M' G' =>
   M' = M ∧ ∃ (ys : List (Bv M)) (sp' : List Value), v = .slice (some ⟨b, 0, none⟩) ys.length cap ∧ G' = [(b, Cl T (ys.map Bv.v ++ sp'))] ∧ cap = ys.length + sp'.length ∧
    ys.Pairwise (fun x y => C7 x.xs y.xs < 0) ∧ ∀ x, x ∈ ys.map Bv.xs ↔ x ∈ rs.map Bv.xs := by
 refine Con.enter Q4_ok (args := [.slice (some ⟨b, 0, none⟩) rs.length cap]) (by simp [Q4]) fun w0 => ?_
 simp only [Q4, A9]
 repeat' first | refine st ?_ | refine rg ?_ | exact ⟨⟩ | fail
 refine Con.run (Aj3 (b := b) (T := T) (rs := rs) (sp := sp) (c := cap) (by omega)) ?_
 rintro v M' G' hM ⟨rfl, rfl, ys, hp, hs, rfl⟩
 have qc := hp.length_eq
 repeat' first | refine st ?_ | refine rg ?_ | exact ⟨⟩ | fail
 rw [← qc]
 refine Con.run (U2 (b := b) (T := T) (l := ys) (sp := sp) (c := cap) (by omega) (by omega)) ?_
 rintro v M2 G2 bS ⟨rfl, sp', rfl, rfl, cJ⟩
 repeat' first | fail
 (refine rt Q4_ok ?_; try with_reducible exact ⟨⟩)
 obtain ⟨k1, k2⟩ := Aj4 ys hs
 exact ⟨Ab6 ys, rfl, sp', rfl, cJ, k1, fun x => by rw [k2 x]; exact (hp.map Bv.xs).mem_iff⟩
theorem Pr (fv : Value) : Con Tryz.prog 89 #[.slice none 0 0, fv] M [] fun v M' G' => M' = M ∧ v = .slice none 0 0 ∧ G' = [] := by
 refine Con.enter Q112_ok (args := [.slice none 0 0, fv]) (by simp [Bj0]) fun w0 => ?_
 simp only [Bj0, A9]
 repeat' first | refine st ?_ | refine rg ?_ | (refine cX ?_ ?_ <;> intro h <;> try exact Ah h) | exact ⟨⟩ | fail
 (refine rt Q112_ok ?_; try with_reducible exact ⟨⟩)
theorem N1 : Con Tryz.prog 36 #[.slice none 0 0] M [] fun v M' G' => v = .slice none 0 0 ∧ G' = [] := by
 refine Con.enter Q4_ok (args := [.slice none 0 0]) (by simp [Q4]) fun w0 => ?_
 simp only [Q4, A9]
 repeat' first | refine st ?_ | refine rg ?_ | exact ⟨⟩ | fail
 refine Con.run (G := []) (Con.sortNone (P := Tryz.prog) (ρ := Tryz.sortRows_ren) (M := M) (by have L := Tryz.sortRows; exact { L with }) rfl none 0 _) ?_
 rintro v M' G' hM ⟨rfl, rfl⟩
 repeat' first | refine st ?_ | refine rg ?_ | exact ⟨⟩ | fail
 refine Con.run (Pr _) ?_
 rintro v M2 G2 bS ⟨rfl, rfl, rfl⟩
 repeat' first | fail
 (refine rt Q4_ok ?_; try with_reducible exact ⟨⟩)
end
def Bv.up {M M' : Aa} (h : M.le M') (r : Bv M) : Bv M' := ⟨r.1, r.2.1.mono h, r.2.2⟩
theorem Bv.up_v {M M' : Aa} (h : M.le M') (l : List (Bv M)) : (l.map (Bv.up h)).map Bv.v = l.map Bv.v := by rw [lE5]; rfl
theorem Bv.up_xs {M M' : Aa} (h : M.le M') (l : List (Bv M)) : (l.map (Bv.up h)).map Bv.xs = l.map Bv.xs := by rw [lE5]; rfl
section
variable {M : Aa}
def Dl6 (p : List Ev) (bx : Nat) (os : List (List Int)) (M : Aa) (G : Own) : Prop :=
 ∃ (rs : List (Bv M)) (ov : Vec), G = (bx, Cl 26 [osv ov rs.length]) :: osg 34 ov (rs.map Bv.v) ∧ Ey 1 ov rs.length (rs.map Bv.v) ∧ rs.length ≤ 421875 ∧ (∀ x, x ∈ rs.map Bv.xs ↔ x ∈ os) ∧ ∀ x, x ∈ os → Pq p x
theorem Dl6.mono {p : List Ev} {bx : Nat} {os : List (List Int)} {M M' : Aa} {G : Own} (aY : M.le M') (h : Dl6 p bx os M G) : Dl6 p bx os M' G := by
 obtain ⟨rs, ov, h1, h2, h3, h4⟩ := h
 refine ⟨rs.map (Bv.up aY), ov, ?_, ?_, by rw [lA1]; exact h3, by rw [Bv.up_xs]; exact h4.1, h4.2⟩
 ·rw [Bv.up_v, lA1]; exact h1
 ·rw [Bv.up_v, lA1]; exact h2
theorem Tf (ts : List (List OpV)) (s : Value) (hs : Dv M 5 Bd s ts) (hb : Sized ts) :
  Con Tryz.prog 11 #[.agg #[s]] M [] fun v M' _ => (A1 ts ≠ 0 ∧ v = .tuple #[.slice none 0 0, vi (A1 ts)]) ∨ (A1 ts = 0 ∧ ∃ s' outs, v = .tuple #[s', vi 0] ∧ Ad1 (Ac ts) outs ∧ Dj M' 1 ei s' outs) := by
 have aM := hs
 obtain ⟨a, c, vs, rfl, hl, aH, hk⟩ := hs
 refine Con.enter Q3_ok (args := [.agg #[.slice a ts.length c]]) (by simp [Q3]) fun w0 => ?_
 simp only [Q3, A9]
 repeat' first | refine st ?_ | refine rg ?_ | ((first | with_reducible intro b | refine xrA rfl ?_ | fail); try refine nx ?_) | exact ⟨⟩ | fail
 refine Con.callS (G1 := []) (Ah4 ts _ aM hb) ?_
 rintro v M1 G1 bv ⟨rfl, (⟨hne, rfl⟩ | ⟨aK, s', rfl, bz⟩)⟩
 ·simp only [wpS, wpA, Js, push_cast, lB8, reduceIte, Nat.reduceEqDiff, reduceCtorEq, Nat.reduceAdd, Nat.reduceSub, Nat.reduceMul, Int.reduceToNat, Nat.reduceLeDiff]
  repeat' first | refine st ?_ | (refine EV.reg ?_; (conv => (arg 2; whnf)); (repeat first | refine nx ?_ | simp only [hne])) | (refine cX ?_ ?_ <;> intro h <;> try exact Ah h) | (with_reducible intro b; (repeat first | refine nx ?_ | simp only [hne])) | (refine xw ?_; (repeat first | refine nx ?_ | simp only [hne])) | fail
  (refine rt Q3_ok ?_; try with_reducible exact ⟨⟩)
  first | exact .inl ⟨hne, rfl⟩ | exact .inl hne | exact hne | simp [hne] | fail
 ·have hp := He aK
  have fu := bz
  obtain ⟨pa, pc, rfl, an⟩ := fu
  (refine nx ?_; try with_reducible exact ⟨⟩)
  repeat' first | refine st ?_ | refine rg ?_ | (refine cX ?_ ?_ <;> intro h <;> try exact Ah h) | ((first | with_reducible intro b | refine xsA rfl ?_ | fail); try refine nx ?_) | (refine xw ?_; refine nx ?_) | exact ⟨⟩ | fail
  refine Con.callS (G1 := []) (R1 _ hp bz) ?_
  rintro v M2 G2 bS ⟨g2, caps2, rfl, iP⟩
  repeat' first | refine su ?_ | fail
  rename_i lb pb
  obtain ⟨ab, rfl⟩ : ∃ ab, ab = b := ⟨_, rfl⟩
  refine JG [(ab, Cl 26 [.slice none 0 0])] ?_
  generalize hR : M2.add _ = N
  have aA : M2.le N := hR ▸ JB _ _
  have iS : rd N pb 0 1 [.slice pa (Ac ts).length pc] := hR ▸ Bm (T := 74) (cs := [.slice pa (Ac ts).length pc]) (by simp) rfl (by simp)
  clear hR
  have lL := bz.mono (Aa.le_trans bS aA)
  have lM := iP.mono aA
  refine JE (ρ' := [(4, pv pb 0), (6, pv ab 0), (17, .func (.func g2) #[] caps2)]) (G' := [(ab, Cl 26 [.slice none 0 0])]) ?_ ?env1
  case env1 =>
   exact eE
  refine EV.overM rfl rfl rfl lM (fun d es M G' => ∃ G0, G'.Perm ((d, Obj.deferred (some [])) :: G0) ∧ Dl6 (Ac ts) ab (es.map (Ar (Ac ts))) M G0)
   (fun d c M G' => False) ?_ ?_ ?_ ?_ ?_ ?_
  ·rintro d es M4 M5 G4 aY ⟨G0, h1, h2⟩
   exact ⟨G0, h1, h2.mono aY⟩
  ·rintro d c M4 M5 G4 aY h
   exact h
  ·intro d
   exact ⟨_, lAf _, [], none, rfl, ⟨rfl, rfl⟩, lA8 _, fun x => by simp, fun x h => nomatch h⟩
  ·intro l d r aT aX es e v M4 G4 w1 F he bq ⟨G0, d8, rs, ov, dq, aQ, aG, aJ, jx⟩ d7
   subst dq
   refine JF ?_ (lCi _ d8)
   have hx := execsP_ok hp he
   have fE : IsX M4 v e := d7
   obtain ⟨xf, xd, xo, xn, rfl, ⟨fa, fc, rfl, _⟩, ⟨da, dc, rfl, _⟩, ⟨oa, oc, ovs, rfl, _, _, _⟩, ⟨na, nc, rfl, _⟩⟩ := d7
   repeat' first | refine rg ?_ | (with_reducible intro b; try refine nx ?_) | (refine xw ?_; refine nx ?_) | exact ⟨⟩ | fail
   refine EV.frz [(b, Cl 45 [.slice fa e.frm.length fc, .slice da e.dn.length dc, .slice oa e.ord.length oc, .slice na e.fen.length nc])] ?_
   generalize hR : M4.add _ = N4
   have cC : M4.le N4 := hR ▸ JB _ _
   have bX : rd N4 b 0 4 [.slice fa e.frm.length fc, .slice da e.dn.length dc, .slice oa e.ord.length oc, .slice na e.fen.length nc] := hR ▸ An 0 rfl rfl (by simp)
   clear hR
   refine JQ aT ?_
   refine EV.block (EV.seq ?_)
   have lN := iS.mono (Aa.le_trans bq cC)
   have mA := lL.mono (Aa.le_trans bq cC)
   have aZ := fun G => Nb (M := N4.add G) (Ac ts) _ (mA.mono (JB _ _)) hp e _ (fE.mono (Aa.le_trans cC (JB _ _))) hx
   refine EV.any (t := Fr7) [(ab, Cl 26 [osv ov rs.length])] (lAq _ (lAq _ (lAg _ (lAe _)))) ?_
   simp only [Aj, As, Ak, Au, reduceIte, Nat.reduceEqDiff]
   repeat' first | ((first | refine zo (fun lq aD => ?_) | refine zl ?_ | fail); try refine nz ?_) | refine zq (fun lq tq aD aB => ?_) | ((with_reducible refine JK (aZ _) ?_) ;  rintro v1 M1 G1 ⟨o1, rfl, bU, rfl⟩; try refine nz ?_) | (refine ZA (fun tq aB => ?_) (fun tq aB => ?_) <;> try refine nz ?_) | (refine ZB (fun tq aB => ?_) (fun tq aB => ?_) <;> try refine nz ?_) | exact zn | ((first | with_reducible intro b | refine xm ?_ | refine xn ?_ | refine xsA rfl ?_ | refine lAd (Aa.le_refl _) (lAd (Ax ?_) ?_); focus ((repeat' first | exact lA0 _ | exact lAe _ | exact lAh _ _ | refine lAg _ ?_ | refine lAo ?_ _ | refine lA9 ?_ | refine lAq _ ?_); done) | fail); try refine nz ?_) | exact ⟨⟩ | fail
   refine ⟨[osv o1 (Ar (Ac ts) e).length], Or.inr ⟨_, 0, rfl, Bm (T := 34) (cs := [osv o1 (Ar (Ac ts) e).length]) (by simp) rfl (by simp)⟩, by simp [Bq, Ch, Value.oneCell'], Or.inl ⟨ov, _, rfl, _, aQ, _, PullL.p, by simp only [maxLen]; omega, by omega, fun o2 au wH => ?_⟩⟩
   repeat' first | (refine zl ?_; try refine nz ?_) | refine zq (fun lq tq aD aB => ?_) | (refine ZB (fun tq aB => ?_) (fun tq aB => ?_) <;> try refine nz ?_) | exact zn | refine zf ?_ | (refine xw ?_; try refine nz ?_) | exact ⟨⟩ | fail
   refine JG ((l, Obj.loop { r with state := .busy }) :: (d, Obj.deferred (some [])) :: (ab, Cl 26 [osv o2 (rs.length + 1)]) :: osg 34 o2 (rs.map Bv.v ++ [osv o1 (Ar (Ac ts) e).length])) ?_
   generalize hR : N4.add _ = N5
   have lO : N4.le N5 := hR ▸ JB _ _
   have c7 : SlC N5 1 ei (osv o1 (Ar (Ac ts) e).length) (Ar (Ac ts) e) := hR ▸ Hc (T := 3) bU rfl (fun q hq => by simp [hq])
   clear hR
   have ar : (Ar (Ac ts) e).length < 1000000 := by
    have h1 := Cb (Ac ts) (Aw (Ac ts) e.frm) (Ac ts).length
    have h2 := hp.len
    have h3 := hx.ol
    unfold Ar
    rw [lA4, lA1]; omega
   have qd := Aa.le_trans cC lO
   obtain ⟨rs5, jS⟩ : ∃ rs5 : List (Bv N5), rs5 = rs.map (Bv.up qd) ++ [⟨(osv o1 (Ar (Ac ts) e).length, Ar (Ac ts) e), c7, ar⟩] := ⟨_, rfl⟩
   have ue : rs.map Bv.v ++ [osv o1 (Ar (Ac ts) e).length] = rs5.map Bv.v := by rw [jS, lAv, Bv.up_v]; rfl
   have oy : rs5.map Bv.xs = rs.map Bv.xs ++ [Ar (Ac ts) e] := by rw [jS, lAv, Bv.up_xs]; rfl
   have oh : rs5.length = rs.length + 1 := by rw [jS, lA4, lA1]; rfl
   have qf : ∀ x, x ∈ rs5.map Bv.xs ↔ x ∈ (es ++ [e]).map (Ar (Ac ts)) := by
    intro x
    rw [oy, lB7, aJ, lAv, lB7]; rfl
   rw [ue, ← oh] at au ⊢
   clear c7 jS
   have iV : ∀ x, x ∈ (es ++ [e]).map (Ar (Ac ts)) → Pq (Ac ts) x := by
    intro x h
    rw [lAv, lB7] at h
    rcases h with h | h
    ·exact jx x h
    ·simp only [lE0, lAi] at h
     exact ⟨e, he, h.symm⟩
   repeat' first | refine st ?_ | refine rg ?_ | (refine cX ?_ ?_ <;> intro h <;> try exact Ah h) | (refine xsA rfl ?_; try refine nx ?_) | exact ⟨⟩ | fail
   ·rcases o2 with _ | ⟨rb, cap, sp⟩
    ·obtain ⟨h0, _⟩ := au
     omega
    ·obtain ⟨_, bG, _, qg⟩ := au
     simp only [osg, Gh, E3]
     refine Con.callS (G1 := [(rb, Cl 34 (rs5.map Bv.v ++ sp))]) (Ld rs5 (by omega) (by rw [lA4, lA1] at bG; omega)) ?_
     rintro v M6 G6 fO ⟨rfl, ys, sp', rfl, rfl, cJ, kM, mB⟩
     simp only [lAp, lAj]
     repeat' first | refine su ?_ | (refine xw ?_; refine nx ?_) | exact ⟨⟩ | fail
     have qc : ys.length ≤ 421875 := by
      rw [← lA1 (f := Bv.xs)]
      refine Tc hp (Jl ts) (Tb aK) ?_ fun x hx => iV x ((qf x).1 ((mB x).1 hx))
      rw [lBv, lDp]
      exact kM.imp fun {a b} h e => by rw [e, Ck] at h; omega
     refine JH (G' := (l, Obj.loop { r with state := .busy }) :: (d, Obj.deferred (some [])) :: (ab, Cl 26 [.slice (some ⟨rb, 0, none⟩) ys.length cap]) :: [(rb, Cl 34 (ys.map Bv.v ++ sp'))]) ?_
     refine JM aT aX (lAf _) ⟨_, lAf _, ys, some (rb, cap, sp'), rfl, ?_, qc, fun x => (mB x).trans (qf x), iV⟩
     refine ⟨by rw [lA1]; omega, by rw [lA4, lA1]; omega, by omega, qg⟩
   ·refine JM aT aX (lAf _) ⟨_, lAf _, rs5, o2, rfl, au, by omega, qf, iV⟩
  ·rintro d M4 G4 bq ⟨G0, d8, rs, ov, rfl, aQ, aG, aJ, jx⟩
   refine JF ?_ d8
   repeat' first | refine st ?_ | refine rg ?_ | (refine xsA rfl ?_; try refine nx ?_) | exact ⟨⟩ | fail
   have bR : ∀ (ys : List (Bv M4)) (N : Aa), M4.le N → ∀ (s' : Value), (∃ a c, s' = .slice a ys.length c ∧ rdS N 1 a ys.length (ys.map Bv.v)) → ys.Pairwise (fun x y => C7 x.xs y.xs < 0) → (∀ x, x ∈ ys.map Bv.xs ↔ x ∈ rs.map Bv.xs) →
     ∃ outs, Ad1 (Ac ts) outs ∧ Dj N 1 ei s' outs := by
    rintro ys N hN s' ⟨a, c, rfl, aH⟩ k8 o5
    refine ⟨ys.map Bv.xs, ⟨?_, fun x => (o5 x).trans (aJ x)⟩, a, c, ys.map Bv.v, by rw [lA1], by simp, by rw [lA1]; exact aH, fun i h1 h2 => ?_⟩
    ·rw [lDp]; exact k8
    ·simp only [lDn]
     exact (ys[i]'(by simpa using h1)).2.1.mono hN
   rcases ov with _ | ⟨rb, cap, sp⟩
   ·obtain ⟨h0, bY⟩ := aQ
    have ml : rs = [] := lC6.1 h0
    subst ml
    refine Con.callS (G1 := []) N1 ?_
    rintro v M6 G6 fO ⟨rfl, rfl⟩
    repeat' first | fail
    obtain ⟨outs, bU, au⟩ := bR [] M6 fO (.slice none 0 0) ⟨none, 0, rfl, .inl ⟨rfl, rfl⟩⟩ List.Pairwise.nil (fun x => Iff.rfl)
    refine JU Q3_ok (ms := [d]) (G1 := [(ab, Cl 26 [.slice none 0 0])]) (lAf _) ?_
    (repeat first | refine nx ?_ | simp only [Q3])
    exact .inr ⟨aK, _, rfl, outs, bU, au⟩
   ·obtain ⟨_, bG, _, _⟩ := aQ
    simp only [osg, Gh, E3]
    refine Con.callS (G1 := [(rb, Cl 34 (rs.map Bv.v ++ sp))]) (Ld rs (by omega) (by rw [lA4, lA1] at bG; omega)) ?_
    rintro v M6 G6 fO ⟨rfl, ys, sp', rfl, rfl, cJ, kM, mB⟩
    repeat' first | fail
    refine JG [(d, Obj.deferred (some [])), (ab, Cl 26 [osv (some (rb, cap, sp)) rs.length])] ?_
    generalize hR : M6.add _ = N5
    have lO : M6.le N5 := hR ▸ JB _ _
    obtain ⟨outs, bU, au⟩ := bR ys N5 lO (.slice (some ⟨rb, 0, none⟩) ys.length cap) ⟨_, _, rfl, hR ▸ .inr ⟨rb, 0, rfl, Bm (T := 34) (cs := ys.map Bv.v ++ sp') (by simp) (by rw [lBr, lAu, List.take_left' (by rw [lA1])]) (by simp)⟩⟩ kM mB
    clear hR
    refine JU Q3_ok (ms := [d]) (G1 := [(ab, Cl 26 [osv (some (rb, cap, sp)) rs.length])]) (lAf _) ?_
    (repeat first | refine nx ?_ | simp only [Q3])
    exact .inr ⟨aK, _, rfl, outs, bU, au⟩
  ·intro d c M4 G4 bq h
   exact h.elim
end
section
variable {M : Aa}
theorem Lf (xs ys : List Int) (v w : Value) (hv : Sl M 1 ei v xs) (hw : Sl M 1 ei w ys) (hx : xs.length ≤ 281474976710656) (hy : ys.length ≤ 281474976710656) :
  Aq Tryz.prog 20 #[v, w] M (vb (decide (xs = ys))) := by
 obtain ⟨a, c, rfl, hr⟩ := hv
 obtain ⟨a2, c2, rfl, aX⟩ := hw
 refine Con.enter Q60_ok (args := [.slice a xs.length c, .slice a2 ys.length c2]) (by simp [Q60]) fun w0 => ?_
 simp only [Q60, A9]
 repeat' first | refine st ?_ | refine rg ?_ | (refine cX ?_ ?_ <;> intro h <;> try exact Ah h) | exact ⟨⟩ | fail
 ·have hne : decide (xs = ys) = false := decide_eq_false fun e => h (by rw [e])
  (refine rt Q60_ok ?_; try with_reducible exact ⟨⟩)
  rw [hne]
 ·have hl : xs.length = ys.length := by omega
  refine JC (fun i : Nat => ([(0, .slice a xs.length c), (1, .slice a2 ys.length c2), (5, vi i)], M, [])) (fun i => i ≤ xs.length ∧ xs.take i = ys.take i) (fun i => xs.length - i) 0 rfl ⟨lA8 _, rfl⟩ ?env1 (lA0 _) ?_
  case env1 =>
   exact eE
  rintro i ⟨hi, he⟩ ih
  dsimp only at hi he ih ⊢
  repeat' first | refine st ?_ | refine rg ?_ | (refine cX ?_ ?_ <;> intro h <;> try exact Ah h) | exact ⟨⟩ | fail
  ·have aC : i < xs.length := by omega
   have bo : i < ys.length := by omega
   obtain ⟨b, o, rfl, hat⟩ := Sl.at (sz := 1) (enc := ei) (fun _ => rfl) (by decide) hr (by omega)
   obtain ⟨b2, o2, rfl, aN⟩ := Sl.at (sz := 1) (enc := ei) (fun _ => rfl) (by decide) aX (by omega)
   have q1 := hat i aC
   have q2 := aN i bo
   simp only [lAu] at q1 q2
   repeat' first | refine st ?_ | ((first | refine EV.reg ?_ | refine EV.any _ (lA0 _) ?_ | fail); (conv => (arg 2; whnf)); refine nx ?_) | (refine cX ?_ ?_ <;> intro h <;> try exact Ah h) | refine ZF ?_ | (refine xm ?_; try refine nx ?_) | exact ⟨⟩ | fail
   ·have hne : decide (xs = ys) = false := decide_eq_false fun e => by subst e; exact h rfl
    (refine rt Q60_ok ?_; try with_reducible exact ⟨⟩)
    rw [hne]
   ·have ct : xs[i] = ys[i] := by simpa using h
    refine JA (ih (i + 1) ⟨by omega, by rw [lA7 aC, lA7 bo, he, ct]⟩ (by omega)) ?_ (lA0 _)
    exact eE
  ·have bO : i = xs.length := by omega
   subst bO
   have jv : decide (xs = ys) = true := decide_eq_true (by rwa [lB2, hl, lB2] at he)
   (refine rt Q60_ok ?_; try with_reducible exact ⟨⟩)
   rw [jv]
theorem Aj5 : Con Tryz.prog 32 #[] M [] fun v M' _ => ∃ s, v = .agg #[s] ∧ Dv M' 5 Bd s Lc := by
 refine Con.enter Q56_ok (args := []) (by simp [Q56]) fun w0 => ?_
 simp only [Q56, A9]
 repeat' first | refine st ?_ | refine rg ?_ | (with_reducible intro b; try refine nx ?_) | (refine xw ?_; refine nx ?_) | exact ⟨⟩ | fail
 rename_i r0 b3 b6
 refine JG [(r0, Cl 24 [.slice (some ⟨b, 0, none⟩) 2 2])] ?_
 generalize hR : M.add _ = N
 have aA : M.le N := hR ▸ JB _ _
 have k7 : rd N b 0 2 [.slice (some ⟨b3, 0, none⟩) 2 2, .slice (some ⟨b6, 0, none⟩) 2 2] := hR ▸ An 0 rfl rfl (by simp)
 have k6 : rd N b6 0 10 (Bd ⟨1, 1, 1, 0, 0⟩ ++ Bd ⟨0, 0, 0, 0, 0⟩) := hR ▸ An 1 rfl rfl (by simp)
 have k3 : rd N b3 0 10 (Bd ⟨1, 0, 1, 0, 0⟩ ++ Bd ⟨0, 1, 0, 0, 0⟩) := hR ▸ An 2 rfl rfl (by simp)
 (refine rt Q56_ok ?_; try with_reducible exact ⟨⟩)
 refine ⟨_, An 0 rfl rfl (by simp), _, rfl, some ⟨b, 0, none⟩, 2, _, rfl, rfl, .inr ⟨b, 0, rfl, k7⟩, fun i h1 h2 => ?_⟩
 have hi : i = 0 ∨ i = 1 := by simp [Lc] at h2; omega
 rcases hi with rfl | rfl
 ·exact ⟨some ⟨b3, 0, none⟩, 2, rfl, .inr ⟨b3, 0, rfl, k3⟩⟩
 ·exact ⟨some ⟨b6, 0, none⟩, 2, rfl, .inr ⟨b6, 0, rfl, k6⟩⟩
theorem Bh3 : Con Tryz.prog 10 #[] M [] fun v _ _ => v = vb true := by
 refine Con.enter Q55_ok (args := []) (by simp [Q55]) fun w0 => ?_
 simp only [Q55, A9]
 repeat' first | refine st ?_ | refine rg ?_ | exact ⟨⟩ | fail
 refine Con.callS (G1 := []) Aj5 ?_
 rintro v M1 G1 bv ⟨s, rfl, hs⟩
 repeat' first | fail
 refine Con.callS (G1 := []) (Tf Lc s hs ⟨by decide, by decide⟩) ?_
 rintro v M2 G2 bS (⟨hne, _⟩ | ⟨_, s', outs, rfl, ho, ah⟩)
 ·exact absurd buffers_ok hne
 have he := ho.eq
 rw [U0] at he
 subst he
 obtain ⟨a, c, vs, rfl, hl, aH, hk⟩ := ah.sl
 obtain ⟨ob, oo, rfl, hat⟩ := Dv.at aH hl hk (by decide)
 obtain ⟨a0, c0, aT, aX⟩ := hat 0 (by decide)
 have hq : ∀ (b : Nat) (G : Own), Aq Tryz.prog 20 #[.slice a0 5 c0, .slice (some ⟨b, 0, none⟩) 5 5] (M2.add ((b, Cl 3 [vi 0, vi 0, vi 1, vi 1, vi 0]) :: G)) (vb true) := fun b G =>
  Lf [0, 0, 1, 1, 0] [0, 0, 1, 1, 0] _ _ ⟨a0, c0, rfl, aX.mono (JB _ _)⟩ ⟨_, _, rfl, .inr ⟨b, 0, rfl, An 0 rfl rfl (by simp)⟩⟩ (by decide) (by decide)
 simp only [lAu, Nat.zero_mul, lDc, lAt, lB3, lC1, lBi, Nat.reduceAdd] at aT aX
 repeat' first | refine st ?_ | refine rg ?_ | (refine Aq.call (hq _ _) ?_; try refine nx ?_) | (refine A4.intro (fun hc => ?_) (fun hc => ?_) <;> try simp only [ne_eq, lBd, lB9, not_true_eq_false, not_false_eq_true, reduceCtorEq] at hc <;> try (exfalso; first | exact hc | omega | (simp at hc; done))) | (with_reducible intro b; try refine nx ?_) | refine ZF ?_ | (refine xn ?_; try refine nx ?_) | exact ⟨⟩ | fail
 (refine rt Q55_ok ?_; try with_reducible exact ⟨⟩)
 rfl
end
instance (priority := low) At.app {A G : Own} {b : Nat} {T : TypeId} {cs : List Value} [h : At G b T cs] : At (A ++ G) b T cs := ⟨lDk _ h.mem⟩
instance (priority := low) Split.app {A G : Own} {b : Nat} {T : TypeId} {cs : List Value} {Ga Gb : Own} [h : Split G b T cs Ga Gb] : Split (A ++ G) b T cs (A ++ Ga) Gb := ⟨by rw [h.eq, lAc]⟩
theorem Xe {ys : List Int} : C7 [] ys < 0 ↔ ys ≠ [] := by
 cases ys <;> simp [C7]
theorem Xf {xs : List Int} : ¬ C7 xs [] < 0 := by
 cases xs <;> simp [C7]
section
variable {M : Aa}
theorem U4 (xs ys : List Int) (v w : Value) (hv : Sl M 1 ei v xs) (hw : Sl M 1 ei w ys) (hx : xs.length ≤ 281474976710656) (hy : ys.length ≤ 281474976710656) :
  Aq Tryz.prog 31 #[v, w] M (vb (decide (C7 xs ys < 0))) := by
 obtain ⟨a, c, rfl, hr⟩ := hv
 obtain ⟨a2, c2, rfl, aX⟩ := hw
 refine Con.enter Q61_ok (args := [.slice a xs.length c, .slice a2 ys.length c2]) (by simp [Q61]) fun w0 => ?_
 simp only [Q61, A9]
 repeat' first | refine st ?_ | refine rg ?_ | exact ⟨⟩ | fail
 refine JC (fun i : Nat => ([(0, .slice a xs.length c), (1, .slice a2 ys.length c2), (5, vi i)], M, [])) (fun i => i ≤ xs.length ∧ i ≤ ys.length ∧ xs.take i = ys.take i) (fun i => xs.length - i) 0 rfl ⟨lA8 _, lA8 _, rfl⟩ ?env1 (lA0 _) ?_
 case env1 =>
  exact eE
 rintro i ⟨hi, bo, he⟩ ih
 dsimp only at hi bo he ih ⊢
 have il := Uy he
 by_cases hb : i < xs.length ∧ i < ys.length
 ·obtain ⟨b1, b2⟩ := hb
  obtain ⟨b, o, rfl, hat⟩ := Sl.at (sz := 1) (enc := ei) (fun _ => rfl) (by decide) hr (by omega)
  obtain ⟨bb2, o2, rfl, aN⟩ := Sl.at (sz := 1) (enc := ei) (fun _ => rfl) (by decide) aX (by omega)
  have q1 := hat i b1
  have q2 := aN i b2
  simp only [lAu] at q1 q2
  rw [lBh b1, lBh b2] at il
  have k1 : ((i : Int) < (xs.length : Int)) = True := eq_true (by omega)
  have k2 : ((i : Int) < (ys.length : Int)) = True := eq_true (by omega)
  repeat' first | refine st ?_ | ((first | refine EV.reg ?_ | refine EV.any _ (lA0 _) ?_ | fail); (conv => (arg 2; whnf)); (repeat first | refine nx ?_ | simp only [k1, k2, decide_true])) | with_reducible assumption | (refine JD ?_ (fun hc K' hK => ?_) ?_; rotate_left) | (refine cX ?_ ?_ <;> intro h <;> try exact Ah h) | refine ZF ?_ | (refine xm ?_; (repeat first | refine nx ?_ | simp only [k1, k2, decide_true])) | fail
  ·have hne : ¬ xs[i] = ys[i] := by simpa using h
   (refine rt Q61_ok ?_; try with_reducible exact ⟨⟩)
   rw [il]
   have : (C7 (xs[i] :: List.drop (i + 1) xs) (ys[i] :: List.drop (i + 1) ys) < 0) ↔ xs[i] < ys[i] := by
    rw [Gq]
    constructor
    ·rintro (h | ⟨h, _⟩)
     ·exact h
     ·exact absurd h hne
    ·exact .inl
   rw [decide_eq_decide.2 this]
  ·have ct : xs[i] = ys[i] := by simpa using h
   refine JA (ih (i + 1) ⟨by omega, by omega, by rw [lA7 b1, lA7 b2, he, ct]⟩ (by omega)) ?_ (lA0 _)
   exact eE
 ·have cz : (decide (C7 xs ys < 0)) = decide ((xs.length : Int) < (ys.length : Int)) := by
   rw [decide_eq_decide, il]
   by_cases h1 : i = xs.length
   ·subst h1
    rw [List.drop_length, Xe]
    by_cases h2 : xs.length < ys.length
    ·have : List.drop xs.length ys ≠ [] := by
      intro h; have := congrArg List.length h; simp at this; omega
     exact ⟨fun _ => by omega, fun _ => this⟩
    ·rw [lCt (by omega)]
     exact ⟨fun h => absurd rfl h, fun h => by omega⟩
   ·have : i = ys.length := by omega
    subst this
    rw [List.drop_length]
    exact ⟨fun h => absurd h Xf, fun h => by omega⟩
  rw [cz]
  by_cases h1 : i < xs.length
  ·have k1 : ((i : Int) < (xs.length : Int)) = True := eq_true (by omega)
   have k2 : ((i : Int) < (ys.length : Int)) = False := eq_false (by omega)
   repeat' first | refine st ?_ | (refine EV.reg ?_; (conv => (arg 2; whnf)); (repeat first | refine nx ?_ | simp only [k1, k2, decide_true, decide_false])) | with_reducible assumption | (refine JD ?_ (fun hc K' hK => ?_) ?_; rotate_left) | (refine cX ?_ ?_ <;> intro h <;> try exact Ah h) | fail
   (refine rt Q61_ok ?_; try with_reducible exact ⟨⟩)
  ·have k1 : ((i : Int) < (xs.length : Int)) = False := eq_false (by omega)
   repeat' first | refine st ?_ | (refine EV.reg ?_; (conv => (arg 2; whnf)); (repeat first | refine nx ?_ | simp only [k1, decide_false])) | with_reducible assumption | (refine JD ?_ (fun hc K' hK => ?_) ?_; rotate_left) | (refine cX ?_ ?_ <;> intro h <;> try exact Ah h) | fail
   (refine rt Q61_ok ?_; try with_reducible exact ⟨⟩)
theorem I6 (xs : List Int) (v : Value) (hv : Sl M 1 ei v xs) (hx : xs.length < 1000000) : Con Tryz.prog 154 #[v] M [] fun u M' G' => M' = M ∧ ∃ b cap sp, u = Av b xs.length cap ∧ Ey 1 (some (b, cap, sp)) xs.length (xs.map vi) ∧ G' = [(b, Cl 3 (xs.map vi ++ sp))] := by
 obtain ⟨a, c, rfl, hr⟩ := hv
 refine Con.enter Q57_ok (args := [.slice a xs.length c]) (by simp [Q57]) fun w0 => ?_
 simp only [Q57, A9]
 repeat' first | refine st ?_ | refine rg ?_ | (with_reducible intro b; try refine nx ?_) | exact ⟨⟩ | fail
 rw [A0] at hr
 refine ⟨_, Ww hr, Yj _, Or.inl ⟨some (b, 0, []), 0, rfl, [], ⟨rfl, rfl, lA5 _, by simp [maxLen]⟩, _, lAf _, by simp only [maxLen]; omega, by omega, fun o1 bU hn => ?_⟩⟩
 simp only [lBi, lAj, lAp, lAc] at bU ⊢
 rcases o1 with _ | ⟨b1, cap, sp⟩
 ·simp at hn
 repeat' first | fail
 (refine rt Q57_ok ?_; try with_reducible exact ⟨⟩)
 exact ⟨b1, cap, rfl, sp, bU, rfl⟩
theorem Xg (ls : List (List Int)) (x : List Int) (v w : Value) (hv : Dv M 1 ei v ls) (hw : Sl M 1 ei w x) (hs : ls.Pairwise fun x y => C7 x y < 0) (hl : ls.length < 1000000000) (hx : x.length ≤ 281474976710656) (bL : ∀ y ∈ ls, y.length ≤ 281474976710656) :
  Aq Tryz.prog 18 #[v, w] M (vb (decide (x ∈ ls))) := by
 have hp := lBc.1 hs
 obtain ⟨a, c, vs, rfl, eU, aH, hk⟩ := hv
 refine Con.enter Q63_ok (args := [.slice a ls.length c, w]) (by simp [Q63]) fun w0 => ?_
 simp only [Q63, A9]
 repeat' first | refine st ?_ | refine rg ?_ | exact ⟨⟩ | fail
 refine JC (fun z : Nat × Nat => ([(0, .slice a ls.length c), (1, w), (5, vi z.1), (6, vi z.2)], M, [])) (fun z => z.1 ≤ z.2 ∧ z.2 ≤ ls.length ∧ (∀ i (h : i < ls.length), i < z.1 → C7 ls[i] x < 0) ∧ ∀ i (h : i < ls.length), z.2 ≤ i → ¬ C7 ls[i] x < 0) (fun z => z.2 - z.1) (0, ls.length) rfl ⟨lA8 _, lA5 _, fun i h h0 => absurd h0 (lBn _), fun i h h0 => by omega⟩ ?env1 (lA0 _) ?_
 case env1 =>
  exact eE
 rintro ⟨lo, hi⟩ ⟨h1, h2, h3, h4⟩ ih
 dsimp only at h1 h2 h3 h4 ih ⊢
 by_cases aU : lo < hi
 ·have k1 : ((lo : Int) < (hi : Int)) = True := eq_true (by omega)
  have aV : IntKind.i64.wrap ((lo : Int) + (hi : Int)) = (lo : Int) + (hi : Int) := w64 (by omega) (by omega)
  have hq : IntKind.i64.wrap (((lo : Int) + (hi : Int)).tdiv 2) = (((lo + hi) / 2 : Nat) : Int) := by
   rw [Int.tdiv_eq_ediv_of_nonneg (by omega), w64 (by omega) (by omega)]; omega
  have hm : (lo + hi) / 2 < ls.length := by omega
  obtain ⟨ub, uo, rfl, hat⟩ := Dv.at aH eU hk (by omega)
  obtain ⟨a', c', aT, aX⟩ := hat _ hm
  have gD := fun G => U4 (M := M.add G) ls[(lo + hi) / 2] x _ w ⟨a', c', rfl, aX.mono (JB _ _)⟩ (hw.mono (JB _ _)) (bL _ (lAm hm)) hx
  generalize qh : (lo + hi) / 2 = mid at *
  simp only [lAu] at aT
  repeat' first | refine st ?_ | (refine EV.reg ?_; (conv => (arg 2; whnf)); (repeat first | refine nx ?_ | simp only [k1, aV, hq, show ¬ (2 : Int) = 0 by decide])) | (refine Aq.call (gD _) ?_; (repeat first | refine nx ?_ | simp only [k1, aV, hq, show ¬ (2 : Int) = 0 by decide])) | (refine cX ?_ ?_ <;> intro h <;> try exact Ah h) | refine ZF ?_ | (refine xn ?_; (repeat first | refine nx ?_ | simp only [k1, aV, hq, show ¬ (2 : Int) = 0 by decide])) | fail
  all_goals have qi : lo ≤ mid ∧ mid < hi := by omega
  ·refine JA (ih (mid + 1, hi) ⟨by dsimp only; omega, h2, fun i aC aU => ?_, h4⟩ (by dsimp only; omega)) ?_ (lA0 _)
   ·dsimp only at aU
    have hmx : C7 ls[mid] x < 0 := by simpa using h
    by_cases he : i = mid
    ·subst he; exact hmx
    ·exact Cr _ _ _ (hp i mid aC hm (by omega)) hmx
   ·exact eE
  ·refine JA (ih (lo, mid) ⟨by dsimp only; omega, by dsimp only; omega, h3, fun i aC cp => ?_⟩ (by dsimp only; omega)) ?_ (lA0 _)
   ·dsimp only at cp
    have hmx : ¬ C7 ls[mid] x < 0 := by simpa using h
    by_cases he : i = mid
    ·subst he; exact hmx
    ·exact fun aU => hmx (Cr _ _ _ (hp mid i hm aC (by omega)) aU)
   ·exact eE
 ·have k1 : ((lo : Int) < (hi : Int)) = False := eq_false (by omega)
  have aY : lo = hi := by omega
  subst aY
  by_cases hlo : lo < ls.length
  ·have k2 : ((lo : Int) < (ls.length : Int)) = True := eq_true (by omega)
   obtain ⟨ub, uo, rfl, hat⟩ := Dv.at aH eU hk (by omega)
   obtain ⟨a', c', aT, aX⟩ := hat _ hlo
   have dD := fun G => Lf (M := M.add G) ls[lo] x _ w ⟨a', c', rfl, aX.mono (JB _ _)⟩ (hw.mono (JB _ _)) (bL _ (lAm hlo)) hx
   simp only [lAu] at aT
   have hin : decide (x ∈ ls) = decide (ls[lo] = x) := by
    rw [decide_eq_decide]
    constructor
    ·intro hm
     obtain ⟨j, hj, rfl⟩ := lBf hm
     rcases Nat.lt_trichotomy j lo with h5 | h5 | h5
     ·have := h3 j hj h5; rw [Ck] at this; omega
     ·subst h5; rfl
     ·exact absurd (hp lo j hlo hj h5) (h4 lo hlo (lA5 _))
    ·rintro rfl; exact lAm hlo
   rw [hin]
   repeat' first | refine st ?_ | (refine EV.reg ?_; (conv => (arg 2; whnf)); (repeat first | refine nx ?_ | simp only [k1, k2, decide_true])) | (refine Aq.call (dD _) ?_; (repeat first | refine nx ?_ | simp only [k1, k2, decide_true])) | with_reducible assumption | (refine JD ?_ (fun hc K' hK => ?_) ?_; rotate_left) | (refine cX ?_ ?_ <;> intro h <;> try exact Ah h) | refine ZF ?_ | (refine xn ?_; (repeat first | refine nx ?_ | simp only [k1, k2, decide_true])) | fail
   (refine rt Q63_ok ?_; try with_reducible exact ⟨⟩)
   rfl
  ·have k2 : ((lo : Int) < (ls.length : Int)) = False := eq_false (by omega)
   have hin : decide (x ∈ ls) = false := by
    rw [decide_eq_false_iff_not]
    intro hm
    obtain ⟨j, hj, rfl⟩ := lBf hm
    have := h3 j hj (by omega); rw [Ck] at this; omega
   rw [hin]
   repeat' first | refine st ?_ | (refine EV.reg ?_; (conv => (arg 2; whnf)); (repeat first | refine nx ?_ | simp only [k1, k2, decide_false])) | (refine JD ?_ (fun hc K' hK => ?_) ?_; rotate_left) | (refine cX ?_ ?_ <;> intro h <;> try exact Ah h) | (exfalso; simp at hc; done) | exact false | fail
   (refine rt Q63_ok ?_; try with_reducible exact ⟨⟩)
   rfl
end
section
variable {M : Aa}
theorem Yy (xs : List Int) (n : Int) (v : Value) (hv : Sl M 1 ei v xs) (hx : xs.length ≤ 281474976710656) :
  Aq Tryz.prog 170 #[v, vi n] M (vb (decide (n ∈ xs))) := by
 obtain ⟨a, c, rfl, hr⟩ := hv
 refine Con.enter Q59_ok (args := [.slice a xs.length c, vi n]) (by simp [Q59]) fun w0 => ?_
 simp only [Q59, A9]
 repeat' first | refine st ?_ | refine rg ?_ | exact ⟨⟩ | fail
 refine JC (fun i : Nat => ([(0, .slice a xs.length c), (1, vi n), (5, vi i)], M, [])) (fun i => i ≤ xs.length ∧ n ∉ xs.take i) (fun i => xs.length - i) 0 rfl ⟨lA8 _, by simp⟩ ?env1 (lA0 _) ?_
 case env1 =>
  exact eE
 rintro i ⟨hi, he⟩ ih
 dsimp only at hi he ih ⊢
 repeat' first | refine st ?_ | refine rg ?_ | (refine cX ?_ ?_ <;> intro h <;> try exact Ah h) | exact ⟨⟩ | fail
 ·have aC : i < xs.length := by omega
  obtain ⟨b, o, rfl, hat⟩ := Sl.at (sz := 1) (enc := ei) (fun _ => rfl) (by decide) hr (by omega)
  have q1 := hat i aC
  simp only [lAu] at q1
  repeat' first | refine st ?_ | refine rg ?_ | (refine cX ?_ ?_ <;> intro h <;> try exact Ah h) | refine ZF ?_ | (refine xm ?_; try refine nx ?_) | exact ⟨⟩ | fail
  ·have d5 : xs[i] = n := by simpa using h
   have jv : decide (n ∈ xs) = true := decide_eq_true (d5 ▸ lAm aC)
   (refine rt Q59_ok ?_; try with_reducible exact ⟨⟩)
   rw [jv]
  ·have d5 : ¬ xs[i] = n := by simpa using h
   refine JA (ih (i + 1) ⟨by omega, by
    rw [lA7 aC, lB7, lAi]
    rintro (k | k)
    ·exact he k
    ·exact d5 k.symm⟩ (by omega)) ?_ (lA0 _)
   exact eE
 ·have bO : i = xs.length := by omega
  subst bO
  have jv : decide (n ∈ xs) = false := decide_eq_false (by rwa [lB2] at he)
  repeat' first | fail
  (refine rt Q59_ok ?_; try with_reducible exact ⟨⟩)
  rw [jv]
end
def Ag {α : Type} (f : Nat → α → α) : Nat → α → α
 | 0, r => r
 | i + 1, r => f i (Ag f i r)
theorem Bu {f : Nat → Rel → Rel} (h : ∀ i r, (f i r).length = r.length) : ∀ n r, (Ag f n r).length = r.length
 | 0, _ => rfl
 | n + 1, r => by rw [Ag, h, Bu h n r]
theorem B0 {f : Nat → Rel → Rel} {P : Nat → Prop} {L a b : Nat} (hl : ∀ i r, (f i r).length = r.length) {n : Nat} (h : ∀ i r, i < n → r.length = L → (A6 (f i r) a b = true ↔ A6 r a b = true ∨ P i)) : ∀ m r, m ≤ n → r.length = L → (A6 (Ag f m r) a b = true ↔ A6 r a b = true ∨ ∃ i, i < m ∧ P i)
 | 0, r, _, _ => by simp [Ag]
 | m + 1, r, hm, hr => by
  rw [Ag, h m _ (by omega) (by rw [Bu hl, hr]), B0 hl h m r (by omega) hr]
  constructor
  ·rintro ((h | ⟨i, h1, h2⟩) | h)
   ·exact .inl h
   ·exact .inr ⟨i, by omega, h2⟩
   ·exact .inr ⟨m, by omega, h⟩
  ·rintro (h | ⟨i, h1, h2⟩)
   ·exact .inl (.inl h)
   ·by_cases hi : i = m
    ·subst hi; exact .inr h2
    ·exact .inl (.inr ⟨i, by omega, h2⟩)
theorem loopN_ok {f : Nat → Rel → Rel} {n N : Nat} (h : ∀ i r, i < n → RelOk N r → RelOk N (f i r)) : ∀ m r, m ≤ n → RelOk N r → RelOk N (Ag f m r)
 | 0, _, _, h => h
 | m + 1, r, hm, hr => h m _ (by omega) (loopN_ok h m r (by omega) hr)
def Hq (c : Bool) (r : Rel) (a b : Nat) : Rel := if c then N0 r a b else r
theorem I7 {c : Bool} {r : Rel} {a b : Nat} : (Hq c r a b).length = r.length := by
 unfold Hq; split
 ·exact E1
 ·rfl
theorem Lg {c : Bool} {r : Rel} {a b x y : Nat} : A6 (Hq c r a b) x y = true ↔ A6 r x y = true ∨ (c = true ∧ x = a ∧ a < r.length ∧ y = b) := by
 unfold Hq
 cases c with
 | true => rw [if_pos rfl, Fo]; simp
 | false => simp
theorem putIf_ok {N : Nat} {c : Bool} {r : Rel} (h : RelOk N r) (a : Nat) {b : Nat} (hb : b < N) : RelOk N (Hq c r a b) := by
 unfold Hq; split
 ·exact h.put a hb
 ·exact h
def B1 : Rel := List.replicate 16 0
theorem Jn {a b : Nat} : A6 B1 a b = false := O9
def U5 (p : List Ev) (a : Nat) (d : Nat) (r : Rel) : Rel := Hq (decide ((evAt p a).th = (evAt p (a + 1 + d)).th)) r a (a + 1 + d)
def J3 (p : List Ev) (a : Nat) (r : Rel) : Rel := Ag (U5 p a) (p.length - (a + 1)) r
def T9 (p : List Ev) : Rel := Ag (J3 p) p.length B1
theorem U6 (p : List Ev) (a : Nat) : ∀ d r, (U5 p a d r).length = r.length := fun _ _ => I7
theorem R4 (p : List Ev) : ∀ a r, (J3 p a r).length = r.length := fun a r => Bu (U6 p a) _ _
theorem Gr (p : List Ev) : (T9 p).length = 16 := by rw [T9, Bu (R4 p)]; rfl
theorem Yz {p : List Ev} (hp : p.length ≤ 16) {x y : Nat} : A6 (T9 p) x y = true ↔ x < y ∧ y < p.length ∧ (evAt p x).th = (evAt p y).th := by
 have hin : ∀ a r, a < p.length → r.length = 16 → (A6 (J3 p a r) x y = true ↔ A6 r x y = true ∨ (x = a ∧ x < y ∧ y < p.length ∧ (evAt p x).th = (evAt p y).th)) := by
  intro a r ha hr
  rw [J3, B0 (P := fun d => x = a ∧ y = a + 1 + d ∧ (evAt p a).th = (evAt p (a + 1 + d)).th) (n := p.length - (a + 1)) (U6 p a) (fun d r hd hr => ?_) _ r (lA5 _) hr]
  ·constructor
   ·rintro (h | ⟨d, h1, h2, h3, h4⟩)
    ·exact .inl h
    ·subst h2 h3; exact .inr ⟨rfl, by omega, by omega, h4⟩
   ·rintro (h | ⟨h1, h2, h3, h4⟩)
    ·exact .inl h
    ·subst h1
     exact .inr ⟨y - (x + 1), by omega, rfl, by omega, by rw [show x + 1 + (y - (x + 1)) = y by omega]; exact h4⟩
  ·rw [U5, Lg, decide_eq_true_eq]
   constructor
   ·rintro (h | ⟨h1, h2, h3, h4⟩)
    ·exact .inl h
    ·exact .inr ⟨h2, h4, h1⟩
   ·rintro (h | ⟨h1, h2, h3⟩)
    ·exact .inl h
    ·exact .inr ⟨h3, h1, by omega, h2⟩
 rw [T9, B0 (P := fun a => x = a ∧ x < y ∧ y < p.length ∧ (evAt p x).th = (evAt p y).th) (n := p.length) (R4 p) hin _ _ (lA5 _) rfl, Jn]
 constructor
 ·rintro (h | ⟨a, h1, h2, h3⟩)
  ·cases h
  ·exact h3
 ·intro h
  exact .inr ⟨x, by omega, rfl, h⟩
def J4 (e : Exec) (a : Nat) (r : Rel) : Rel := Hq (decide (0 ≤ Af e a)) r (Af e a).toNat a
def Hr (p : List Ev) (e : Exec) : Rel := Ag (J4 e) p.length B1
theorem R5 (e : Exec) : ∀ a r, (J4 e a r).length = r.length := fun _ _ => I7
theorem Eh (p : List Ev) (e : Exec) : (Hr p e).length = 16 := by rw [Hr, Bu (R5 e)]; rfl
theorem U7 {p : List Ev} {e : Exec} (hp : p.length ≤ 16) (hx : ∀ i, i < p.length → Af e i < p.length) {x y : Nat} : A6 (Hr p e) x y = true ↔ Rf e p.length x y := by
 rw [Hr, B0 (P := fun a => y = a ∧ Af e a = (x : Nat)) (L := 16) (n := p.length) (R5 e) (fun a r ha hr => ?_) _ _ (lA5 _) rfl, Jn]
 ·unfold Rf
  constructor
  ·rintro (h | ⟨a, h1, rfl, h3⟩)
   ·cases h
   ·exact ⟨h1, h3⟩
  ·rintro ⟨h1, h2⟩; exact .inr ⟨y, h1, rfl, h2⟩
 ·have := hx a ha
  rw [J4, Lg, decide_eq_true_eq]
  constructor
  ·rintro (h | ⟨h1, h2, h3, h4⟩)
   ·exact .inl h
   ·exact .inr ⟨h4, by omega⟩
  ·rintro (h | ⟨h1, h2⟩)
   ·exact .inl h
   ·exact .inr ⟨by omega, by omega, by omega, h1⟩
def Ps (fen : List Int) (i d : Nat) (r : Rel) : Rel := N0 r (Ae fen i).toNat (Ae fen (i + 1 + d)).toNat
def Hf (fen : List Int) (i : Nat) (r : Rel) : Rel := Ag (Ps fen i) (fen.length - (i + 1)) r
def F9 (fen : List Int) : Rel := Ag (Hf fen) fen.length B1
theorem R6 (fen : List Int) (i : Nat) : ∀ d r, (Ps fen i d r).length = r.length := fun _ _ => E1
theorem Pt (fen : List Int) : ∀ i r, (Hf fen i r).length = r.length := fun i r => Bu (R6 fen i) _ _
theorem Hs (fen : List Int) : (F9 fen).length = 16 := by rw [F9, Bu (Pt fen)]; rfl
theorem Ma {fen : List Int} (hin : ∀ k, k < fen.length → 0 ≤ Ae fen k ∧ Ae fen k < 16) {x y : Nat} : A6 (F9 fen) x y = true ↔ Co1 fen x y := by
 have hi : ∀ i r, i < fen.length → r.length = 16 → (A6 (Hf fen i r) x y = true ↔ A6 r x y = true ∨ ∃ j, i < j ∧ j < fen.length ∧ Ae fen i = x ∧ Ae fen j = y) := by
  intro i r cZ hr
  rw [Hf, B0 (P := fun d => Ae fen i = x ∧ Ae fen (i + 1 + d) = y) (n := fen.length - (i + 1)) (R6 fen i) (fun d r hd hr => ?_) _ r (lA5 _) hr]
  ·constructor
   ·rintro (h | ⟨d, h1, h2, h3⟩)
    ·exact .inl h
    ·exact .inr ⟨i + 1 + d, by omega, by omega, h2, h3⟩
   ·rintro (h | ⟨j, h1, h2, h3, h4⟩)
    ·exact .inl h
    ·exact .inr ⟨j - (i + 1), by omega, h3, by rw [show i + 1 + (j - (i + 1)) = j by omega]; exact h4⟩
  ·have q1 := hin i cZ
   have q2 := hin (i + 1 + d) (by omega)
   rw [Ps, Fo]
   constructor
   ·rintro (h | ⟨h1, h2, h3⟩)
    ·exact .inl h
    ·exact .inr ⟨by omega, by omega⟩
   ·rintro (h | ⟨h1, h2⟩)
    ·exact .inl h
    ·exact .inr ⟨by omega, by omega, by omega⟩
 rw [F9, B0 (P := fun i => ∃ j, i < j ∧ j < fen.length ∧ Ae fen i = x ∧ Ae fen j = y) (n := fen.length) (Pt fen) hi _ _ (lA5 _) rfl, Jn]
 unfold Co1
 constructor
 ·rintro (h | ⟨i, h1, j, h2, h3, h4, h5⟩)
  ·cases h
  ·exact ⟨i, j, h2, h3, h4, h5⟩
 ·rintro ⟨i, j, h2, h3, h4, h5⟩; exact .inr ⟨i, by omega, j, h2, h3, h4, h5⟩
def Ia (b : Rel) (i : Nat) (a : Rel) : Rel := a.set i (a[i]?.getD 0 ||| b[i]?.getD 0)
def Cu (a b : Rel) : Rel := Ag (Ia b) 16 a
theorem Pu (b : Rel) : ∀ i a, (Ia b i a).length = a.length := fun _ _ => by simp [Ia]
theorem Eu (a b : Rel) : (Cu a b).length = a.length := Bu (Pu b) _ _
theorem By {a b : Rel} (ha : a.length = 16) (hb : b.length = 16) {x y : Nat} : A6 (Cu a b) x y = true ↔ A6 a x y = true ∨ A6 b x y = true := by
 rw [Cu, B0 (P := fun i => x = i ∧ A6 b i y = true) (L := 16) (n := 16) (Pu b) (fun i r hi hr => ?_) _ _ (lA5 _) ha]
 ·constructor
  ·rintro (h | ⟨i, h1, rfl, h3⟩)
   ·exact .inl h
   ·exact .inr h3
  ·rintro (h | h)
   ·exact .inl h
   ·by_cases hx : x < 16
    ·exact .inr ⟨x, hx, rfl, h⟩
    ·rw [K6 (by omega)] at h; cases h
 ·have : Ia b i r = orR r i (b[i]?.getD 0) := rfl
  rw [this, O8, lAr, lA6, decide_eq_true_eq]
  constructor
  ·rintro (h | ⟨⟨h1, h2⟩, h3⟩)
   ·exact .inl h
   ·exact .inr ⟨h1, h3⟩
  ·rintro (h | ⟨h1, h3⟩)
   ·exact .inl h
   ·exact .inr ⟨⟨h1, by omega⟩, h3⟩
def Qs (e : Exec) (k : Nat) (i : Nat) (a : Nat) (d : Nat) (r : Rel) : Rel := N0 r a (Ae (e.ord[k]?.getD []) (i + 1 + d)).toNat
def Ni (e : Exec) (k : Nat) (i : Nat) (a b : Nat) (d : Nat) (r : Rel) : Rel := Hq (decide (Af e b = a) && decide (Ae (e.ord[k]?.getD []) (i + 1 + d) ≠ b)) r b (Ae (e.ord[k]?.getD []) (i + 1 + d)).toNat
def Tg (p : List Ev) (e : Exec) (k : Nat) (i : Nat) (a : Nat) (b : Nat) (r : Rel) : Rel :=
 Ag (Ni e k i a b) ((e.ord[k]?.getD []).length - (i + 1)) (Hq (decide (Af e b = -1) && decide ((evAt p b).op.loc = (k : Int)) && decide (a ≠ b)) r b a)
def Th (p : List Ev) (e : Exec) (k : Nat) (i : Nat) (r : Rel) : Rel :=
 Ag (Tg p e k i (Ae (e.ord[k]?.getD []) i).toNat) p.length (Ag (Qs e k i (Ae (e.ord[k]?.getD []) i).toNat) ((e.ord[k]?.getD []).length - (i + 1)) r)
def Qt (p : List Ev) (e : Exec) (k : Nat) (r : Rel) : Rel := Ag (Th p e k) (e.ord[k]?.getD []).length r
def Y0 (p : List Ev) (e : Exec) : Rel := Ag (Qt p e) 3 (Hr p e)
theorem Pv (e : Exec) (k i a : Nat) : ∀ d r, (Qs e k i a d r).length = r.length := fun _ _ => E1
theorem R7 (e : Exec) (k i a b : Nat) : ∀ d r, (Ni e k i a b d r).length = r.length := fun _ _ => I7
theorem U8 (p : List Ev) (e : Exec) (k i a : Nat) : ∀ b r, (Tg p e k i a b r).length = r.length := fun b r => by rw [Tg, Bu (R7 e k i a b), I7]
theorem U9 (p : List Ev) (e : Exec) (k : Nat) : ∀ i r, (Th p e k i r).length = r.length := fun i r => by rw [Th, Bu (U8 p e k i _), Bu (Pv e k i _)]
theorem Aj6 (p : List Ev) (e : Exec) : ∀ k r, (Qt p e k r).length = r.length := fun k r => Bu (U9 p e k) _ _
def Ap6 (p : List Ev) (e : Exec) (k : Nat) (l : List Int) (x y : Nat) : Prop :=
 Co1 l x y ∨ (x < p.length ∧ ∃ i, i < l.length ∧ ((Af e x = -1 ∧ (evAt p x).op.loc = (k : Int) ∧ Ae l i = y ∧ y ≠ x) ∨ (Af e x = Ae l i ∧ ∃ j, i < j ∧ j < l.length ∧ Ae l j = y ∧ y ≠ x)))
theorem Aj7 {p : List Ev} {e : Exec} (hp : p.length ≤ 16) {k : Nat} (hin : ∀ i, i < (e.ord[k]?.getD []).length → 0 ≤ Ae (e.ord[k]?.getD []) i ∧ Ae (e.ord[k]?.getD []) i < p.length) {x y : Nat} (r : Rel) (hr : r.length = 16) :
  A6 (Qt p e k r) x y = true ↔ A6 r x y = true ∨ Ap6 p e k (e.ord[k]?.getD []) x y := by
 unfold Ap6 Qt
 have hI : ∀ i r, i < (e.ord[k]?.getD []).length → r.length = 16 → (A6 (Th p e k i r) x y = true ↔ A6 r x y = true ∨
   ((∃ j, i < j ∧ j < (e.ord[k]?.getD []).length ∧ Ae (e.ord[k]?.getD []) i = x ∧ Ae (e.ord[k]?.getD []) j = y) ∨
    (x < p.length ∧ ((Af e x = -1 ∧ (evAt p x).op.loc = (k : Int) ∧ Ae (e.ord[k]?.getD []) i = y ∧ y ≠ x) ∨ (Af e x = Ae (e.ord[k]?.getD []) i ∧ ∃ j, i < j ∧ j < (e.ord[k]?.getD []).length ∧ Ae (e.ord[k]?.getD []) j = y ∧ y ≠ x))))) := by
  intro i r hi hr
  have wI := hin i hi
  obtain ⟨a, ha⟩ : ∃ a : Nat, Ae (e.ord[k]?.getD []) i = a := ⟨(Ae (e.ord[k]?.getD []) i).toNat, by omega⟩
  have hat : (Ae (e.ord[k]?.getD []) i).toNat = a := by omega
  unfold Th
  rw [hat, ha]
  have hJ : ∀ r : Rel, r.length = 16 → (A6 (Ag (Qs e k i a) ((e.ord[k]?.getD []).length - (i + 1)) r) x y = true ↔ A6 r x y = true ∨ ∃ j, i < j ∧ j < (e.ord[k]?.getD []).length ∧ x = a ∧ Ae (e.ord[k]?.getD []) j = y) := by
   intro r hr
   rw [B0 (P := fun d => x = a ∧ Ae (e.ord[k]?.getD []) (i + 1 + d) = y) (n := (e.ord[k]?.getD []).length - (i + 1)) (Pv e k i a) (fun d r hd hr => ?_) _ r (lA5 _) hr]
   ·constructor
    ·rintro (h | ⟨d, h1, h2, h3⟩)
     ·exact .inl h
     ·exact .inr ⟨i + 1 + d, by omega, by omega, h2, h3⟩
    ·rintro (h | ⟨j, h1, h2, h3, h4⟩)
     ·exact .inl h
     ·exact .inr ⟨j - (i + 1), by omega, h3, by rw [show i + 1 + (j - (i + 1)) = j by omega]; exact h4⟩
   ·have q2 := hin (i + 1 + d) (by omega)
    rw [Qs, Fo]
    constructor
    ·rintro (h | ⟨h1, h2, h3⟩)
     ·exact .inl h
     ·exact .inr ⟨h1, by omega⟩
    ·rintro (h | ⟨h1, h2⟩)
     ·exact .inl h
     ·exact .inr ⟨h1, by omega, by omega⟩
  have hB : ∀ b r, b < p.length → r.length = 16 → (A6 (Tg p e k i a b r) x y = true ↔ A6 r x y = true ∨ (x = b ∧ ((Af e x = -1 ∧ (evAt p x).op.loc = (k : Int) ∧ y = a ∧ y ≠ x) ∨ (Af e x = a ∧ ∃ j, i < j ∧ j < (e.ord[k]?.getD []).length ∧ Ae (e.ord[k]?.getD []) j = y ∧ y ≠ x)))) := by
   intro b r hb hr
   unfold Tg
   rw [B0 (P := fun d => x = b ∧ Af e b = a ∧ Ae (e.ord[k]?.getD []) (i + 1 + d) = y ∧ y ≠ b) (n := (e.ord[k]?.getD []).length - (i + 1)) (L := 16) (R7 e k i a b) (fun d r hd hr => ?_) _ _ (lA5 _) (by rw [I7, hr]), Lg]
   ·simp only [lA6, decide_eq_true_eq]
    constructor
    ·rintro ((h | ⟨⟨⟨h1, h2⟩, h3⟩, h4, h5, h6⟩) | ⟨d, h1, h2, h3, h4, h5⟩)
     ·exact .inl h
     ·subst h4; exact .inr ⟨rfl, .inl ⟨h1, h2, h6, by omega⟩⟩
     ·subst h2; exact .inr ⟨rfl, .inr ⟨h3, i + 1 + d, by omega, by omega, h4, h5⟩⟩
    ·rintro (h | ⟨rfl, ⟨h1, h2, h3, h4⟩ | ⟨h1, j, h2, h3, h4, h5⟩⟩)
     ·exact .inl (.inl h)
     ·exact .inl (.inr ⟨⟨⟨h1, h2⟩, by omega⟩, rfl, by omega, h3⟩)
     ·exact .inr ⟨j - (i + 1), by omega, rfl, h1, by rw [show i + 1 + (j - (i + 1)) = j by omega]; exact h4, h5⟩
   ·have q2 := hin (i + 1 + d) (by omega)
    rw [Ni, Lg, lA6, decide_eq_true_eq, decide_eq_true_eq]
    constructor
    ·rintro (h | ⟨⟨h1, h2⟩, h3, h4, h5⟩)
     ·exact .inl h
     ·exact .inr ⟨h3, h1, by omega, by omega⟩
    ·rintro (h | ⟨h1, h2, h3, h4⟩)
     ·exact .inl h
     ·exact .inr ⟨⟨h2, by omega⟩, h1, by omega, by omega⟩
  rw [B0 (P := fun b => x = b ∧ ((Af e x = -1 ∧ (evAt p x).op.loc = (k : Int) ∧ y = a ∧ y ≠ x) ∨ (Af e x = a ∧ ∃ j, i < j ∧ j < (e.ord[k]?.getD []).length ∧ Ae (e.ord[k]?.getD []) j = y ∧ y ≠ x))) (n := p.length) (L := 16) (U8 p e k i a) hB _ _ (lA5 _) (by rw [Bu (Pv e k i a), hr]), hJ r hr]
  constructor
  ·rintro ((h | ⟨j, h1, h2, h3, h4⟩) | ⟨b, h1, rfl, h2⟩)
   ·exact .inl h
   ·exact .inr (.inl ⟨j, h1, h2, by omega, h4⟩)
   ·refine .inr (.inr ⟨h1, ?_⟩)
    rcases h2 with ⟨g1, g2, g3, g4⟩ | h2
    ·exact .inl ⟨g1, g2, by omega, g4⟩
    ·exact .inr h2
  ·rintro (h | ⟨j, h1, h2, h3, h4⟩ | ⟨h1, h2⟩)
   ·exact .inl (.inl h)
   ·exact .inl (.inr ⟨j, h1, h2, by omega, h4⟩)
   ·refine .inr ⟨x, h1, rfl, ?_⟩
    rcases h2 with ⟨g1, g2, g3, g4⟩ | h2
    ·exact .inl ⟨g1, g2, by omega, g4⟩
    ·exact .inr h2
 rw [B0 (n := (e.ord[k]?.getD []).length) (L := 16) (U9 p e k) hI _ r (lA5 _) hr]
 unfold Co1
 constructor
 ·rintro (h | ⟨i, h1, ⟨j, h2, h3, h4, h5⟩ | ⟨h2, h3⟩⟩)
  ·exact .inl h
  ·exact .inr (.inl ⟨i, j, h2, h3, h4, h5⟩)
  ·exact .inr (.inr ⟨h2, i, h1, h3⟩)
 ·rintro (h | ⟨i, j, h2, h3, h4, h5⟩ | ⟨h2, i, h1, h3⟩)
  ·exact .inl h
  ·exact .inr ⟨i, by omega, .inl ⟨j, h2, h3, h4, h5⟩⟩
  ·exact .inr ⟨i, h1, .inr ⟨h2, h3⟩⟩
theorem Ab7 {p : List Ev} {e : Exec} (hl : p.length ≤ 16) (hp : POk p) (hs : Shape p e) {x y : Nat} : A6 (Y0 p e) x y = true ↔ Dl4 p e x y := by
 have hx := hs.xok (.inr trivial)
 have hin : ∀ k, k < 3 → ∀ i, i < (e.ord[k]?.getD []).length → 0 ≤ Ae (e.ord[k]?.getD []) i ∧ Ae (e.ord[k]?.getD []) i < p.length := by
  intro k hk i hi
  have hm : e.ord[k]?.getD [] ∈ e.ord := by
   have : k < e.ord.length := by rw [hs.ol]; exact hk
   rw [lA2 this, lAn]; exact lAm _
  exact (hx.oin _ hm).1.num hi
 rw [Y0, B0 (P := fun k => Ap6 p e k (e.ord[k]?.getD []) x y) (n := 3) (L := 16) (Aj6 p e) (fun k r hk hr => Aj7 hl (hin k hk) r hr) _ _ (lA5 _) (Eh p e), U7 hl (fun i hi => (hx.fr i hi).1)]
 unfold Dl4 Ap6
 have aH : ∀ {b : Nat} {a : Nat}, b < p.length → Af e b = a → (evAt p b).reads = true := by
  intro b a hb hf
  cases hr : (evAt p b).reads with
  | true => rfl
  | false => have := hs.out b hb hr; omega
 have fW : ∀ {b : Nat}, b < p.length → Af e b = -1 → (evAt p b).reads = true := by
  intro b hb hf
  cases hr : (evAt p b).reads with
  | true => rfl
  | false => have := hs.out b hb hr; omega
 have aJ : ∀ k, k < 3 → e.ord[k]?.getD [] ∈ e.ord := by
  intro k hk
  have : k < e.ord.length := by rw [hs.ol]; exact hk
  rw [lA2 this, lAn]; exact lAm _
 have bg : ∀ {b : Nat} {k i : Nat}, b < p.length → k < 3 → i < (e.ord[k]?.getD []).length → Af e b = Ae (e.ord[k]?.getD []) i → (evAt p b).op.loc = (k : Int) := by
  intro b k i hb hk hi hf
  obtain ⟨w, w1, w2, w3, w4, w5⟩ := Bb.1 ((hs.ord k hk).mem_iff.1 (Hp.2 ⟨i, hi, rfl⟩))
  rcases hs.src b hb (aH hb (hf.trans w1)) with h | ⟨w', g1, g2, g3, g4⟩
  ·omega
  ·have : w' = w := by omega
   subst this; rw [← g4]; exact w5
 have hat : ∀ {b : Nat} {k : Nat}, (evAt p b).op.loc = (k : Int) → Lz p e b = e.ord[k]?.getD [] := by
  intro b k h; unfold Lz; rw [h, lAy]
 constructor
 ·rintro (h | ⟨k, hk, h | ⟨h1, i, hi, ⟨g1, g2, g3, g4⟩ | ⟨g1, j, g2, g3, g4, g5⟩⟩⟩)
  ·exact .inr (.inl ⟨aH h.1 h.2, h⟩)
  ·exact .inl ⟨_, aJ k hk, h⟩
  ·refine .inr (.inr ⟨h1, fW h1 g1, g4, i, ?_, ?_, .inl g1⟩)
   ·rw [hat g2]; exact hi
   ·rw [hat g2]; exact g3
  ·have cW := bg h1 hk hi g1
   have h0 := hin k hk i hi
   obtain ⟨a, ha⟩ : ∃ a : Nat, Ae (e.ord[k]?.getD []) i = a := ⟨(Ae (e.ord[k]?.getD []) i).toNat, by omega⟩
   refine .inr (.inr ⟨h1, aH h1 (g1.trans ha), g5, j, ?_, ?_, .inr ⟨i, g2, ?_⟩⟩)
   ·rw [hat cW]; exact g3
   ·rw [hat cW]; exact g4
   ·rw [hat cW]; exact g1.symm
 ·rintro (⟨l, bf, h⟩ | ⟨_, h⟩ | ⟨h1, h2, h3, j, h4, h5, h6⟩)
  ·obtain ⟨k, hk, rfl⟩ := lBf bf
   have cH : k < 3 := by rw [← hs.ol]; exact hk
   refine .inr ⟨k, cH, .inl ?_⟩
   rw [lA2 hk, lAn]; exact h
  ·exact .inl h
  ·have cW := hp.loc x h1
   obtain ⟨k, hk⟩ : ∃ k : Nat, (evAt p x).op.loc = (k : Int) := ⟨(evAt p x).op.loc.toNat, by omega⟩
   rw [hat hk] at h4 h5 h6
   refine .inr ⟨k, by omega, .inr ⟨h1, ?_⟩⟩
   rcases h6 with h6 | ⟨i, i1, i2⟩
   ·exact ⟨j, h4, .inl ⟨h6, hk, h5, h3⟩⟩
   ·exact ⟨i, by omega, .inr ⟨i2.symm, j, i1, h4, h5, h3⟩⟩
theorem Pw {f : Nat → Nat → Nat} {P : Nat → Prop} {c : Nat} {n : Nat} (h : ∀ i s, i < n → ((f i s).testBit c = true ↔ s.testBit c = true ∨ P i)) : ∀ m s, m ≤ n → ((Ag f m s).testBit c = true ↔ s.testBit c = true ∨ ∃ i, i < m ∧ P i)
 | 0, s, _ => by simp [Ag]
 | m + 1, s, hm => by
  rw [Ag, h m _ (by omega), Pw h m s (by omega)]
  constructor
  ·rintro ((h | ⟨i, h1, h2⟩) | h)
   ·exact .inl h
   ·exact .inr ⟨i, by omega, h2⟩
   ·exact .inr ⟨m, by omega, h⟩
  ·rintro (h | ⟨i, h1, h2⟩)
   ·exact .inl (.inl h)
   ·by_cases hi : i = m
    ·subst hi; exact .inr h2
    ·exact .inl (.inr ⟨i, by omega, h2⟩)
theorem Lh {f : Nat → Nat → Nat} {n N : Nat} (h : ∀ i s, i < n → s < 2 ^ N → f i s < 2 ^ N) : ∀ m s, m ≤ n → s < 2 ^ N → Ag f m s < 2 ^ N
 | 0, _, _, h => h
 | m + 1, s, hm, hs => h m _ (by omega) (Lh h m s (by omega) hs)
def Gf (c : Bool) (s a : Nat) : Nat := if c then s ||| 2 ^ a else s
theorem I8 {c : Bool} {s a x : Nat} : (Gf c s a).testBit x = true ↔ s.testBit x = true ∨ (c = true ∧ x = a) := by
 unfold Gf
 cases c with
 | true =>
  rw [if_pos rfl, lD2, lAr, lCj, decide_eq_true_eq]
  constructor
  ·rintro (h | h)
   ·exact .inl h
   ·exact .inr ⟨rfl, h.symm⟩
  ·rintro (h | ⟨_, h⟩)
   ·exact .inl h
   ·exact .inr h.symm
 | false => simp
theorem Oc {c : Bool} {s a N : Nat} (h : s < 2 ^ N) (ha : a < N) : Gf c s a < 2 ^ N := by
 unfold Gf; split
 ·exact lCo h (lBk (by decide) ha)
 ·exact h
def chS (e : Exec) (a c : Nat) : Nat := Gf (B7 e.dn a && decide (0 ≤ Af e a) && c.testBit (Af e a).toNat) c a
def Di3 (p : List Ev) (e : Exec) (c : Nat) : Nat := Ag (chS e) p.length c
def chN (p : List Ev) (e : Exec) (k w : Nat) : Nat := Ag (fun _ c => Di3 p e c) k (2 ^ w)
def chW (p : List Ev) (e : Exec) (w : Nat) : Nat := chN p e p.length w
section
variable {p : List Ev} {e : Exec}
theorem Au5 {a c x : Nat} (h : c.testBit x = true) : (chS e a c).testBit x = true := I8.2 (.inl h)
theorem Ti {c x : Nat} : ∀ m, c.testBit x = true → (Ag (chS e) m c).testBit x = true
 | 0, h => h
 | m + 1, h => Au5 (Ti m h)
theorem R8 {c x : Nat} {b : Nat} (hd : B7 e.dn x = true) (hf : Af e x = (b : Nat)) (hb : c.testBit b = true) : ∀ m, x < m → (Ag (chS e) m c).testBit x = true
 | 0, h => by omega
 | m + 1, h => by
  by_cases hx : x = m
  ·subst hx
   refine I8.2 (.inr ⟨?_, rfl⟩)
   have h0 : (0 : Int) ≤ Af e x := by omega
   have ht : (Af e x).toNat = b := by omega
   rw [hd, ht, Ti x hb, decide_eq_true h0]; rfl
  ·exact Au5 (R8 hd hf hb m (by omega))
theorem Fr3 {p : List Ev} {e : Exec} (hs : Shape p e) {a b : Nat} (ha : a < p.length) (hd : B7 e.dn a = true) (hf : Af e a = (b : Nat)) : Ex1 p e a b := by
 refine ⟨?_, hf⟩
 unfold O1
 have hr : (evAt p a).reads = true := by
  cases hr : (evAt p a).reads with
  | true => rfl
  | false => have := hs.out a ha hr; omega
 rw [hr, lC5]; exact hd
theorem Px (hs : Shape p e) {w c : Nat} (hc : ∀ x, c.testBit x = true → x < p.length ∧ Back p e x w) : ∀ m, m ≤ p.length → ∀ x, (Ag (chS e) m c).testBit x = true → x < p.length ∧ Back p e x w
 | 0, _, x, h => hc x h
 | m + 1, hm, x, h => by
  have ih := Px hs hc m (by omega)
  rcases I8.1 h with h | ⟨h1, rfl⟩
  ·exact ih x h
  ·simp only [lA6, decide_eq_true_eq] at h1
   obtain ⟨⟨h1, h2⟩, h3⟩ := h1
   exact ⟨by omega, .on (Fr3 hs (by omega) h1 (by omega : Af e x = ((Af e x).toNat : Nat))) (ih _ h3).2⟩
theorem Va (hs : Shape p e) {w : Nat} (hw : w < p.length) : ∀ k x, (chN p e k w).testBit x = true → x < p.length ∧ Back p e x w
 | 0, x, h => by
  have : (2 ^ w).testBit x = true := h
  rw [lCj, decide_eq_true_eq] at this
  subst this; exact ⟨hw, .here⟩
 | k + 1, x, h => Px hs (Va hs hw k) _ (lA5 _) x h
theorem Xh (hx : XOk p e) {w : Nat} : ∀ (m k x : Nat), m ≤ k → x < p.length → Qp p e m x w → (chN p e k w).testBit x = true
 | m, 0, x, hk, _, hb => by
  have : m = 0 := by omega
  subst this
  have fF : x = w := hb
  subst fF
  show (2 ^ x).testBit x = true
  simp
 | 0, k + 1, x, hk, hl, hb => Ti _ (Xh hx 0 k x (by omega) hl hb)
 | m + 1, k + 1, x, hk, hl, ⟨v, h1, h2⟩ => by
  have hv : v < p.length := by
   have := (hx.fr x hl).1
   have := h1.2
   unfold Af at this; omega
  have hd : B7 e.dn x = true := by
   have := h1.1
   unfold O1 at this
   simp only [lA6] at this
   exact this.2
  exact R8 hd h1.2 (Xh hx m k v (by omega) hv h2) _ hl
theorem Aj8 (hs : Shape p e) (ap : T8 p e) {w x : Nat} (hw : w < p.length) : (chW p e w).testBit x = true ↔ x < p.length ∧ Back p e x w := by
 have hx := hs.xok (.inr trivial)
 refine ⟨Va hs hw _ x, fun ⟨h1, h2⟩ => ?_⟩
 obtain ⟨m, hm⟩ := h2.n
 refine Xh hx m _ x ?_ h1 hm
 obtain ⟨f, q1, q2, q3⟩ := hm.way
 have := S4 (R := fun a b => Rf e p.length b a) (f := f) (m := m) (n := p.length) (fun a ha => ap a ?_) (fun i hi => ?_) (fun i hi => ?_)
 ·omega
 ·have key : ∀ a b, TG (fun a b => Rf e p.length b a) a b → TG (Rf e p.length) b a := by
   intro a b h
   induction h with
   | one h => exact .one h
   | more h _ ih => exact ih.trans (.one h)
  exact key a a ha
 ·have := q3 i hi
  exact ⟨L6 hx this.1, this.2⟩
 ·by_cases h0 : i = 0
  ·subst h0; rw [q1]; exact h1
  ·have := q3 (i - 1) (by omega)
   rw [show i - 1 + 1 = i by omega] at this
   have h1 := (hx.fr _ (L6 hx this.1)).1
   have h2 := this.2
   unfold Af at h2; omega
end
def gr (p : List Ev) (w a : Nat) : Bool := (evAt p a).rel && (decide (a = w) || (decide ((evAt p a).op.kind = 5) && decide ((evAt p a).th = (evAt p w).th) && decide (a < w)))
def tlC (p : List Ev) (b a : Nat) : Bool := (evAt p a).acq && (decide (a = b) || (decide ((evAt p a).op.kind = 5) && decide ((evAt p a).th = (evAt p b).th) && decide (a > b)))
def jT (p : List Ev) (w : Nat) : Nat := Ag (fun a s => Gf (gr p w a) s a) p.length 0
def tlW (p : List Ev) (b : Nat) : Nat := Ag (fun a s => Gf (tlC p b a) s a) p.length 0
theorem Aj9 {p : List Ev} {w a : Nat} : gr p w a = true ↔ Up p w a := by
 unfold gr Up
 simp only [lA6, lAr, decide_eq_true_eq]
 constructor
 ·rintro ⟨h1, h2 | ⟨⟨h2, h3⟩, h4⟩⟩
  ·exact ⟨h1, .inl h2⟩
  ·exact ⟨h1, .inr ⟨h4, h3, h2⟩⟩
 ·rintro ⟨h1, h2 | ⟨h4, h3, h2⟩⟩
  ·exact ⟨h1, .inl h2⟩
  ·exact ⟨h1, .inr ⟨⟨h2, h3⟩, h4⟩⟩
theorem Ak0 {p : List Ev} {w x : Nat} (hw : w < p.length) : (jT p w).testBit x = true ↔ Up p w x := by
 rw [jT, Pw (P := fun a => gr p w a = true ∧ x = a) (n := p.length) (fun i s _ => I8) _ _ (lA5 _)]
 simp only [Nat.zero_testBit, lC8, false_or]
 constructor
 ·rintro ⟨i, _, h, rfl⟩; exact Aj9.1 h
 ·intro h; exact ⟨x, h.lt hw, Aj9.2 h, rfl⟩
theorem Bh4 {p : List Ev} {b x : Nat} (hb : b < p.length) : (tlW p b).testBit x = true ↔ An0 p b x := by
 rw [tlW, Pw (P := fun a => tlC p b a = true ∧ x = a) (n := p.length) (fun i s _ => I8) _ _ (lA5 _)]
 simp only [Nat.zero_testBit, lC8, false_or]
 unfold tlC An0
 simp only [lA6, lAr, decide_eq_true_eq]
 constructor
 ·rintro ⟨i, h0, ⟨h1, h2 | ⟨⟨h2, h3⟩, h4⟩⟩, rfl⟩
  ·exact ⟨h1, .inl h2⟩
  ·exact ⟨h1, .inr ⟨h4, h0, h3, h2⟩⟩
 ·rintro ⟨h1, h2 | ⟨h4, h0, h3, h2⟩⟩
  ·exact ⟨x, by omega, ⟨h1, .inl h2⟩, rfl⟩
  ·exact ⟨x, h0, ⟨h1, .inr ⟨⟨h2, h3⟩, h4⟩⟩, rfl⟩
def mtA (p : List Ev) (w b a : Nat) (r : Rel) : Rel := if (jT p w).testBit a then orR r a (tlW p b) else r
def mtB (p : List Ev) (e : Exec) (w b : Nat) (r : Rel) : Rel := if decide (Af e b < 0) || !(chW p e w).testBit (Af e b).toNat then r else Ag (mtA p w b) p.length r
def mtW (p : List Ev) (e : Exec) (w : Nat) (r : Rel) : Rel := if B7 e.dn w then Ag (mtB p e w) p.length r else r
def Li (p : List Ev) (e : Exec) : Rel := Ag (mtW p e) p.length B1
theorem Ak1 (p : List Ev) (w b : Nat) : ∀ a r, (mtA p w b a r).length = r.length := fun a r => by unfold mtA; split; exact S3; rfl
theorem Ak2 (p : List Ev) (e : Exec) (w : Nat) : ∀ b r, (mtB p e w b r).length = r.length := fun b r => by unfold mtB; split; rfl; exact Bu (Ak1 p w b) _ _
theorem Ak3 (p : List Ev) (e : Exec) : ∀ w r, (mtW p e w r).length = r.length := fun w r => by unfold mtW; split; exact Bu (Ak2 p e w) _ _; rfl
theorem Ew (p : List Ev) (e : Exec) : (Li p e).length = 16 := Bu (Ak3 p e) _ _
theorem Ab8 {p : List Ev} {e : Exec} (hl : p.length ≤ 16) (hs : Shape p e) (ap : T8 p e) {x y : Nat} : A6 (Li p e) x y = true ↔ Sw p e x y := by
 have hx := hs.xok (.inr trivial)
 have hA : ∀ w b a r, w < p.length → b < p.length → a < p.length → r.length = 16 → (A6 (mtA p w b a r) x y = true ↔ A6 r x y = true ∨ (x = a ∧ Up p w x ∧ An0 p b y)) := by
  intro w b a r hw hb ha hr
  unfold mtA
  split
  ·rename_i h
   rw [O8, lAr, lA6, decide_eq_true_eq, Bh4 hb]
   rw [Ak0 hw] at h
   constructor
   ·rintro (h1 | ⟨⟨h1, h2⟩, h3⟩)
    ·exact .inl h1
    ·subst h1; exact .inr ⟨rfl, h, h3⟩
   ·rintro (h1 | ⟨h1, h2, h3⟩)
    ·exact .inl h1
    ·exact .inr ⟨⟨h1, by omega⟩, h3⟩
  ·rename_i h
   rw [Ak0 hw] at h
   constructor
   ·exact .inl
   ·rintro (h1 | ⟨h1, h2, _⟩)
    ·exact h1
    ·subst h1; exact absurd h2 h
 have hB : ∀ w b r, w < p.length → b < p.length → r.length = 16 → (A6 (mtB p e w b r) x y = true ↔ A6 r x y = true ∨ (∃ v : Nat, Af e b = v ∧ Back p e v w) ∧ Up p w x ∧ An0 p b y) := by
  intro w b r hw hb hr
  unfold mtB
  have qj := (hx.fr b hb).1
  split
  ·rename_i h
   constructor
   ·exact .inl
   ·rintro (h1 | ⟨⟨v, h1, h2⟩, _⟩)
    ·exact h1
    ·exfalso
     simp only [lAr, decide_eq_true_eq, lB6] at h
     rcases h with h | h
     ·omega
     ·have hv : (Af e b).toNat = v := by omega
      rw [hv, (Aj8 hs ap hw).2 ⟨by unfold Af at h1; omega, h2⟩] at h
      cases h
  ·rename_i h
   simp only [lAr, decide_eq_true_eq, lB6, not_or, Bool.not_eq_false] at h
   obtain ⟨h1, h2⟩ := h
   have uf := ((Aj8 hs ap hw).1 h2).2
   rw [B0 (P := fun a => x = a ∧ Up p w x ∧ An0 p b y) (n := p.length) (L := 16) (Ak1 p w b) (fun a r ha hr => hA w b a r hw hb ha hr) _ r (lA5 _) hr]
   constructor
   ·rintro (g | ⟨a, _, _, g⟩)
    ·exact .inl g
    ·exact .inr ⟨⟨(Af e b).toNat, by omega, uf⟩, g⟩
   ·rintro (g | ⟨_, g⟩)
    ·exact .inl g
    ·exact .inr ⟨x, g.1.lt hw, rfl, g⟩
 have hW : ∀ w r, w < p.length → r.length = 16 → (A6 (mtW p e w r) x y = true ↔ A6 r x y = true ∨ (B7 e.dn w = true ∧ ∃ b, b < p.length ∧ (∃ v : Nat, Af e b = v ∧ Back p e v w) ∧ Up p w x ∧ An0 p b y)) := by
  intro w r hw hr
  unfold mtW
  split
  ·rename_i h
   rw [B0 (n := p.length) (L := 16) (Ak2 p e w) (fun b r hb hr => hB w b r hw hb hr) _ r (lA5 _) hr]
   constructor
   ·rintro (g | ⟨b, hb, g⟩)
    ·exact .inl g
    ·exact .inr ⟨h, b, hb, g⟩
   ·rintro (g | ⟨_, b, hb, g⟩)
    ·exact .inl g
    ·exact .inr ⟨b, hb, g⟩
  ·rename_i h
   constructor
   ·exact .inl
   ·rintro (g | ⟨g, _⟩)
    ·exact g
    ·exact absurd g h
 rw [Li, B0 (n := p.length) (L := 16) (Ak3 p e) hW _ _ (lA5 _) rfl, Jn]
 unfold Sw
 constructor
 ·rintro (h | ⟨w, hw, _, b, hb, ⟨v, h1, h2⟩, h3, h4⟩)
  ·cases h
  ·have hr : (evAt p b).reads = true := by
    cases hr : (evAt p b).reads with
    | true => rfl
    | false => have := hs.out b hb hr; omega
   exact ⟨b, v, w, hb, hr, h1, h2, h3, h4⟩
 ·rintro ⟨r, w, v, h1, h2, h3, h4, h5, h6⟩
  have ir : w < p.length ∧ B7 e.dn w = true := by
   rcases hs.src r h1 h2 with h | ⟨w', g1, g2, g3, _⟩
   ·omega
   ·have : w' = w := by omega
    subst this; exact ⟨g2, g3⟩
  have tE : v < p.length ∧ B7 e.dn v = true := by
   clear h5 h3
   induction h4 with
   | here => exact ir
   | @on w u v h _ ih =>
    refine ih ?_
    have hl := L6 hx h.1
    have hr : (evAt p w).reads = true := by
     have := h.1; unfold O1 at this; simp only [lA6] at this; exact this.1
    rcases hs.src w hl hr with g | ⟨w', g1, g2, g3, _⟩
    ·have := h.2; omega
    ·have : w' = u := by have := h.2; omega
     subst this; exact ⟨g2, g3⟩
  exact .inr ⟨v, tE.1, tE.2, r, h1, ⟨w, h3, h4⟩, h5, h6⟩
theorem zero16_ok : RelOk 16 B1 := RelOk.zero 16
theorem thrR_ok {p : List Ev} (hp : p.length ≤ 16) : RelOk 16 (T9 p) :=
 loopN_ok (n := p.length) (fun a r ha hr => loopN_ok (n := p.length - (a + 1)) (fun d r hd hr => putIf_ok hr a (by omega)) _ r (lA5 _) hr) _ _ (lA5 _) zero16_ok
theorem fromR_ok {p : List Ev} {e : Exec} (hp : p.length ≤ 16) : RelOk 16 (Hr p e) :=
 loopN_ok (n := p.length) (fun a r ha hr => putIf_ok hr _ (by omega)) _ _ (lA5 _) zero16_ok
theorem turnsR_ok {fen : List Int} (hin : ∀ k, k < fen.length → 0 ≤ Ae fen k ∧ Ae fen k < 16) : RelOk 16 (F9 fen) :=
 loopN_ok (n := fen.length) (fun i r hi hr => loopN_ok (n := fen.length - (i + 1)) (fun d r hd hr => by have := hin (i + 1 + d) (by omega); exact hr.put _ (by omega)) _ r (lA5 _) hr) _ _ (lA5 _) zero16_ok
theorem unionR_ok {a b : Rel} (ha : RelOk 16 a) (hb : RelOk 16 b) : RelOk 16 (Cu a b) :=
 loopN_ok (n := 16) (fun i r hi hr => hr.or i (hb.lt i)) _ _ (lA5 _) ha
theorem Ak4 {p : List Ev} (hp : p.length ≤ 16) (b : Nat) : tlW p b < 2 ^ 16 := Lh (n := p.length) (fun i s hi hs => Oc hs (by omega)) _ _ (lA5 _) (by decide)
theorem meetsR_ok {p : List Ev} {e : Exec} (hp : p.length ≤ 16) : RelOk 16 (Li p e) := by
 refine loopN_ok (n := p.length) (fun w r hw hr => ?_) _ _ (lA5 _) zero16_ok
 unfold mtW; split
 ·refine loopN_ok (n := p.length) (fun b r hb hr => ?_) _ _ (lA5 _) hr
  unfold mtB; split
  ·exact hr
  ·refine loopN_ok (n := p.length) (fun a r ha hr => ?_) _ _ (lA5 _) hr
   unfold mtA; split
   ·exact hr.or a (Ak4 hp b)
   ·exact hr
 ·exact hr
theorem seenR0_ok {p : List Ev} {e : Exec} (hp : p.length ≤ 16) (hin : ∀ k, k < 3 → ∀ i, i < (e.ord[k]?.getD []).length → 0 ≤ Ae (e.ord[k]?.getD []) i ∧ Ae (e.ord[k]?.getD []) i < p.length) : RelOk 16 (Y0 p e) := by
 refine loopN_ok (n := 3) (fun k r hk hr => ?_) _ _ (lA5 _) (fromR_ok hp)
 refine loopN_ok (n := (e.ord[k]?.getD []).length) (fun i r hi hr => ?_) _ _ (lA5 _) hr
 refine loopN_ok (n := p.length) (fun b r hb hr => ?_) _ _ (lA5 _) (loopN_ok (n := (e.ord[k]?.getD []).length - (i + 1)) (fun d r hd hr => ?_) _ _ (lA5 _) hr)
 ·have h1 := hin k hk i hi
  refine loopN_ok (n := (e.ord[k]?.getD []).length - (i + 1)) (fun d r hd hr => ?_) _ _ (lA5 _) (putIf_ok hr _ (by omega))
  have h2 := hin k hk (i + 1 + d) (by omega)
  exact putIf_ok hr _ (by omega)
 ·have h2 := hin k hk (i + 1 + d) (by omega)
  exact hr.put _ (by omega)
def Mb (p : List Ev) (e : Exec) : Rel := Ca (Cu (T9 p) (Cu (Li p e) (F9 e.fen)))
def Fp (p : List Ev) (e : Exec) : Rel := Ca (Y0 p e)
def Ad2 (p : List Ev) (e : Exec) : Rel := Ca (Cu (T9 p) (Cu (Hr p e) (F9 e.fen)))
def Gg (hb eco : Rel) : Bool := Be hb || (List.range 16).any fun a => (List.range 16).any fun b => A6 hb a b && A6 eco b a
theorem Tj {p : List Ev} (hm : L5 p) {x y : Nat} (h1 : x < y) (h2 : y < p.length) (h3 : (evAt p x).th = (evAt p y).th) : TG (Sb1 p) x y := by
 have key : ∀ (d a : Nat), a + d + 1 < p.length → (evAt p a).th = (evAt p (a + d + 1)).th → TG (Sb1 p) a (a + d + 1) := by
  intro d
  induction d with
  | zero => intro a h ht; exact .one ⟨rfl, h, ht.symm⟩
  | succ d ih =>
   intro a h ht
   have h1 := hm.between (a := a) (b := a + (d + 1) + 1) (x := a + d + 1) h (by omega) (by omega) ht
   exact (ih a (by omega) (by rw [h1]; exact ht)).trans (.one ⟨by omega, h, h1.symm⟩)
 have := key (y - x - 1) x (by omega) (by rw [show x + (y - x - 1) + 1 = y by omega]; exact h3)
 rwa [show x + (y - x - 1) + 1 = y by omega] at this
theorem Tk {l : List Int} (hp : ∀ k, k < l.length → 0 ≤ Ae l k) {x y : Nat} (h : Co1 l x y) : TG (Fo1 l) x y := by
 obtain ⟨i, j, gK, hj, h1, h2⟩ := h
 have key : ∀ (d j a b : Nat), j + d + 1 < l.length → Ae l j = a → Ae l (j + d + 1) = b → TG (Fo1 l) a b := by
  intro d
  induction d with
  | zero => intro j a b h ha hb; exact .one ⟨j, h, ha, hb⟩
  | succ d ih =>
   intro j a b h ha hb
   have h1 := hp (j + d + 1) (by omega)
   obtain ⟨c, hc⟩ : ∃ c : Nat, Ae l (j + d + 1) = c := ⟨(Ae l (j + d + 1)).toNat, by omega⟩
   exact (ih j a c (by omega) ha hc).trans (.one ⟨j + d + 1, by omega, hc, by rw [← hb]; congr 1⟩)
 exact key (j - i - 1) i x y (by omega) h1 (by rw [show i + (j - i - 1) + 1 = j by omega]; exact h2)
theorem Au6 {l : List Int} {x y : Nat} (h : Fo1 l x y) : Co1 l x y := by
 obtain ⟨j, h1, h2, h3⟩ := h; exact ⟨j, j + 1, by omega, h1, h2, h3⟩
theorem Au7 {p : List Ev} {x y : Nat} (h : Sb1 p x y) : x < y ∧ y < p.length ∧ (evAt p x).th = (evAt p y).th := ⟨by have := h.1; omega, h.2.1, h.2.2.symm⟩
section
variable {p : List Ev} {e : Exec} (hl : p.length ≤ 16) (hm : L5 p) (hs : Shape p e)
include hl hm hs
theorem Vb : ∀ k, k < e.fen.length → 0 ≤ Ae e.fen k ∧ Ae e.fen k < 16 := fun k hk => by
 have := ((hs.xok (.inr trivial)).fin.1).num hk; omega
theorem Ap7 {x y : Nat} : A6 (Ad2 p e) x y = true ↔ TG (fun a b => Sb1 p a b ∨ Fo1 e.fen a b ∨ Rf e p.length a b) x y := by
 have hx := hs.xok (.inr trivial)
 have hf := Vb hl hm hs
 rw [Ad2, Ds (unionR_ok (thrR_ok hl) (unionR_ok (fromR_ok hl) (turnsR_ok hf)))]
 have dC : ∀ a b, A6 (Cu (T9 p) (Cu (Hr p e) (F9 e.fen))) a b = true ↔ (a < b ∧ b < p.length ∧ (evAt p a).th = (evAt p b).th) ∨ Rf e p.length a b ∨ Co1 e.fen a b := fun a b => by
  rw [By (Gr p) (by rw [Eu, Eh]), Yz hl, By (Eh p e) (Hs _), U7 hl (fun i hi => (hx.fr i hi).1), Ma hf]
 refine TG.iff (fun a b h => ?_) (fun a b h => .one ((dC a b).2 ?_))
 ·rcases (dC a b).1 h with ⟨h1, h2, h3⟩ | h | h
  ·exact (Tj hm h1 h2 h3).mono fun _ _ k => .inl k
  ·exact .one (.inr (.inr h))
  ·exact (Tk (fun k hk => (hf k hk).1) h).mono fun _ _ k => .inr (.inl k)
 ·rcases h with h | h | h
  ·exact .inl (Au7 h)
  ·exact .inr (.inr (Au6 h))
  ·exact .inr (.inl h)
theorem Tl (ap : T8 p e) {x y : Nat} : A6 (Mb p e) x y = true ↔ Hb p e x y := by
 have hf := Vb hl hm hs
 rw [Mb, Ds (unionR_ok (thrR_ok hl) (unionR_ok (meetsR_ok hl) (turnsR_ok hf)))]
 have dC : ∀ a b, A6 (Cu (T9 p) (Cu (Li p e) (F9 e.fen))) a b = true ↔ (a < b ∧ b < p.length ∧ (evAt p a).th = (evAt p b).th) ∨ Sw p e a b ∨ Co1 e.fen a b := fun a b => by
  rw [By (Gr p) (by rw [Eu, Ew]), Yz hl, By (Ew p e) (Hs _), Ab8 hl hs ap, Ma hf]
 refine TG.iff (fun a b h => ?_) (fun a b h => .one ((dC a b).2 ?_))
 ·rcases (dC a b).1 h with ⟨h1, h2, h3⟩ | h | h
  ·exact (Tj hm h1 h2 h3).mono fun _ _ k => .inl k
  ·exact .one (.inr (.inr h))
  ·exact (Tk (fun k hk => (hf k hk).1) h).mono fun _ _ k => .inr (.inl k)
 ·rcases h with h | h | h
  ·exact .inl (Au7 h)
  ·exact .inr (.inr (Au6 h))
  ·exact .inr (.inl h)
theorem Y1 : ∀ k, k < 3 → ∀ i, i < (e.ord[k]?.getD []).length → 0 ≤ Ae (e.ord[k]?.getD []) i ∧ Ae (e.ord[k]?.getD []) i < p.length := by
 intro k hk i hi
 have hm : e.ord[k]?.getD [] ∈ e.ord := by
  have : k < e.ord.length := by rw [hs.ol]; exact hk
  rw [lA2 this, lAn]; exact lAm _
 exact ((hs.xok (.inr trivial)).oin _ hm).1.num hi
theorem Vc (hp : POk p) {x y : Nat} : A6 (Fp p e) x y = true ↔ Eco p e x y := by
 rw [Fp, Ds (seenR0_ok hl (Y1 hl hm hs))]
 exact TG.congr fun a b => Ab7 hl hp hs
theorem Lj (hp : POk p) (ap : T8 p e) : Gg (Mb p e) (Fp p e) = true ↔ Qr p e := by
 unfold Gg Qr
 rw [lAr, C1]
 refine or_congr (exists_congr fun a => Tl hl hm hs ap) ?_
 simp only [lBx, lAl, lA6]
 have ai : RelOk 16 (Mb p e) := (unionR_ok (thrR_ok hl) (unionR_ok (meetsR_ok hl) (turnsR_ok (Vb hl hm hs)))).close
 constructor
 ·rintro ⟨a, _, b, _, h1, h2⟩
  exact ⟨a, b, (Tl hl hm hs ap).1 h1, (Vc hl hm hs hp).1 h2⟩
 ·rintro ⟨a, b, h1, h2⟩
  have dZ := (Tl hl hm hs ap).2 h1
  have := ai.has dZ
  exact ⟨a, this.1, b, this.2, dZ, (Vc hl hm hs hp).2 h2⟩
theorem Ht : Be (Ad2 p e) = true ↔ F6 p e := by
 rw [C1]; exact exists_congr fun a => Ap7 hl hm hs
end
inductive Kn (p : List Ev) (f : List Int) : Nat → Int → Prop
 | init {i : Nat} (hi : i < p.length) (hr : (evAt p i).reads = true) (h : B4 f i = -1) : Kn p f i 0
 | store {i w : Nat} (hi : i < p.length) (hr : (evAt p i).reads = true) (h : B4 f i = w) (hk : (evAt p w).op.kind = 1) : Kn p f i (evAt p w).op.v
 | cas {i w : Nat} (hi : i < p.length) (hr : (evAt p i).reads = true) (h : B4 f i = w) (hk : (evAt p w).op.kind = 3 ∨ (evAt p w).op.kind = 4) : Kn p f i (evAt p w).op.w
 | add {i w : Nat} {x : Int} (hi : i < p.length) (hr : (evAt p i).reads = true) (h : B4 f i = w) (hk : (evAt p w).op.kind = 2) (hw : Kn p f w x) : Kn p f i (IntKind.i64.wrap (x + (evAt p w).op.v))
theorem Kn.lt {p : List Ev} {f : List Int} {i : Nat} {x : Int} (h : Kn p f i x) : i < p.length ∧ (evAt p i).reads = true := by cases h <;> exact ⟨by assumption, by assumption⟩
theorem Kn.uniq {p : List Ev} {f : List Int} {i : Nat} {x y : Int} (h : Kn p f i x) (k : Kn p f i y) : x = y := by
 induction h generalizing y with
 | init hi hr h => cases k with
  | init => rfl
  | store _ _ h' => omega
  | cas _ _ h' => omega
  | add _ _ h' => omega
 | @store i w hi hr h hk => cases k with
  | init _ _ h' => omega
  | @store _ w' _ _ h' af =>
   have : w' = w := by omega
   subst this; rfl
  | @cas _ w' _ _ h' af =>
   have : w' = w := by omega
   subst this; omega
  | @add _ w' _ _ _ h' af =>
   have : w' = w := by omega
   subst this; omega
 | @cas i w hi hr h hk => cases k with
  | init _ _ h' => omega
  | @store _ w' _ _ h' af =>
   have : w' = w := by omega
   subst this; omega
  | @cas _ w' _ _ h' af =>
   have : w' = w := by omega
   subst this; rfl
  | @add _ w' _ _ _ h' af =>
   have : w' = w := by omega
   subst this; omega
 | @add i w x hi hr h hk hw ih => cases k with
  | init _ _ h' => omega
  | @store _ w' _ _ h' af =>
   have : w' = w := by omega
   subst this; omega
  | @cas _ w' _ _ h' af =>
   have : w' = w := by omega
   subst this; omega
  | @add _ w' y _ _ h' af gN =>
   have : w' = w := by omega
   subst this; rw [ih gN]
theorem Kn.ends {p : List Ev} {f : List Int} {i : Nat} {x : Int} (h : Kn p f i x) (g : Nat → Nat) (h0 : g 0 = i) (hg : ∀ j, B4 f (g j) = (g (j + 1) : Nat) ∧ (evAt p (g (j + 1))).op.kind = 2) : False := by
 induction h generalizing g with
 | init hi hr h => have := (hg 0).1; rw [h0] at this; omega
 | @store i w hi hr h hk =>
  have h1 := hg 0
  rw [h0, lBi] at h1
  have : w = g 1 := by omega
  rw [this] at hk; omega
 | @cas i w hi hr h hk =>
  have h1 := hg 0
  rw [h0, lBi] at h1
  have : w = g 1 := by omega
  rw [this] at hk; omega
 | @add i w x hi hr h hk hw ih =>
  have h1 := hg 0
  rw [h0, lBi] at h1
  exact ih (fun j => g (j + 1)) (by show g 1 = w; omega) (fun j => hg (j + 1))
theorem Vd {n m : Nat} {g : Nat → Nat} {F : Nat → Int} {Q : Nat → Prop} (hm : n ≤ m) (hl : ∀ j, j ≤ m → g j < n) (hg : ∀ j, j < m → F (g j) = (g (j + 1) : Nat) ∧ Q (g (j + 1))) : ∃ G : Nat → Nat, G 0 = g 0 ∧ ∀ j, F (G j) = (G (j + 1) : Nat) ∧ Q (G (j + 1)) := by
 have qk : ∃ a b, a < b ∧ b ≤ m ∧ g a = g b := by
  apply lC7
  intro aI
  have hnd : ((List.range (m + 1)).map g).Nodup := by
   rw [lBv, lDp, lBc]
   intro i j hi hj gK he
   rw [lE4] at hi hj
   simp only [lDl] at he
   exact aI ⟨i, j, gK, by omega, he⟩
  have := Pc n _ hnd (fun x hx => by
   obtain ⟨i, hi, rfl⟩ := lAk.1 hx
   rw [lAl] at hi
   exact hl i (by omega))
  simp at this
  omega
 obtain ⟨a, b, gb, tF, he⟩ := qk
 let red : Nat → Nat := fun j => if j < b then j else a + (j - a) % (b - a)
 have nT : ∀ j, red j < b := by
  intro j
  show (if j < b then j else a + (j - a) % (b - a)) < b
  split
  ·assumption
  ·have := Nat.mod_lt (j - a) (show 0 < b - a by omega); omega
 refine ⟨fun j => g (red j), by show g (red 0) = g 0; congr 1; show (if 0 < b then 0 else _) = 0; rw [if_pos (by omega)], fun j => ?_⟩
 have h1 := hg (red j) (by have := nT j; omega)
 have hs : g (red j + 1) = g (red (j + 1)) := by
  have hr := nT j
  by_cases hj : j + 1 < b
  ·have e1 : red j = j := by show (if j < b then j else _) = j; rw [if_pos (by omega)]
   have e2 : red (j + 1) = j + 1 := by show (if j + 1 < b then j + 1 else _) = j + 1; rw [if_pos hj]
   rw [e1, e2]
  ·have e2 : red (j + 1) = a + (j + 1 - a) % (b - a) := by show (if j + 1 < b then j + 1 else _) = _; rw [if_neg hj]
   have e1 : red j = a + (j - a) % (b - a) := by
    show (if j < b then j else _) = _
    split
    ·rw [lCh (by omega)]; omega
    ·rfl
   rw [e1, e2]
   have eY := Nat.mod_lt (j - a) (show 0 < b - a by omega)
   have qm : (j + 1 - a) % (b - a) = if (j - a) % (b - a) + 1 = b - a then 0 else (j - a) % (b - a) + 1 := by
    have e3 : j + 1 - a = (j - a) + 1 := by omega
    rw [e3]
    split
    ·rename_i h
     rw [Nat.add_mod, ← h]
     rw [h]
     by_cases h1 : b - a = 1
     ·rw [h1]; omega
     ·rw [lCh (show 1 < b - a by omega), h, Nat.mod_self]
    ·rename_i h
     rw [Nat.add_mod]
     by_cases h1 : b - a = 1
     ·rw [h1] at h eY; omega
     ·rw [lCh (show 1 < b - a by omega), lCh (by omega)]
   rw [qm]
   split
   ·rename_i h
    have : a + (j - a) % (b - a) + 1 = b := by omega
    rw [this, lDc]; exact he.symm
   ·rfl
 rw [hs] at h1
 exact h1
section
variable {p : List Ev} {f : List Int}
structure Wd.Knows (p : List Ev) (f : List Int) (s : Wd) : Prop where
 k : ∀ i, s.K i = true → Kn p f i (s.R i)
 t : ∀ i, s.T i = true → ((evAt p i).op.kind = 1 ∧ s.W i = (evAt p i).op.v) ∨ ((evAt p i).op.kind = 2 ∧ ∃ x, Kn p f i x ∧ s.W i = IntKind.i64.wrap (x + (evAt p i).op.v)) ∨ (((evAt p i).op.kind = 3 ∨ (evAt p i).op.kind = 4) ∧ s.W i = (evAt p i).op.w)
theorem Wd.Knows.read {s : Wd} (h : s.Knows p f) {i w : Nat} (hi : i < p.length) (hr : (evAt p i).reads = true) (hw : B4 f i = w) (ht : s.T w = true) : Kn p f i (s.W w) := by
 rcases h.t w ht with ⟨h1, h2⟩ | ⟨h1, x, h2, h3⟩ | ⟨h1, h2⟩
 ·rw [h2]; exact .store hi hr hw h1
 ·rw [h3]; exact .add hi hr hw h1 h2
 ·rw [h2]; exact .cas hi hr hw h1
theorem Ve (hf : Df p f) {s : Wd} {i : Nat} (hi : i < p.length) (bp : s.Inv p f) (h : s.Knows p f) : (Cn p f s i).Knows p f := by
 have hl := bp.len
 have eT : i < s.k.length := by rw [hl.k]; exact hi
 have jP : i < s.r.length := by rw [hl.r]; exact hi
 unfold Cn
 split
 ·rename_i hc
  simp only [lA6, decide_eq_true_eq] at hc
  have hK : ∀ j, ({ s with k := s.k.set i true } : Wd).K j = if j = i then true else s.K j := fun j => Bg eT
  refine ⟨fun j hj => ?_, h.t⟩
  rw [hK] at hj
  by_cases bD : j = i
  ·subst bD
   show Kn p f j (s.R j)
   cases hk : s.K j with
   | true => exact h.k j hk
   | false => rw [bp.n j hk]; exact .init hi hc.1 hc.2
  ·rw [if_neg bD] at hj; exact h.k j hj
 ·split
  ·rename_i hc dw
   simp only [lA6, decide_eq_true_eq, not_and] at hc dw
   have hne : B4 f i ≠ -1 := hc dw.1
   obtain ⟨w, hw⟩ : ∃ w : Nat, B4 f i = w := by
    rcases hf.2 i hi dw.1 with h1 | ⟨h1, _⟩
    ·exact absurd h1 hne
    ·exact ⟨(B4 f i).toNat, by unfold B4; omega⟩
   have iG : (f[i]?.getD 0).toNat = w := by unfold B4 at hw; omega
   rw [iG] at dw
   rw [iG]
   have hK : ∀ j, ({ s with r := s.r.set i (s.w[w]?.getD 0), k := s.k.set i true } : Wd).K j = if j = i then true else s.K j := fun j => Bg eT
   have hR : ∀ j, ({ s with r := s.r.set i (s.w[w]?.getD 0), k := s.k.set i true } : Wd).R j = if j = i then s.W w else s.R j := fun j => Bg jP
   refine ⟨fun j hj => ?_, h.t⟩
   rw [hK] at hj
   rw [hR]
   by_cases bD : j = i
   ·subst bD; rw [if_pos rfl]; exact h.read hi dw.1 hw dw.2
   ·rw [if_neg bD] at hj ⊢; exact h.k j hj
  ·exact h
theorem Tm {s : Wd} {i : Nat} (hi : i < p.length) (hl : s.Len p.length) (h : s.Knows p f) : (Cz p s i).Knows p f := by
 have lx : i < s.w.length := by rw [hl.w]; exact hi
 have dR : i < s.t.length := by rw [hl.t]; exact hi
 have key : ∀ (x : Int) (b : Bool), (b = true → ((evAt p i).op.kind = 1 ∧ x = (evAt p i).op.v) ∨ ((evAt p i).op.kind = 2 ∧ ∃ y, Kn p f i y ∧ x = IntKind.i64.wrap (y + (evAt p i).op.v)) ∨ (((evAt p i).op.kind = 3 ∨ (evAt p i).op.kind = 4) ∧ x = (evAt p i).op.w)) →
   ({ s with w := s.w.set i x, t := s.t.set i b } : Wd).Knows p f := by
  intro x b h2
  have hT : ∀ j, ({ s with w := s.w.set i x, t := s.t.set i b } : Wd).T j = if j = i then b else s.T j := fun j => Bg dR
  have hW : ∀ j, ({ s with w := s.w.set i x, t := s.t.set i b } : Wd).W j = if j = i then x else s.W j := fun j => Bg lx
  refine ⟨h.k, fun j hj => ?_⟩
  rw [hT] at hj
  rw [hW]
  by_cases bD : j = i
  ·subst bD; rw [if_pos rfl] at hj ⊢; exact h2 hj
  ·rw [if_neg bD] at hj ⊢; exact h.t j hj
 unfold Cz
 split
 ·rename_i hk; exact key _ _ fun _ => .inl ⟨hk, rfl⟩
 ·split
  ·rename_i hk; exact key _ _ fun hb => .inr (.inl ⟨hk, _, h.k i hb, rfl⟩)
  ·split
   ·rename_i hk; exact key _ _ fun _ => .inr (.inr ⟨hk, rfl⟩)
   ·exact h
theorem Py (hf : Df p f) {s : Wd} (bp : s.Inv p f) (h : s.Knows p f) : ∀ m, m ≤ p.length → (Dd p f s m).Knows p f
 | 0, _ => h
 | m + 1, hm => by
  have ih := Py hf bp h m (by omega)
  have hi := (E8 hf bp m (by omega)).1
  exact Tm (by omega) (R0 hf (i := m) (by omega) hi).1.len (Ve hf (by omega) hi ih)
theorem Nj (hf : Df p f) : ∀ k, (Bk p f k).Knows p f
 | 0 => by
  have hT : ∀ i, (wd0 p.length).T i = false := fun i => by simp only [Wd.T, wd0, lBy]; split <;> rfl
  have hK : ∀ i, (wd0 p.length).K i = false := fun i => by simp only [Wd.K, wd0, lBy]; split <;> rfl
  exact ⟨fun i h => absurd ((hK i).symm.trans h) (by decide), fun i h => absurd ((hT i).symm.trans h) (by decide)⟩
 | k + 1 => Py hf (Dt hf k) (Nj hf k) _ (lA5 _)
theorem Nk (hf : Df p f) (hs : L7 p f) : ∀ (m i : Nat), i < p.length → (evAt p i).reads = true → (Bk p f (m + 1)).K i = false →
  ∃ g : Nat → Nat, g 0 = i ∧ (∀ j, j ≤ m → g j < p.length) ∧ ∀ j, j < m → B4 f (g j) = (g (j + 1) : Nat) ∧ (evAt p (g (j + 1))).op.kind = 2
 | 0, i, hi, _, _ => ⟨fun _ => i, rfl, fun _ _ => hi, fun j hj => by omega⟩
 | m + 1, i, hi, hr, hk => by
  obtain ⟨_, _, h3, _, _⟩ := E8 hf (Dt hf (m + 1)) p.length (lA5 _)
  obtain ⟨_, _, _, k4, _⟩ := E8 hf (Dt hf m) p.length (lA5 _)
  have hn : B4 f i ≠ -1 := fun e => by
   have := h3 i hi ⟨hr, .inl e⟩
   rw [show Dd p f (Bk p f (m + 1)) p.length = Bk p f (m + 1 + 1) from rfl, hk] at this; cases this
  obtain ⟨w, hw⟩ : ∃ w : Nat, B4 f i = w := by
   rcases hf.2 i hi hr with h1 | ⟨h1, _⟩
   ·exact absurd h1 hn
   ·exact ⟨(B4 f i).toNat, by unfold B4; omega⟩
  obtain ⟨cY, cM, uT⟩ := hs i w hi hr hw
  have hT : (Bk p f (m + 1)).T w = false := by
   cases ht : (Bk p f (m + 1)).T w with
   | false => rfl
   | true =>
    have := h3 i hi ⟨hr, .inr ⟨w, hw, ht⟩⟩
    rw [show Dd p f (Bk p f (m + 1)) p.length = Bk p f (m + 1 + 1) from rfl, hk] at this; cases this
  have cU : (evAt p w).op.kind = 2 := by
   apply lBe; intro h2
   have := k4 w cY (by omega)
   rw [show Dd p f (Bk p f m) p.length = Bk p f (m + 1) from rfl, hT] at this; cases this
  have jr : (Bk p f (m + 1)).K w = false := by
   cases ht : (Bk p f (m + 1)).K w with
   | false => rfl
   | true =>
    have := k4 w cY (.inr (.inl ⟨cU, ht⟩))
    rw [show Dd p f (Bk p f m) p.length = Bk p f (m + 1) from rfl, hT] at this; cases this
  obtain ⟨g, g1, g2, g3⟩ := Nk hf hs m w cY (by simp [Ev.reads, cU]) jr
  refine ⟨fun j => if j = 0 then i else g (j - 1), rfl, fun j hj => ?_, fun j hj => ?_⟩
  ·by_cases h0 : j = 0
   ·simp [h0, hi]
   ·simp only [h0, if_false]; exact g2 _ (by omega)
  ·by_cases h0 : j = 0
   ·subst h0; simpa [g1] using ⟨hw, cU⟩
   ·have := g3 (j - 1) (by omega)
    rw [show j - 1 + 1 = j by omega] at this
    simpa [h0] using this
theorem Xi (hf : Df p f) (hs : L7 p f) {i : Nat} (hi : i < p.length) (hr : (evAt p i).reads = true) : ((Aw p f).K i = true ↔ ∃ x, Kn p f i x) ∧ ∀ x, Kn p f i x → (Aw p f).R i = x := by
 have hk := Nj hf (p.length + 1)
 have hall : ∀ x, Kn p f i x → (Aw p f).K i = true := by
  intro x hx
  cases h : (Aw p f).K i with
  | true => rfl
  | false =>
   exfalso
   obtain ⟨g, g1, g2, g3⟩ := Nk hf hs p.length i hi hr h
   obtain ⟨G, e1, e2⟩ := Vd (F := B4 f) (Q := fun w => (evAt p w).op.kind = 2) (lA5 _) g2 g3
   exact hx.ends G (e1.trans g1) e2
 refine ⟨⟨fun h => ⟨_, hk.k i h⟩, fun ⟨x, hx⟩ => hall x hx⟩, fun x hx => (hk.k i (hall x hx)).uniq hx⟩
end
def Tn (p : List Ev) (e : Exec) : Prop := ∀ i x, Kn p e.frm i x →
 ((evAt p i).op.kind = 3 → (B7 e.dn i = true ↔ x = (evAt p i).op.v)) ∧ ((evAt p i).op.kind = 4 → B7 e.dn i = true → x = (evAt p i).op.v)
theorem Pz {p : List Ev} {e : Exec} (hs : Shape p e) (ap : T8 p e) {i : Nat} (hi : i < p.length) (hr : (evAt p i).reads = true) : Kn p e.frm i ((Aw p e.frm).R i) := by
 have h := H7 hs.fromOk hs.srcOk ap hi hr
 obtain ⟨x, hx⟩ := (Xi hs.fromOk hs.srcOk hi hr).1.1 h
 rw [(Xi hs.fromOk hs.srcOk hi hr).2 x hx]; exact hx
theorem Vf {p : List Ev} {e : Exec} (hs : Shape p e) (ap : T8 p e) : Tn p e ↔ Uw p e := by
 constructor
 ·intro h i hi
  refine ⟨fun k3 => ?_, fun k4 => ?_⟩
  ·exact (h i _ (Pz hs ap hi (by simp [Ev.reads, k3]))).1 k3
  ·exact (h i _ (Pz hs ap hi (by simp [Ev.reads, k4]))).2 k4
 ·intro h i x hx
  obtain ⟨hi, hr⟩ := hx.lt
  have := (Xi hs.fromOk hs.srcOk hi hr).2 x hx
  rw [← this]; exact h i hi
open Classical in
noncomputable def Ei (p : List Ev) (e : Exec) : Int :=
 if Shape p e ∧ Tn p e then (if F6 p e then 2 else if Qr p e then 3 else if K8 p e then 0 else 4) else 1
theorem R9 {p : List Ev} (hp : POk p) (hm : L5 p) {e : Exec} : Ei p e = 0 ↔ e ∈ Cf p := by
 rw [Lb hp hm]
 unfold Ei
 constructor
 ·intro h
  split at h
  ·rename_i hs
   split at h
   ·cases h
   ·rename_i hr
    split at h
    ·cases h
    ·rename_i hc
     split at h
     ·rename_i hn
      exact ⟨hs.1, (Vf hs.1 (JL hr)).1 hs.2, ⟨hr, hc, hn⟩⟩
     ·cases h
  ·cases h
 ·rintro ⟨hs, hw, hc⟩
  rw [if_pos ⟨hs, (Vf hs (JL hc.round)).2 hw⟩, if_neg hc.round, if_neg hc.cross, if_pos hc.next]
end Go.EV
