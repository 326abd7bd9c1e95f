/- Part of the proof of a statement about executions of litmus programs: walks and laws. -/
import Derived.Test.YtmgnpoleilcjoaaGreatVPac
import Derived.Shelf.GgSortFunc.Insertion
import Derived.Shelf.SlSortCmp.NoneTotal
import Derived.Shelf.SlGeneric
import Derived.Ground.SlsfProg
set_option maxHeartbeats 8000000
set_option maxRecDepth 8000
set_option linter.unusedSimpArgs false
set_option linter.unusedVariables false
set_option linter.unusedSectionVars false
namespace Go.EV
open Go.Proofs
theorem Ow : ∀ (n : Nat) (l : List Nat), l.Nodup → (∀ x ∈ l, x < n) → l.length ≤ n
 | 0, l, _, h => by
  rcases l with _ | ⟨x, l⟩
  ·exact lA5 _
  ·exact absurd (h x (lAz ..)) (lBy _)
 | n + 1, l, hn, h => by
  have h1 := Ow n (l.erase n) (hn.erase n) (fun x hx => by
   obtain ⟨h1, h2⟩ := (hn.mem_erase_iff).1 hx
   have := h x h2; omega)
  have h2 : l.length ≤ (l.erase n).length + 1 := by
   rw [List.length_erase]; split <;> omega
  omega
theorem Aq5 {R : Nat → Nat → Prop} {f : Nat → Nat} {m : Nat} (h : ∀ i, i < m → R (f i) (f (i + 1))) : ∀ (d i : Nat), i + d + 1 ≤ m → TG R (f i) (f (i + d + 1))
 | 0, i, hi => .one (h i (by omega))
 | d + 1, i, hi => (Aq5 h d i (by omega)).trans (.one (h (i + d + 1) (by omega)))
theorem Si {R : Nat → Nat → Prop} {n m : Nat} {f : Nat → Nat} (al : ∀ a, ¬ TG R a a) (h : ∀ i, i < m → R (f i) (f (i + 1))) (aS : ∀ i, i ≤ m → f i < n) : m < n := by
 have hnd : ((List.range (m + 1)).map f).Nodup := by
  rw [lBt, lDn, lBb]
  intro i j hi hj fV he
  rw [lE1] at hi hj
  simp only [lDk] at he
  have := Aq5 h (j - i - 1) i (by omega)
  rw [show i + (j - i - 1) + 1 = j by omega, ← he] at this
  exact al _ this
 have := Ow n _ hnd (fun x hx => by
  obtain ⟨i, hi, rfl⟩ := lAi.1 hx
  rw [lAn] at hi
  exact aS i (by omega))
 simp at this
 omega
def Ex1 (p : List Ev) (e : Exec) (w v : Nat) : Prop := Oh p e w = true ∧ Af e w = v
inductive Back (p : List Ev) (e : Exec) : Nat → Nat → Prop
 | here {w : Nat} : Back p e w w
 | on {w v u : Nat} (h : Ex1 p e w v) (t : Back p e v u) : Back p e w u
theorem Ox {p : List Ev} (hm : Nn p) {e : Exec} (hx : XOk p e) {c : Nat} : ∀ (k w s : Nat), w < p.length → ((Df p e k w s).testBit c = true → s.testBit c = true ∨ ∃ v, Back p e w v ∧ Ty p v c)
 | 0, w, s, hw, h => .inl (by simpa [Df] using h)
 | k + 1, w, s, hw, h => by
  have aj : (s ||| Fk p w).testBit c = true → s.testBit c = true ∨ ∃ v, Back p e w v ∧ Ty p v c := by
   rw [lCz, lAq, Ov hm hw]
   rintro (h | h)
   ·exact .inl h
   ·exact .inr ⟨w, .here, h⟩
  simp only [Df] at h
  split at h
  ·rename_i hc
   have hf := (hx.fr w hw).1
   have ce : (Af e w).toNat < p.length := by unfold Af at *; omega
   rcases Ox hm hx k _ _ ce h with h | ⟨v, h1, h2⟩
   ·exact aj h
   ·exact .inr ⟨v, .on ⟨hc.1, by omega⟩ h1, h2⟩
  ·exact aj h
theorem Oy {p : List Ev} {e : Exec} {c : Nat} : ∀ (k w s : Nat), s.testBit c = true → (Df p e k w s).testBit c = true
 | 0, w, s, h => h
 | k + 1, w, s, h => by
  simp only [Df]
  split
  ·exact Oy k _ _ (by rw [lCz, h]; rfl)
  ·rw [lCz, h]; rfl
def P8 (p : List Ev) (e : Exec) : Nat → Nat → Nat → Prop
 | 0, w, u => w = u
 | n + 1, w, u => ∃ v, Ex1 p e w v ∧ P8 p e n v u
theorem Back.n {p : List Ev} {e : Exec} {w u : Nat} (h : Back p e w u) : ∃ n, P8 p e n w u := by
 induction h with
 | here => exact ⟨0, rfl⟩
 | on h _ ih => obtain ⟨n, hn⟩ := ih; exact ⟨n + 1, _, h, hn⟩
theorem P8.back {p : List Ev} {e : Exec} : ∀ {n w u : Nat}, P8 p e n w u → Back p e w u
 | 0, _, _, h => by cases h; exact .here
 | _ + 1, _, _, ⟨_, h1, h2⟩ => .on h1 (P8.back h2)
theorem P8.way {p : List Ev} {e : Exec} : ∀ {n w u : Nat}, P8 p e n w u → ∃ f : Nat → Nat, f 0 = w ∧ f n = u ∧ ∀ i, i < n → Ex1 p e (f i) (f (i + 1))
 | 0, w, u, h => ⟨fun _ => w, rfl, h, fun i hi => by omega⟩
 | n + 1, w, u, ⟨v, h1, h2⟩ => by
  obtain ⟨f, q1, q2, q3⟩ := P8.way h2
  refine ⟨fun i => if i = 0 then w else f (i - 1), rfl, by simpa using q2, fun i hi => ?_⟩
  by_cases h0 : i = 0
  ·subst h0; simpa [q1] using h1
  ·have h' := q3 (i - 1) (by omega)
   rw [show i - 1 + 1 = i by omega] at h'
   simpa [h0] using h'
theorem Lk {p : List Ev} {e : Exec} (hx : XOk p e) {w : Nat} (h : Oh p e w = true) : w < p.length := by
 unfold Oh at h
 simp only [lA6] at h
 apply lBc; intro hn
 have : e.dn[w]? = none := lCy (by rw [hx.dl]; omega)
 rw [this] at h; simp at h
def Tz (p : List Ev) (e : Exec) : Prop := ∀ a, ¬ TG (Rf e p.length) a a
theorem Oz {p : List Ev} (hm : Nn p) {e : Exec} (hx : XOk p e) {c : Nat} : ∀ (k w s n u : Nat), w < p.length → n < k → P8 p e n w u → Ty p u c → (Df p e k w s).testBit c = true
 | 0, w, s, n, u, _, hn, _, _ => by omega
 | k + 1, w, s, 0, u, hw, hn, hb, hr => by
  have tT : w = u := hb
  subst tT
  have : (s ||| Fk p w).testBit c = true := by rw [lCz, (Ov hm hw).2 hr]; simp
  simp only [Df]
  split
  ·exact Oy _ _ _ this
  ·exact this
 | k + 1, w, s, n + 1, u, hw, hn, ⟨v, ⟨h1, h2⟩, h3⟩, hr => by
  simp only [Df]
  rw [if_pos ⟨h1, by omega⟩]
  have hv : (Af e w).toNat = v := by omega
  rw [hv]
  have hf := (hx.fr w hw).1
  exact Oz hm hx k v _ n u (by unfold Af at h2; omega) (by omega) h3 hr
theorem Y0 {p : List Ev} (hm : Nn p) {e : Exec} (hx : XOk p e) (al : Tz p e) {r w c : Nat} (hr : r < p.length) (hw : Af e r = w) : (Ex p e r).testBit c = true ↔ ∃ v, Back p e w v ∧ Ty p v c := by
 have cF : w < p.length := by
  have := (hx.fr r hr).1
  unfold Af at hw; omega
 have cU : (Af e r).toNat = w := by omega
 rw [Ex, cU]
 constructor
 ·intro h
  rcases Ox hm hx _ _ _ cF h with h | h
  ·simp at h
  ·exact h
 ·rintro ⟨v, hb, hc⟩
  obtain ⟨n, hn⟩ := hb.n
  refine Oz hm hx _ _ _ n v cF ?_ hn hc
  obtain ⟨f, q1, q2, q3⟩ := hn.way
  refine Si (R := fun a b => Rf e p.length b a) (f := f) (m := n) (fun a ha => al a ?_) (fun i hi => ?_) (fun i hi => ?_)
  ·have key : ∀ a b, TG (fun a b => Rf e p.length b a) a b → TG (Rf e p.length) b a := by
    intro a b h
    induction h with
    | one h => exact .one h
    | more h _ ih => exact ih.trans (.one h)
   exact key a a ha
  ·have := q3 i hi
   exact ⟨Lk hx this.1, this.2⟩
  ·by_cases h0 : i = 0
   ·subst h0; rw [q1]; exact cF
   ·have := q3 (i - 1) (by omega)
    rw [show i - 1 + 1 = i by omega] at this
    have h1 := (hx.fr _ (Lk hx this.1)).1
    have h2 := this.2
    unfold Af at h2; omega
def Sw (p : List Ev) (e : Exec) (a b : Nat) : Prop := ∃ r w v, r < p.length ∧ (evAt p r).reads = true ∧ Af e r = (w : Nat) ∧ Back p e w v ∧ Ty p v a ∧ Aj7 p r b
theorem Ko {q : Rel} {set to : Nat} : ∀ a, (Ja q set to a).length = q.length
 | 0 => rfl
 | a + 1 => by
  simp only [Ja]
  split
  ·rw [Sh, Ko a]
  ·exact Ko a
theorem T0 {q : Rel} {set to x y : Nat} : ∀ a, a ≤ q.length → (A3 (Ja q set to a) x y = true ↔ A3 q x y = true ∨ (x < a ∧ set.testBit x = true ∧ to.testBit y = true))
 | 0, _ => by simp [Ja]
 | a + 1, ha => by
  have ih := T0 (q := q) (set := set) (to := to) (x := x) (y := y) a (by omega)
  simp only [Ja]
  split
  ·rename_i h
   rw [Oq, lAq, ih, Ko]
   simp only [lA6, decide_eq_true_eq]
   constructor
   ·rintro ((h1 | ⟨h1, h2⟩) | ⟨⟨h1, h2⟩, h3⟩)
    ·exact .inl h1
    ·exact .inr ⟨by omega, h2⟩
    ·subst h1; exact .inr ⟨by omega, h, h3⟩
   ·rintro (h1 | ⟨h1, h2, h3⟩)
    ·exact .inl (.inl h1)
    ·by_cases cz : x = a
     ·subst cz; exact .inr ⟨⟨rfl, by omega⟩, h3⟩
     ·exact .inl (.inr ⟨by omega, h2, h3⟩)
  ·rename_i h
   rw [ih]
   constructor
   ·rintro (h1 | ⟨h1, h2⟩)
    ·exact .inl h1
    ·exact .inr ⟨by omega, h2⟩
   ·rintro (h1 | ⟨h1, h2, h3⟩)
    ·exact .inl h1
    ·by_cases cz : x = a
     ·subst cz; exact absurd h2 h
     ·exact .inr ⟨by omega, h2, h3⟩
theorem Ty.lt {p : List Ev} {w c : Nat} (h : Ty p w c) (hw : w < p.length) : c < p.length := by
 rcases h.2 with rfl | ⟨h, _⟩ <;> omega
theorem Back.lt {p : List Ev} {e : Exec} (hx : XOk p e) {w v : Nat} (h : Back p e w v) (hw : w < p.length) : v < p.length := by
 induction h with
 | here => exact hw
 | on h _ ih =>
  have h1 := (hx.fr _ (Lk hx h.1)).1
  have h2 := h.2
  exact ih (by unfold Af at h2; omega)
theorem O0 {p : List Ev} {e : Exec} : ∀ r, (Ic p e r).length = p.length
 | 0 => by rw [Ic, Ia, Lj, Gv]
 | r + 1 => by
  simp only [Ic]
  split
  ·rw [Ko, O0 r]
  ·exact O0 r
theorem T1 {p : List Ev} (hm : Nn p) {e : Exec} (hx : XOk p e) (al : Tz p e) {a b : Nat} : ∀ n, n ≤ p.length →
  (A3 (Ic p e n) a b = true ↔ Sb1 p a b ∨ Fo1 e.fen a b ∨ ∃ r w v, r < n ∧ (evAt p r).reads = true ∧ Af e r = (w : Nat) ∧ Back p e w v ∧ Ty p v a ∧ Aj7 p r b)
 | 0, _ => by
  rw [Ic, Rb hx.fin.1]
  constructor
  ·rintro (h | h)
   ·exact .inl h
   ·exact .inr (.inl h)
  ·rintro (h | h | ⟨r, w, v, h, _⟩)
   ·exact .inl h
   ·exact .inr h
   ·omega
 | n + 1, hn => by
  have ih := T1 hm hx al (a := a) (b := b) n (by omega)
  simp only [Ic]
  split
  ·rename_i h
   obtain ⟨w, hw⟩ : ∃ w : Nat, Af e n = w := ⟨(Af e n).toNat, by omega⟩
   have cF : w < p.length := by
    have := (hx.fr n (by omega)).1
    unfold Af at hw; omega
   rw [T0 _ (by rw [O0]; exact lA5 _), ih, Y0 hm hx al (by omega) hw, Ae6 hm (by omega)]
   constructor
   ·rintro ((h1 | h1 | ⟨r, w', v, h1, h2⟩) | ⟨h1, ⟨v, h2, h3⟩, h4⟩)
    ·exact .inl h1
    ·exact .inr (.inl h1)
    ·exact .inr (.inr ⟨r, w', v, by omega, h2⟩)
    ·exact .inr (.inr ⟨n, w, v, by omega, h.1, hw, h2, h3, h4⟩)
   ·rintro (h1 | h1 | ⟨r, w', v, h1, h2, h3, h4, h5, h6⟩)
    ·exact .inl (.inl h1)
    ·exact .inl (.inr (.inl h1))
    ·by_cases hr : r = n
     ·subst hr
      have : w' = w := by omega
      subst this
      exact .inr ⟨h5.lt (h4.lt hx cF), ⟨v, h4, h5⟩, h6⟩
     ·exact .inl (.inr (.inr ⟨r, w', v, by omega, h2, h3, h4, h5, h6⟩))
  ·rename_i h
   rw [ih]
   constructor
   ·rintro (h1 | h1 | ⟨r, w', v, h1, h2⟩)
    ·exact .inl h1
    ·exact .inr (.inl h1)
    ·exact .inr (.inr ⟨r, w', v, by omega, h2⟩)
   ·rintro (h1 | h1 | ⟨r, w', v, h1, h2, h3, h4⟩)
    ·exact .inl h1
    ·exact .inr (.inl h1)
    ·by_cases hr : r = n
     ·subst hr
      exact absurd ⟨h2, by omega⟩ h
     ·exact .inr (.inr ⟨r, w', v, by omega, h2, h3, h4⟩)
def Hb (p : List Ev) (e : Exec) : Nat → Nat → Prop := TG fun a b => Sb1 p a b ∨ Fo1 e.fen a b ∨ Sw p e a b
theorem Js {p : List Ev} (hm : Nn p) {e : Exec} (hx : XOk p e) (al : Tz p e) {a b : Nat} : A3 (Gd p e) a b = true ↔ Hb p e a b := by
 rw [Gd, Dk (befGo_ok hx _ (lA5 _))]
 exact TG.congr fun x y => T1 hm hx al _ (lA5 _)
def Co1 (l : List Int) (a b : Nat) : Prop := ∃ i j, i < j ∧ j < l.length ∧ Ae l i = a ∧ Ae l j = b
def Fr1 (p : List Ev) (e : Exec) (r w : Nat) : Prop := r < p.length ∧ (evAt p r).reads = true ∧ w ≠ r ∧ ∃ j, j < (Ld p e r).length ∧ Ae (Ld p e r) j = w ∧ (Af e r = -1 ∨ ∃ i, i < j ∧ Ae (Ld p e r) i = Af e r)
theorem Sj {q : Rel} {l : List Int} {i : Nat} : ∀ j, (Aj6 q l i j).length = q.length
 | 0 => rfl
 | j + 1 => by rw [Aj6, Es, Sj j]
theorem Sk {q : Rel} {l : List Int} : ∀ i, (Ae2 q l i).length = q.length
 | 0 => rfl
 | i + 1 => by rw [Ae2, Sj, Sk i]
theorem Sm {q : Rel} {ord : List (List Int)} : ∀ i, (Z3 q ord i).length = q.length
 | 0 => rfl
 | i + 1 => by rw [Z3, Sk, Sm i]
theorem Xi {q : Rel} {l : List Int} (hin : ∀ k, k < l.length → 0 ≤ Ae l k ∧ Ae l k < q.length) {i a b : Nat} : ∀ j, i + 1 + j ≤ l.length →
  (A3 (Aj6 q l i j) a b = true ↔ A3 q a b = true ∨ (Ae l i = a ∧ ∃ k, i < k ∧ k < i + 1 + j ∧ Ae l k = b))
 | 0, _ => by
  simp only [Aj6]
  constructor
  ·exact .inl
  ·rintro (h | ⟨_, k, h1, h2, _⟩)
   ·exact h
   ·omega
 | j + 1, hj => by
  have ih := Xi hin (i := i) (a := a) (b := b) j (by omega)
  have h1 := hin i (by omega)
  have h2 := hin (i + 1 + j) (by omega)
  rw [Aj6, Fc, ih, Sj]
  constructor
  ·rintro ((h | ⟨q1, k, q2, q3, q4⟩) | ⟨q1, q2, q3⟩)
   ·exact .inl h
   ·exact .inr ⟨q1, k, q2, by omega, q4⟩
   ·exact .inr ⟨by omega, i + 1 + j, by omega, by omega, by omega⟩
  ·rintro (h | ⟨q1, k, q2, q3, q4⟩)
   ·exact .inl (.inl h)
   ·by_cases hk : k = i + 1 + j
    ·subst hk; exact .inr ⟨by omega, by omega, by omega⟩
    ·exact .inl (.inr ⟨q1, k, q2, by omega, q4⟩)
theorem Xj {q : Rel} {l : List Int} (hin : ∀ k, k < l.length → 0 ≤ Ae l k ∧ Ae l k < q.length) {a b : Nat} : ∀ i, i ≤ l.length →
  (A3 (Ae2 q l i) a b = true ↔ A3 q a b = true ∨ ∃ x y, x < i ∧ x < y ∧ y < l.length ∧ Ae l x = a ∧ Ae l y = b)
 | 0, _ => by
  simp only [Ae2]
  constructor
  ·exact .inl
  ·rintro (h | ⟨x, y, h1, _⟩)
   ·exact h
   ·omega
 | i + 1, hi => by
  have ih := Xj hin (a := a) (b := b) i (by omega)
  rw [Ae2, Xi (by rw [Sk]; exact hin) _ (by omega), ih]
  constructor
  ·rintro ((h | ⟨x, y, h1, h2⟩) | ⟨h1, k, h2, h3, h4⟩)
   ·exact .inl h
   ·exact .inr ⟨x, y, by omega, h2⟩
   ·exact .inr ⟨i, k, by omega, h2, by omega, h1, h4⟩
  ·rintro (h | ⟨x, y, h1, h2, h3, h4, h5⟩)
   ·exact .inl (.inl h)
   ·by_cases hx : x = i
    ·subst hx; exact .inr ⟨h4, y, h2, by omega, h5⟩
    ·exact .inl (.inr ⟨x, y, by omega, h2, h3, h4, h5⟩)
theorem Xk {p : List Ev} {q : Rel} (hq : q.length = p.length) {ord : List (List Int)} (ho : ∀ l ∈ ord, Ib p l) {a b : Nat} : ∀ k, k ≤ ord.length →
  (A3 (Z3 q ord k) a b = true ↔ A3 q a b = true ∨ ∃ i l, i < k ∧ ord[i]? = some l ∧ Co1 l a b)
 | 0, _ => by
  simp only [Z3]
  constructor
  ·exact .inl
  ·rintro (h | ⟨x, y, h1, _⟩)
   ·exact h
   ·omega
 | k + 1, hk => by
  have ih := Xk hq ho (a := a) (b := b) k (by omega)
  have hg : ord[k]? = some ord[k] := lA2 (by omega)
  have hin : Ib p ord[k] := ho _ (lAm _)
  rw [Z3, hg, lAr, Xj (fun j hj => by rw [Sm, hq]; exact hin.num hj) _ (lA5 _), ih]
  constructor
  ·rintro ((h | ⟨i, l, h1, h2⟩) | ⟨x, y, h1, h2, h3, h4, h5⟩)
   ·exact .inl h
   ·exact .inr ⟨i, l, by omega, h2⟩
   ·exact .inr ⟨k, ord[k], by omega, hg, x, y, h2, h3, h4, h5⟩
  ·rintro (h | ⟨i, l, h1, h2, h3⟩)
   ·exact .inl (.inl h)
   ·by_cases hi : i = k
    ·subst hi
     rw [hg] at h2; cases h2
     obtain ⟨x, y, q1, q2, q3, q4⟩ := h3
     exact .inr ⟨x, y, by omega, q1, q2, q3, q4⟩
    ·exact .inl (.inr ⟨i, l, by omega, h2, h3⟩)
theorem No {q : Rel} {r : Nat} {fr : Int} {l : List Int} : ∀ i, (Sd q r fr l i).1.length = q.length
 | 0 => rfl
 | i + 1 => by
  simp only [Sd]
  split
  ·rw [Es, No i]
  ·exact No i
theorem O1 {q : Rel} {r : Nat} {fr : Int} {l : List Int} : ∀ i, (Sd q r fr l i).2 = true ↔ fr = -1 ∨ ∃ j, j < i ∧ Ae l j = fr
 | 0 => by simp [Sd]
 | i + 1 => by
  simp only [Sd, lAq, decide_eq_true_eq]
  rw [O1 i]
  constructor
  ·rintro ((h | ⟨j, h1, h2⟩) | h)
   ·exact .inl h
   ·exact .inr ⟨j, by omega, h2⟩
   ·exact .inr ⟨i, by omega, h⟩
  ·rintro (h | ⟨j, h1, h2⟩)
   ·exact .inl (.inl h)
   ·by_cases hj : j = i
    ·subst hj; exact .inr h2
    ·exact .inl (.inr ⟨j, by omega, h2⟩)
theorem Xl {q : Rel} {r : Nat} (hr : r < q.length) {fr : Int} {l : List Int} (hin : ∀ k, k < l.length → 0 ≤ Ae l k ∧ Ae l k < q.length) {a b : Nat} : ∀ i, i ≤ l.length →
  (A3 (Sd q r fr l i).1 a b = true ↔ A3 q a b = true ∨ (a = r ∧ b ≠ r ∧ ∃ j, j < i ∧ Ae l j = b ∧ (fr = -1 ∨ ∃ k, k < j ∧ Ae l k = fr)))
 | 0, _ => by
  simp only [Sd]
  constructor
  ·exact .inl
  ·rintro (h | ⟨_, _, j, h1, _⟩)
   ·exact h
   ·omega
 | i + 1, hi => by
  have ih := Xl hr hin (a := a) (b := b) (fr := fr) i (by omega)
  have h0 := hin i (by omega)
  simp only [Sd]
  split
  ·rename_i h
   rw [O1] at h
   rw [Fc, ih, No]
   constructor
   ·rintro ((h1 | ⟨h1, h2, j, h3, h4⟩) | ⟨h1, h2, h3⟩)
    ·exact .inl h1
    ·exact .inr ⟨h1, h2, j, by omega, h4⟩
    ·exact .inr ⟨h1, by omega, i, by omega, by omega, h.1⟩
   ·rintro (h1 | ⟨h1, h2, j, h3, h4, h5⟩)
    ·exact .inl (.inl h1)
    ·by_cases hj : j = i
     ·subst hj; exact .inr ⟨h1, hr, by omega⟩
     ·exact .inl (.inr ⟨h1, h2, j, by omega, h4, h5⟩)
  ·rename_i h
   rw [O1] at h
   rw [ih]
   constructor
   ·rintro (h1 | ⟨h1, h2, j, h3, h4⟩)
    ·exact .inl h1
    ·exact .inr ⟨h1, h2, j, by omega, h4⟩
   ·rintro (h1 | ⟨h1, h2, j, h3, h4, h5⟩)
    ·exact .inl h1
    ·by_cases hj : j = i
     ·subst hj; exact absurd ⟨h5, fun e => h2 (Int.ofNat.inj (h4.symm.trans e))⟩ h
     ·exact .inr ⟨h1, h2, j, by omega, h4, h5⟩
theorem Iz {p : List Ev} {e : Exec} : ∀ r, (P5 p e r).length = p.length
 | 0 => by rw [P5, Sm, lDf]
 | r + 1 => by
  simp only [P5]
  split
  ·rw [No, Oi]
   split
   ·rw [Es, Iz r]
   ·exact Iz r
  ·exact Iz r
def Cz3 (p : List Ev) (e : Exec) (a b : Nat) : Prop := (∃ l ∈ e.ord, Co1 l a b) ∨ ((evAt p b).reads = true ∧ Rf e p.length a b) ∨ Fr1 p e a b
theorem Xm {p : List Ev} (hp : POk p) {e : Exec} (hx : XOk p e) {a b : Nat} : ∀ n, n ≤ p.length →
  (A3 (P5 p e n) a b = true ↔ (∃ l ∈ e.ord, Co1 l a b) ∨ ((evAt p b).reads = true ∧ Rf e n a b) ∨ (a < n ∧ Fr1 p e a b))
 | 0, _ => by
  rw [P5, Xk (p := p) (by simp) (fun l hl => (hx.oin l hl).1) _ (lA5 _), Ot]
  constructor
  ·rintro (h | ⟨i, l, h1, h2, h3⟩)
   ·cases h
   ·exact .inl ⟨l, lC9 h2, h3⟩
  ·rintro (⟨l, h1, h2⟩ | ⟨_, h, _⟩ | ⟨h, _⟩)
   ·obtain ⟨i, hi, rfl⟩ := lBf h1
    exact .inr ⟨i, _, hi, lA2 hi, h2⟩
   ·omega
   ·omega
 | n + 1, hn => by
  have ih := Xm hp hx (a := a) (b := b) n (by omega)
  have bN := hx.fr n (by omega)
  obtain ⟨_, _, mJ, _⟩ := Se hp hx (r := n) (by omega)
  simp only [P5]
  split
  ·rename_i aH
   have iC : A3 (Oi (P5 p e n) e n) a b = true ↔ A3 (P5 p e n) a b = true ∨ (b = n ∧ Af e n = a) := by
    rw [Oi]
    split
    ·rename_i h0
     rw [Fc, Iz]
     unfold Af at h0 ⊢
     constructor
     ·rintro (h | ⟨h1, h2, h3⟩)
      ·exact .inl h
      ·exact .inr ⟨h3, by omega⟩
     ·rintro (h | ⟨h1, h2⟩)
      ·exact .inl h
      ·exact .inr ⟨by omega, by omega, h1⟩
    ·rename_i h0
     constructor
     ·exact .inl
     ·rintro (h | ⟨h1, h2⟩)
      ·exact h
      ·omega
   have fG : (Oi (P5 p e n) e n).length = p.length := by
    rw [Oi]; split
    ·rw [Es, Iz]
    ·exact Iz n
   rw [Xl (by rw [fG]; omega) (fun k hk => by rw [fG]; exact mJ.num hk) _ (lA5 _), iC, ih]
   unfold Rf
   constructor
   ·rintro (((h | ⟨h1, h2, h3⟩ | ⟨h1, h2⟩) | ⟨rfl, h⟩) | ⟨rfl, h1, j, h2, h3, h4⟩)
    ·exact .inl h
    ·exact .inr (.inl ⟨h1, by omega, h3⟩)
    ·exact .inr (.inr ⟨by omega, h2⟩)
    ·exact .inr (.inl ⟨aH, by omega, h⟩)
    ·exact .inr (.inr ⟨by omega, by omega, aH, h1, j, h2, h3, h4⟩)
   ·rintro (h | ⟨h1, h2, h3⟩ | ⟨h1, h2⟩)
    ·exact .inl (.inl (.inl h))
    ·by_cases hb : b = n
     ·subst hb; exact .inl (.inr ⟨rfl, h3⟩)
     ·exact .inl (.inl (.inr (.inl ⟨h1, by omega, h3⟩)))
    ·by_cases ha : a = n
     ·subst ha
      obtain ⟨_, _, h4, j, h5, h6, h7⟩ := h2
      exact .inr ⟨rfl, h4, j, h5, h6, h7⟩
     ·exact .inl (.inl (.inr (.inr ⟨by omega, h2⟩)))
  ·rename_i aH
   rw [ih]
   unfold Rf
   constructor
   ·rintro (h | ⟨h1, h2, h3⟩ | ⟨h1, h2⟩)
    ·exact .inl h
    ·exact .inr (.inl ⟨h1, by omega, h3⟩)
    ·exact .inr (.inr ⟨by omega, h2⟩)
   ·rintro (h | ⟨h1, h2, h3⟩ | ⟨h1, h2⟩)
    ·exact .inl h
    ·by_cases hb : b = n
     ·subst hb; exact absurd h1 aH
     ·exact .inr (.inl ⟨h1, by omega, h3⟩)
    ·by_cases ha : a = n
     ·subst ha; exact absurd h2.2.1 aH
     ·exact .inr (.inr ⟨by omega, h2⟩)
def Eco (p : List Ev) (e : Exec) : Nat → Nat → Prop := TG (Cz3 p e)
theorem Xn {p : List Ev} (hp : POk p) {e : Exec} (hx : XOk p e) {a b : Nat} : A3 (Bb7 p e) a b = true ↔ Eco p e a b := by
 rw [Bb7, Dk (comD_ok hp hx _ (lA5 _))]
 refine TG.congr fun x y => ?_
 rw [Xm hp hx _ (lA5 _)]
 unfold Cz3
 constructor
 ·rintro (h | h | ⟨_, h⟩)
  ·exact .inl h
  ·exact .inr (.inl h)
  ·exact .inr (.inr h)
 ·rintro (h | h | h)
  ·exact .inl h
  ·exact .inr (.inl h)
  ·exact .inr (.inr ⟨h.1, h⟩)
def O2 (p : List Ev) (e : Exec) : Prop := ∀ l ∈ e.ord, ∀ i, i < l.length → (evAt p (Ae l i).toNat).reads = true → Af e (Ae l i).toNat = Fl l i
def Jt (p : List Ev) (e : Exec) : Prop := ∃ a, TG (fun a b => Sb1 p a b ∨ Fo1 e.fen a b ∨ Rf e p.length a b) a a
def Sn (p : List Ev) (e : Exec) : Prop := (∃ a, Hb p e a a) ∨ ∃ a b, Hb p e a b ∧ Eco p e b a
theorem JQ {p : List Ev} {e : Exec} (h : ¬ Jt p e) : Tz p e := fun a ha => h ⟨a, ha.mono fun _ _ k => .inr (.inr k)⟩
theorem T2 {p : List Ev} (hp : POk p) (hm : Nn p) {e : Exec} (hx : XOk p e) (al : Tz p e) : (Bi (Gd p e) || Oj p e) = true ↔ Sn p e := by
 unfold Sn
 rw [lAq, Ct]
 refine or_congr (exists_congr fun a => Js hm hx al) ?_
 unfold Oj
 simp only [lCc, lAn, lA6]
 constructor
 ·rintro ⟨a, _, b, _, h1, h2⟩
  exact ⟨a, b, (Js hm hx al).1 h1, (Xn hp hx).1 h2⟩
 ·rintro ⟨a, b, h1, h2⟩
  have dF := (Js hm hx al).2 h1
  have := (beforeP_ok hx).has dF
  exact ⟨a, this.1, b, this.2, dF, (Xn hp hx).2 h2⟩
theorem Xo {p : List Ev} {e : Exec} : e.ord.any (Ie p e) = true ↔ ¬ O2 p e := by
 unfold O2
 simp only [lCc, Ie, Al7, lAn, lA6, decide_eq_true_eq]
 constructor
 ·rintro ⟨l, hl, i, hi, h1, h2⟩ h
  exact h2 (h l hl i hi h1)
 ·intro h
  apply lBc
  intro hn
  apply h
  intro l hl i hi hr
  apply lBc
  intro h2
  exact hn ⟨l, hl, i, hi, hr, h2⟩
open Classical in
theorem Y1 {p : List Ev} (hp : POk p) (hm : Nn p) {e : Exec} (hx : XOk p e) :
  Dg p e = if Jt p e then 2 else if Sn p e then 3 else if O2 p e then 0 else 4 := by
 unfold Dg
 by_cases h2 : Jt p e
 ·rw [if_pos ((Rc hx).2 h2), if_pos h2]
 ·rw [if_neg (fun h => h2 ((Rc hx).1 h)), if_neg h2]
  have al := JQ h2
  by_cases h3 : Sn p e
  ·rw [if_pos ((T2 hp hm hx al).2 h3), if_pos h3]
  ·rw [if_neg (fun h => h3 ((T2 hp hm hx al).1 h)), if_neg h3]
   by_cases h4 : O2 p e
   ·rw [if_neg (fun h => Xo.1 h h4), if_pos h4]
   ·rw [if_pos (Xo.2 h4), if_neg h4]
structure Cons (p : List Ev) (e : Exec) : Prop where
 round : ¬ Jt p e
 cross : ¬ Sn p e
 next : O2 p e
theorem Ij {p : List Ev} (hp : POk p) (hm : Nn p) {e : Exec} (hx : XOk p e) : Dg p e = 0 ↔ Cons p e := by
 rw [Y1 hp hm hx]
 constructor
 ·intro h
  split at h
  ·cases h
  ·split at h
   ·cases h
   ·split at h
    ·exact ⟨by assumption, by assumption, by assumption⟩
    ·cases h
 ·intro ⟨h1, h2, h3⟩
  rw [if_neg h1, if_neg h2, if_pos h3]
def Wd.R (s : Wd) (i : Nat) : Int := s.r[i]?.getD 0
def Wd.W (s : Wd) (i : Nat) : Int := s.w[i]?.getD 0
def Wd.K (s : Wd) (i : Nat) : Bool := s.k[i]?.getD false
def Wd.T (s : Wd) (i : Nat) : Bool := s.t[i]?.getD false
def B0 (f : List Int) (i : Nat) : Int := f[i]?.getD 0
theorem Be {α : Type} {l : List α} {i j : Nat} {x d : α} (hi : i < l.length) : (l.set i x)[j]?.getD d = if j = i then x else l[j]?.getD d := by
 rw [List.getElem?_set]
 by_cases h : i = j
 ·subst h; simp [hi]
 ·have h' : ¬ j = i := fun e => h e.symm
  simp [h, h']
structure Wd.Inv (p : List Ev) (f : List Int) (s : Wd) : Prop where
 len : s.Len p.length
 k : ∀ i, s.K i = true → (evAt p i).reads = true ∧ ((B0 f i = -1 ∧ s.R i = 0) ∨ ∃ w : Nat, B0 f i = w ∧ s.T w = true ∧ s.R i = s.W w)
 n : ∀ i, s.K i = false → s.R i = 0
 t : ∀ i, s.T i = true → ((evAt p i).op.kind = 1 ∧ s.W i = (evAt p i).op.v) ∨ ((evAt p i).op.kind = 2 ∧ s.K i = true ∧ s.W i = IntKind.i64.wrap (s.R i + (evAt p i).op.v)) ∨ (((evAt p i).op.kind = 3 ∨ (evAt p i).op.kind = 4) ∧ s.W i = (evAt p i).op.w)
structure Wd.Le (s s' : Wd) : Prop where
 k : ∀ i, s.K i = true → s'.K i = true ∧ s'.R i = s.R i
 t : ∀ i, s.T i = true → s'.T i = true ∧ s'.W i = s.W i
theorem Wd.Le.refl (s : Wd) : s.Le s := ⟨fun _ h => ⟨h, rfl⟩, fun _ h => ⟨h, rfl⟩⟩
theorem Wd.Le.trans {a b c : Wd} (h : a.Le b) (k : b.Le c) : a.Le c :=
 ⟨fun i hi => ⟨(k.k i (h.k i hi).1).1, (k.k i (h.k i hi).1).2.trans (h.k i hi).2⟩, fun i hi => ⟨(k.t i (h.t i hi).1).1, (k.t i (h.t i hi).1).2.trans (h.t i hi).2⟩⟩
section
variable {p : List Ev} {f : List Int}
theorem Re (hf : C9 p f) {s : Wd} {i : Nat} (hi : i < p.length) (h : s.Inv p f) : (Ce p f s i).Inv p f ∧ s.Le (Ce p f s i) ∧
  (((evAt p i).reads = true ∧ (B0 f i = -1 ∨ ∃ w : Nat, B0 f i = w ∧ s.T w = true)) → (Ce p f s i).K i = true) := by
 unfold Ce
 have hl := h.len
 have d7 : i < s.k.length := by rw [hl.k]; exact hi
 have io : i < s.r.length := by rw [hl.r]; exact hi
 split
 ·rename_i hc
  simp only [lA6, decide_eq_true_eq] at hc
  have hK : ∀ j, ({ s with k := s.k.set i true } : Wd).K j = if j = i then true else s.K j := fun j => Be d7
  refine ⟨⟨⟨hl.r, hl.w, by simp [hl.k], hl.t⟩, fun j hj => ?_, fun j hj => ?_, fun j hj => ?_⟩, ⟨fun j hj => ⟨?_, rfl⟩, fun j hj => ⟨hj, rfl⟩⟩, fun _ => ?_⟩
  ·rw [hK] at hj
   by_cases ay : j = i
   ·subst ay
    refine ⟨hc.1, .inl ⟨hc.2, ?_⟩⟩
    cases hk : s.K j with
    | false => exact h.n j hk
    | true =>
     rcases (h.k j hk).2 with ⟨_, h2⟩ | ⟨w, h1, _⟩
     ·exact h2
     ·have : B0 f j = -1 := hc.2
      omega
   ·rw [if_neg ay] at hj; exact h.k j hj
  ·rw [hK] at hj
   by_cases ay : j = i
   ·rw [if_pos ay] at hj; cases hj
   ·rw [if_neg ay] at hj; exact h.n j hj
  ·rcases h.t j hj with h1 | ⟨h1, h2, h3⟩ | h1
   ·exact .inl h1
   ·refine .inr (.inl ⟨h1, ?_, h3⟩)
    rw [hK]; split
    ·rfl
    ·exact h2
   ·exact .inr (.inr h1)
  ·rw [hK]; split
   ·rfl
   ·exact hj
  ·rw [hK, if_pos rfl]
 ·rename_i hc
  split
  ·rename_i dS
   simp only [lA6, decide_eq_true_eq, not_and] at hc dS
   have hne : B0 f i ≠ -1 := hc dS.1
   obtain ⟨w, hw⟩ : ∃ w : Nat, B0 f i = w := by
    rcases hf.2 i hi dS.1 with h1 | ⟨h1, _⟩
    ·exact absurd h1 hne
    ·exact ⟨(B0 f i).toNat, by unfold B0; omega⟩
   have gb : (f[i]?.getD 0).toNat = w := by unfold B0 at hw; omega
   rw [gb] at dS
   rw [gb]
   have hK : ∀ j, ({ s with r := s.r.set i (s.w[w]?.getD 0), k := s.k.set i true } : Wd).K j = if j = i then true else s.K j := fun j => Be d7
   have hR : ∀ j, ({ s with r := s.r.set i (s.w[w]?.getD 0), k := s.k.set i true } : Wd).R j = if j = i then s.W w else s.R j := fun j => Be io
   have rj : ∀ j, s.K j = true → ({ s with r := s.r.set i (s.w[w]?.getD 0), k := s.k.set i true } : Wd).R j = s.R j := by
    intro j hj
    rw [hR]; split
    ·rename_i e; subst e
     rcases (h.k j hj).2 with ⟨h1, _⟩ | ⟨w', h1, _, h3⟩
     ·exact absurd h1 hne
     ·have : w' = w := by omega
      subst this; exact h3.symm
    ·rfl
   refine ⟨⟨⟨by simp [hl.r], hl.w, by simp [hl.k], hl.t⟩, fun j hj => ?_, fun j hj => ?_, fun j hj => ?_⟩, ⟨fun j hj => ⟨?_, rj j hj⟩, fun j hj => ⟨hj, rfl⟩⟩, fun _ => ?_⟩
   ·rw [hK] at hj
    rw [hR]
    by_cases ay : j = i
    ·subst ay
     rw [if_pos rfl]
     exact ⟨dS.1, .inr ⟨w, hw, dS.2, rfl⟩⟩
    ·rw [if_neg ay] at hj ⊢; exact h.k j hj
   ·rw [hK] at hj
    rw [hR]
    by_cases ay : j = i
    ·rw [if_pos ay] at hj; cases hj
    ·rw [if_neg ay] at hj ⊢; exact h.n j hj
   ·rcases h.t j hj with h1 | ⟨h1, h2, h3⟩ | h1
    ·exact .inl h1
    ·refine .inr (.inl ⟨h1, ?_, ?_⟩)
     ·rw [hK]; split
      ·rfl
      ·exact h2
     ·rw [rj j h2]; exact h3
    ·exact .inr (.inr h1)
   ·rw [hK]; split
    ·rfl
    ·exact hj
   ·rw [hK, if_pos rfl]
  ·rename_i dS
   refine ⟨h, Wd.Le.refl s, fun ⟨h1, h2⟩ => ?_⟩
   exfalso
   simp only [lA6, decide_eq_true_eq, not_and] at hc dS
   rcases h2 with h2 | ⟨w, h2, h3⟩
   ·exact hc h1 h2
   ·apply dS h1
    have : (f[i]?.getD 0).toNat = w := by unfold B0 at h2; omega
    rw [this]; exact h3
theorem Wa {s : Wd} {i : Nat} (hi : i < p.length) (h : s.Inv p f) : (Cs p s i).Inv p f ∧ s.Le (Cs p s i) ∧
  (((evAt p i).op.kind = 1 ∨ ((evAt p i).op.kind = 2 ∧ s.K i = true) ∨ (evAt p i).op.kind = 3 ∨ (evAt p i).op.kind = 4) → (Cs p s i).T i = true) ∧ (∀ j, (Cs p s i).K j = s.K j) := by
 have hl := h.len
 have lN : i < s.w.length := by rw [hl.w]; exact hi
 have cy : i < s.t.length := by rw [hl.t]; exact hi
 have key : ∀ (x : Int) (b : Bool), (∀ _ : s.T i = true, b = true ∧ x = s.W i) →
   (b = true → ((evAt p i).op.kind = 1 ∧ x = (evAt p i).op.v) ∨ ((evAt p i).op.kind = 2 ∧ s.K i = true ∧ x = IntKind.i64.wrap (s.R i + (evAt p i).op.v)) ∨ (((evAt p i).op.kind = 3 ∨ (evAt p i).op.kind = 4) ∧ x = (evAt p i).op.w)) →
   ({ s with w := s.w.set i x, t := s.t.set i b } : Wd).Inv p f ∧ s.Le { s with w := s.w.set i x, t := s.t.set i b } ∧ ({ s with w := s.w.set i x, t := s.t.set i b } : Wd).T i = b := by
  intro x b h1 h2
  have hT : ∀ j, ({ s with w := s.w.set i x, t := s.t.set i b } : Wd).T j = if j = i then b else s.T j := fun j => Be cy
  have hW : ∀ j, ({ s with w := s.w.set i x, t := s.t.set i b } : Wd).W j = if j = i then x else s.W j := fun j => Be lN
  have a8 : s.Le { s with w := s.w.set i x, t := s.t.set i b } := by
   refine ⟨fun j hj => ⟨hj, rfl⟩, fun j hj => ?_⟩
   rw [hT, hW]
   by_cases ay : j = i
   ·subst ay; simp only [if_true]; exact h1 hj
   ·rw [if_neg ay, if_neg ay]; exact ⟨hj, rfl⟩
  refine ⟨⟨⟨hl.r, by simp [hl.w], hl.k, by simp [hl.t]⟩, fun j hj => ?_, h.n, fun j hj => ?_⟩, a8, by rw [hT, if_pos rfl]⟩
  ·obtain ⟨q1, q2⟩ := h.k j hj
   refine ⟨q1, q2.imp id fun ⟨w, e1, e2, e3⟩ => ⟨w, e1, (a8.t w e2).1, ?_⟩⟩
   rw [(a8.t w e2).2]; exact e3
  ·rw [hT] at hj
   rw [hW]
   by_cases ay : j = i
   ·subst ay; rw [if_pos rfl] at hj ⊢; exact h2 hj
   ·rw [if_neg ay] at hj ⊢; exact h.t j hj
 unfold Cs
 split
 ·rename_i hk
  obtain ⟨q1, q2, q3⟩ := key (evAt p i).op.v true (fun ht => ⟨rfl, by rcases h.t i ht with ⟨_, e⟩ | ⟨e, _⟩ | ⟨e, _⟩ <;> omega⟩) (fun _ => .inl ⟨hk, rfl⟩)
  exact ⟨q1, q2, fun _ => q3, fun _ => rfl⟩
 ·rename_i bs
  split
  ·rename_i hk
   obtain ⟨q1, q2, q3⟩ := key (IntKind.i64.wrap (s.r[i]?.getD 0 + (evAt p i).op.v)) (s.k[i]?.getD false)
    (fun ht => by
     rcases h.t i ht with ⟨e, _⟩ | ⟨e, e2, e3⟩ | ⟨e, _⟩
     ·omega
     ·exact ⟨e2, e3.symm⟩
     ·omega) (fun hb => .inr (.inl ⟨hk, hb, rfl⟩))
   refine ⟨q1, q2, fun hh => ?_, fun _ => rfl⟩
   rw [q3]
   rcases hh with e | ⟨_, e⟩ | e | e
   ·omega
   ·exact e
   ·omega
   ·omega
  ·rename_i bh
   split
   ·rename_i hk
    obtain ⟨q1, q2, q3⟩ := key (evAt p i).op.w true (fun ht => ⟨rfl, by rcases h.t i ht with ⟨e, _⟩ | ⟨e, _⟩ | ⟨_, e⟩ <;> omega⟩) (fun _ => .inr (.inr ⟨hk, rfl⟩))
    exact ⟨q1, q2, fun _ => q3, fun _ => rfl⟩
   ·rename_i hk
    refine ⟨h, Wd.Le.refl s, fun hh => ?_, fun _ => rfl⟩
    omega
theorem Ez (hf : C9 p f) {s : Wd} (h : s.Inv p f) : ∀ m, m ≤ p.length → (C8 p f s m).Inv p f ∧ s.Le (C8 p f s m) ∧
  (∀ i, i < m → ((evAt p i).reads = true ∧ (B0 f i = -1 ∨ ∃ w : Nat, B0 f i = w ∧ s.T w = true)) → (C8 p f s m).K i = true) ∧
  (∀ i, i < m → ((evAt p i).op.kind = 1 ∨ ((evAt p i).op.kind = 2 ∧ (C8 p f s m).K i = true) ∨ (evAt p i).op.kind = 3 ∨ (evAt p i).op.kind = 4) → (C8 p f s m).T i = true) ∧
  (∀ i, (C8 p f s m).K i = true → i < m ∨ s.K i = true)
 | 0, _ => ⟨h, Wd.Le.refl s, fun i hi => by omega, fun i hi => by omega, fun i hi => .inr hi⟩
 | m + 1, hm => by
  obtain ⟨h1, h2, h3, h4, h5⟩ := Ez hf h m (by omega)
  obtain ⟨r1, r2, r3⟩ := Re hf (i := m) (by omega) h1
  obtain ⟨w1, w2, w3, w4⟩ := Wa (i := m) (by omega) r1
  have a8 := (h2.trans r2).trans w2
  have kS : ∀ j, j ≠ m → (Ce p f (C8 p f s m) m).K j = (C8 p f s m).K j := by
   intro j hj
   have d7 : m < (C8 p f s m).k.length := by rw [h1.len.k]; omega
   unfold Ce
   split
   ·show ((C8 p f s m).k.set m true)[j]?.getD false = _
    rw [Be d7, if_neg hj]; rfl
   ·split
    ·show ((C8 p f s m).k.set m true)[j]?.getD false = _
     rw [Be d7, if_neg hj]; rfl
    ·rfl
  refine ⟨w1, a8, fun i hi hr => ?_, fun i hi hk => ?_, fun i hi => ?_⟩
  ·by_cases fO : i = m
   ·subst fO
    show (Cs p (Ce p f (C8 p f s i) i) i).K i = true
    rw [w4]
    refine r3 ⟨hr.1, hr.2.imp id fun ⟨w, e1, e2⟩ => ⟨w, e1, (h2.t w e2).1⟩⟩
   ·exact ((r2.trans w2).k i (h3 i (by omega) hr)).1
  ·by_cases fO : i = m
   ·subst fO
    refine w3 (hk.imp id fun e => e.imp (fun e => ⟨e.1, ?_⟩) id)
    have := e.2
    rw [show C8 p f s (i + 1) = Cs p (Ce p f (C8 p f s i) i) i from rfl, w4] at this
    exact this
   ·refine ((r2.trans w2).t i (h4 i (by omega) (hk.imp id fun e => e.imp (fun e => ⟨e.1, ?_⟩) id))).1
    have := e.2
    rw [show C8 p f s (m + 1) = Cs p (Ce p f (C8 p f s m) m) m from rfl, w4, kS i fO] at this
    exact this
  ·have aC : (Cs p (Ce p f (C8 p f s m) m) m).K i = true := hi
   rw [w4] at aC
   by_cases fO : i = m
   ·exact .inl (by omega)
   ·rw [kS i fO] at aC
    rcases h5 i aC with h | h
    ·exact .inl (by omega)
    ·exact .inr h
theorem Bc0 : (wd0 p.length).Inv p f := by
 have hT : ∀ i, (wd0 p.length).T i = false := fun i => by simp only [Wd.T, wd0, lBv]; split <;> rfl
 have hK : ∀ i, (wd0 p.length).K i = false := fun i => by simp only [Wd.K, wd0, lBv]; split <;> rfl
 refine ⟨Ad8 _, fun i h => ?_, fun i _ => ?_, fun i h => ?_⟩
 ·rw [hK] at h; cases h
 ·simp only [Wd.R, wd0, lBv]; split <;> rfl
 ·rw [hT] at h; cases h
theorem Dl (hf : C9 p f) : ∀ k, (Bk p f k).Inv p f
 | 0 => Bc0
 | k + 1 => (Ez hf (Dl hf k) _ (lA5 _)).1
def Ll (p : List Ev) (f : List Int) : Prop := ∀ i w : Nat, i < p.length → (evAt p i).reads = true → B0 f i = w → w < p.length ∧ 1 ≤ (evAt p w).op.kind ∧ (evAt p w).op.kind ≤ 4
theorem Mb (hf : C9 p f) (hs : Ll p f) : ∀ (m i : Nat), i < p.length → (evAt p i).reads = true → (Bk p f (m + 1)).K i = false →
  ∃ g : Nat → Nat, g 0 = i ∧ (∀ j, j ≤ m → g j < p.length) ∧ ∀ j, j < m → B0 f (g j) = (g (j + 1) : Nat)
 | 0, i, hi, _, _ => ⟨fun _ => i, rfl, fun _ _ => hi, fun j hj => by omega⟩
 | m + 1, i, hi, hr, hk => by
  obtain ⟨_, _, h3, _, _⟩ := Ez hf (Dl hf (m + 1)) p.length (lA5 _)
  obtain ⟨_, _, _, k4, _⟩ := Ez hf (Dl hf m) p.length (lA5 _)
  have hn : B0 f i ≠ -1 := fun e => by
   have := h3 i hi ⟨hr, .inl e⟩
   rw [show C8 p f (Bk p f (m + 1)) p.length = Bk p f (m + 1 + 1) from rfl, hk] at this; cases this
  obtain ⟨w, hw⟩ : ∃ w : Nat, B0 f i = w := by
   rcases hf.2 i hi hr with h1 | ⟨h1, _⟩
   ·exact absurd h1 hn
   ·exact ⟨(B0 f i).toNat, by unfold B0; omega⟩
  obtain ⟨cF, bs, tU⟩ := hs i w hi hr hw
  have hT : (Bk p f (m + 1)).T w = false := by
   cases ht : (Bk p f (m + 1)).T w with
   | false => rfl
   | true =>
    have := h3 i hi ⟨hr, .inr ⟨w, hw, ht⟩⟩
    rw [show C8 p f (Bk p f (m + 1)) p.length = Bk p f (m + 1 + 1) from rfl, hk] at this; cases this
  have bh : (evAt p w).op.kind = 2 := by
   apply lBc; intro h2
   have := k4 w cF (by omega)
   rw [show C8 p f (Bk p f m) p.length = Bk p f (m + 1) from rfl, hT] at this; cases this
  have j7 : (Bk p f (m + 1)).K w = false := by
   cases ht : (Bk p f (m + 1)).K w with
   | false => rfl
   | true =>
    have := k4 w cF (.inr (.inl ⟨bh, ht⟩))
    rw [show C8 p f (Bk p f m) p.length = Bk p f (m + 1) from rfl, hT] at this; cases this
  obtain ⟨g, g1, g2, g3⟩ := Mb hf hs m w cF (by simp [Ev.reads, bh]) j7
  refine ⟨fun j => if j = 0 then i else g (j - 1), rfl, fun j hj => ?_, fun j hj => ?_⟩
  ·by_cases h0 : j = 0
   ·simp [h0, hi]
   ·simp only [h0, if_false]; exact g2 _ (by omega)
  ·by_cases h0 : j = 0
   ·subst h0; simpa [g1] using hw
   ·have := g3 (j - 1) (by omega)
    rw [show j - 1 + 1 = j by omega] at this
    simpa [h0] using this
structure Words (p : List Ev) (f : List Int) (R W : Nat → Int) : Prop where
 out : ∀ i, i < p.length → (evAt p i).reads = false → R i = 0
 init : ∀ i, i < p.length → (evAt p i).reads = true → B0 f i = -1 → R i = 0
 from_ : ∀ i w : Nat, i < p.length → (evAt p i).reads = true → B0 f i = w → R i = W w
 store : ∀ i, i < p.length → (evAt p i).op.kind = 1 → W i = (evAt p i).op.v
 add : ∀ i, i < p.length → (evAt p i).op.kind = 2 → W i = IntKind.i64.wrap (R i + (evAt p i).op.v)
 cas : ∀ i, i < p.length → ((evAt p i).op.kind = 3 ∨ (evAt p i).op.kind = 4) → W i = (evAt p i).op.w
theorem Hn (hf : C9 p f) (hs : Ll p f) (al : ∀ a, ¬ TG (fun a b => b < p.length ∧ B0 f b = (a : Nat)) a a) {i : Nat} (hi : i < p.length) (hr : (evAt p i).reads = true) : (Aw p f).K i = true := by
 cases hk : (Aw p f).K i with
 | true => rfl
 | false =>
  exfalso
  obtain ⟨g, g1, g2, g3⟩ := Mb hf hs p.length i hi hr hk
  have := Si (R := fun a b => a < p.length ∧ B0 f a = (b : Nat)) (n := p.length) (m := p.length) (f := g) (fun a ha => ?_) (fun j hj => ⟨g2 j (by omega), g3 j hj⟩) g2
  ·omega
  ·have key : ∀ a b, TG (fun a b => a < p.length ∧ B0 f a = (b : Nat)) a b → TG (fun a b => b < p.length ∧ B0 f b = (a : Nat)) b a := by
    intro a b h
    induction h with
    | one h => exact .one h
    | more h _ ih => exact ih.trans (.one h)
   exact al a (key a a ha)
theorem words_ok (hf : C9 p f) (hs : Ll p f) (al : ∀ a, ¬ TG (fun a b => b < p.length ∧ B0 f b = (a : Nat)) a a) : Words p f (Aw p f).R (Aw p f).W := by
 have bc := Dl hf (p.length + 1)
 have hT : ∀ i, i < p.length → ((evAt p i).op.kind = 1 ∨ ((evAt p i).op.kind = 2 ∧ (Aw p f).K i = true) ∨ (evAt p i).op.kind = 3 ∨ (evAt p i).op.kind = 4) → (Aw p f).T i = true :=
  (Ez hf (Dl hf p.length) _ (lA5 _)).2.2.2.1
 refine ⟨fun i hi hr => ?_, fun i hi hr h0 => ?_, fun i w hi hr hw => ?_, fun i hi hk => ?_, fun i hi hk => ?_, fun i hi hk => ?_⟩
 ·refine bc.n i ?_
  cases hk : (Bk p f (p.length + 1)).K i with
  | false => rfl
  | true => rw [(bc.k i hk).1] at hr; cases hr
 ·rcases (bc.k i (Hn hf hs al hi hr)).2 with ⟨_, h⟩ | ⟨w, h, _⟩
  ·exact h
  ·omega
 ·rcases (bc.k i (Hn hf hs al hi hr)).2 with ⟨h, _⟩ | ⟨w', h, _, h3⟩
  ·omega
  ·have : w' = w := by omega
   subst this; exact h3
 ·rcases bc.t i (hT i hi (.inl hk)) with ⟨_, h⟩ | ⟨h, _⟩ | ⟨h, _⟩
  ·exact h
  ·omega
  ·omega
 ·have hr : (evAt p i).reads = true := by simp [Ev.reads, hk]
  rcases bc.t i (hT i hi (.inr (.inl ⟨hk, Hn hf hs al hi hr⟩))) with ⟨h, _⟩ | ⟨_, _, h⟩ | ⟨h, _⟩
  ·omega
  ·exact h
  ·omega
 ·rcases bc.t i (hT i hi (.inr (.inr hk))) with ⟨h, _⟩ | ⟨h, _⟩ | ⟨_, h⟩
  ·omega
  ·omega
  ·exact h
theorem Cv9 {n : Nat} {f : Nat → Int} (aS : ∀ i, i < n → f i < n) (al : ∀ a, ¬ TG (fun a b => b < n ∧ f b = (a : Nat)) a a) (C : Nat → Prop) (h : ∀ i, i < n → (∀ w : Nat, f i = w → C w) → C i) : ∀ i, i < n → C i := by
 intro i hi
 apply lCo; intro hn
 have step : ∀ x : { i : Nat // i < n ∧ ¬ C i }, ∃ y : { i : Nat // i < n ∧ ¬ C i }, f x.1 = (y.1 : Nat) := by
  intro ⟨x, hx, hc⟩
  apply lCo; intro aP
  refine hc (h x hx fun w hw => ?_)
  apply lCo; intro dX
  exact aP ⟨⟨w, by have := aS x hx; omega, dX⟩, hw⟩
 have hg : ∃ g : { i : Nat // i < n ∧ ¬ C i } → { i : Nat // i < n ∧ ¬ C i }, ∀ x, f x.1 = ((g x).1 : Nat) := ⟨fun x => Classical.choose (step x), fun x => Classical.choose_spec (step x)⟩
 obtain ⟨g, hg⟩ := hg
 let it : Nat → { i : Nat // i < n ∧ ¬ C i } := fun k => Nat.rec ⟨i, hi, hn⟩ (fun _ x => g x) k
 have := Si (R := fun a b => a < n ∧ f a = (b : Nat)) (n := n) (m := n) (f := fun k => (it k).1) (fun a ha => ?_) (fun j hj => ⟨(it j).2.1, hg (it j)⟩) (fun j _ => (it j).2.1)
 ·omega
 ·have key : ∀ a b, TG (fun a b => a < n ∧ f a = (b : Nat)) a b → TG (fun a b => b < n ∧ f b = (a : Nat)) b a := by
   intro a b h
   induction h with
   | one h => exact .one h
   | more h _ ih => exact ih.trans (.one h)
  exact al a (key a a ha)
theorem Words.uniq (hf : C9 p f) (hs : Ll p f) (al : ∀ a, ¬ TG (fun a b => b < p.length ∧ B0 f b = (a : Nat)) a a) (aS : ∀ i, i < p.length → B0 f i < p.length) {R W R' W' : Nat → Int} (h : Words p f R W) (h' : Words p f R' W') :
  ∀ i, i < p.length → R i = R' i ∧ (1 ≤ (evAt p i).op.kind → (evAt p i).op.kind ≤ 4 → W i = W' i) := by
 refine Cv9 (f := B0 f) aS al _ fun i hi ih => ?_
 have hR : R i = R' i := by
  cases hr : (evAt p i).reads with
  | false => rw [h.out i hi hr, h'.out i hi hr]
  | true =>
   rcases hf.2 i hi hr with h0 | ⟨h0, h1⟩
   ·rw [h.init i hi hr h0, h'.init i hi hr h0]
   ·obtain ⟨w, hw⟩ : ∃ w : Nat, B0 f i = w := ⟨(B0 f i).toNat, by unfold B0; omega⟩
    obtain ⟨q1, q2, q3⟩ := hs i w hi hr hw
    rw [h.from_ i w hi hr hw, h'.from_ i w hi hr hw]
    exact (ih w hw).2 q2 q3
 refine ⟨hR, fun h1 h4 => ?_⟩
 by_cases k1 : (evAt p i).op.kind = 1
 ·rw [h.store i hi k1, h'.store i hi k1]
 ·by_cases k2 : (evAt p i).op.kind = 2
  ·rw [h.add i hi k2, h'.add i hi k2, hR]
  ·rw [h.cas i hi (by omega), h'.cas i hi (by omega)]
end
theorem Kp (n : Nat) (f : Nat → Bool) : (Cr n f).Pairwise (· < ·) := by
 unfold Cr
 rw [lDn]
 refine List.Pairwise.imp (R := fun a b : Nat => a < b) (fun h => by omega) ?_
 exact List.Pairwise.filter _ List.pairwise_lt_range
theorem Ae7 {l : List Int} (h : l.Pairwise (· < ·)) {i j : Nat} (hi : i < l.length) (hj : j < l.length) (e : Ae l i = Ae l j) : i = j := by
 have hp := lBb.1 h
 simp only [Ae, lA2 hi, lA2 hj, lAr] at e
 rcases Nat.lt_trichotomy i j with h1 | h1 | h1
 ·have := hp i j hi hj h1; omega
 ·exact h1
 ·have := hp j i hj hi h1; omega
theorem C0 {l : List Int} {i : Nat} (hi : i < l.length) : Ae l i = l[i] := by simp [Ae, hi]
theorem Gw {l : List Int} {x : Int} : x ∈ l ↔ ∃ i, i < l.length ∧ Ae l i = x := by
 constructor
 ·intro h
  obtain ⟨i, hi, rfl⟩ := lBf h
  exact ⟨i, hi, C0 hi⟩
 ·rintro ⟨i, hi, rfl⟩
  rw [C0 hi]; exact lAm hi
def Ci (e : List Bool) (i : Nat) : Bool := e[i]?.getD false
theorem T3 (p : List Ev) (i : Nat) (hi : i < p.length) : ∀ m, m ≤ p.length → Ci (Lg p m) i = (decide (i < m) && (decide ((evAt p i).op.kind = 1) || decide ((evAt p i).op.kind = 2)))
 | 0, _ => by simp [Lg, Ci, hi]
 | m + 1, hm => by
  have ih := T3 p i hi m (by omega)
  unfold Ci at ih ⊢
  rw [Lg, Be (by rw [Kk]; omega), ih]
  by_cases h : i = m
  ·subst h; simp
  ·have : decide (i < m + 1) = decide (i < m) := by rw [decide_eq_decide]; omega
   rw [if_neg h, this]
theorem O3 {p : List Ev} {i : Nat} : (i : Int) ∈ Bn p ↔ i < p.length ∧ ((evAt p i).op.kind = 3 ∨ (evAt p i).op.kind = 4) := by
 rw [Bn, B5]
 constructor
 ·rintro ⟨j, h1, h2, h3⟩
  have : j = i := by omega
  subst this
  exact ⟨h1, by simpa using h2⟩
 ·rintro ⟨h1, h2⟩; exact ⟨i, h1, by simpa using h2, rfl⟩
theorem Kq (p : List Ev) (set i : Nat) (hi : i < p.length) : ∀ k, k ≤ (Bn p).length →
  (∀ j, j < k → Ae (Bn p) j = i → Ci (Kj p set k) i = set.testBit j) ∧ ((∀ j, j < k → Ae (Bn p) j ≠ i) → Ci (Kj p set k) i = (decide ((evAt p i).op.kind = 1) || decide ((evAt p i).op.kind = 2)))
 | 0, _ => ⟨fun j hj => by omega, fun _ => by rw [Kj, T3 p i hi _ (lA5 _)]; simp [hi]⟩
 | k + 1, hk => by
  obtain ⟨h1, h2⟩ := Kq p set i hi k (by omega)
  have hin : (Ae (Bn p) k) ∈ Bn p := Gw.2 ⟨k, by omega, rfl⟩
  obtain ⟨w, aT, _, dD⟩ := B5.1 hin
  have aG : (Ae (Bn p) k).toNat < (Kj p set k).length := by rw [Kl]; omega
  unfold Ci at h1 h2 ⊢
  rw [Kj, Be aG]
  constructor
  ·intro j hj he
   by_cases rk : j = k
   ·subst rk; rw [if_pos (by omega)]
   ·have hne : Ae (Bn p) j ≠ Ae (Bn p) k := fun e => rk (Ae7 (Kp _ _) (show j < (Bn p).length by omega) (show k < (Bn p).length by omega) e)
    rw [if_neg (by omega)]
    exact h1 j (by omega) he
  ·intro hn
   have := hn k (by omega)
   rw [if_neg (by omega)]
   exact h2 fun j hj => hn j (by omega)
def So (f : Nat → Bool) : Nat → Nat
 | 0 => 0
 | k + 1 => So f k ||| (if f k then 2 ^ k else 0)
theorem Xp (f : Nat → Bool) : ∀ k, So f k < 2 ^ k
 | 0 => by simp [So]
 | k + 1 => by
  have := Xp f k
  rw [So]
  refine lCn (by rw [Nat.pow_succ]; omega) ?_
  split
  ·rw [Nat.pow_succ]; have := lD3 k; omega
  ·exact lD3 _
theorem T4 (f : Nat → Bool) (j : Nat) : ∀ k, (So f k).testBit j = (decide (j < k) && f j)
 | 0 => by simp [So]
 | k + 1 => by
  rw [So, lCz, T4 f j k]
  by_cases h : j = k
  ·subst h
   cases f j <;> simp
  ·have h2 : decide (j < k + 1) = decide (j < k) := by rw [decide_eq_decide]; omega
   rw [h2]
   have h3 : (if f k then 2 ^ k else 0).testBit j = false := by
    split
    ·rw [lCi]; simp; omega
    ·simp
   rw [h3, lFm]
theorem Al9 {a b : List Bool} (hl : a.length = b.length) (h : ∀ i, i < a.length → Ci a i = Ci b i) : a = b := by
 refine lE8 hl fun i h1 h2 => ?_
 have := h i h1
 simpa [Ci, h1, h2] using this
theorem Lm {p : List Ev} {dn : List Bool} : dn ∈ Gu p ↔ dn.length = p.length ∧ ∀ i, i < p.length →
  (((evAt p i).op.kind = 1 ∨ (evAt p i).op.kind = 2) → Ci dn i = true) ∧ (Ci dn i = true → 1 ≤ (evAt p i).op.kind ∧ (evAt p i).op.kind ≤ 4) := by
 have eZ : ∀ (set i : Nat), i < p.length → (∀ j, j < (Bn p).length → Ae (Bn p) j = i → Ci (Ih p set) i = set.testBit j) ∧ ((evAt p i).op.kind ≠ 3 → (evAt p i).op.kind ≠ 4 → Ci (Ih p set) i = (decide ((evAt p i).op.kind = 1) || decide ((evAt p i).op.kind = 2))) := by
  intro set i hi
  obtain ⟨h1, h2⟩ := Kq p set i hi _ (lA5 _)
  refine ⟨h1, fun k3 k4 => h2 fun j hj he => ?_⟩
  have : (i : Int) ∈ Bn p := Gw.2 ⟨j, hj, he⟩
  rcases (O3.1 this).2 with h | h
  ·exact k3 h
  ·exact k4 h
 constructor
 ·intro h
  obtain ⟨set, hs, rfl⟩ := lAi.1 h
  refine ⟨Ff p set, fun i hi => ?_⟩
  obtain ⟨h1, h2⟩ := eZ set i hi
  constructor
  ·rintro (hk | hk)
   ·rw [h2 (by omega) (by omega)]; simp [hk]
   ·rw [h2 (by omega) (by omega)]; simp [hk]
  ·intro hd
   by_cases k3 : (evAt p i).op.kind = 3
   ·omega
   ·by_cases k4 : (evAt p i).op.kind = 4
    ·omega
    ·rw [h2 k3 k4] at hd
     simp only [lAq, decide_eq_true_eq] at hd
     omega
 ·rintro ⟨hl, h⟩
  refine lAi.2 ⟨So (fun j => Ci dn (Ae (Bn p) j).toNat) (Bn p).length, lAn.2 (Xp _ _), ?_⟩
  refine Al9 (by rw [Ff, hl]) fun i hi => ?_
  rw [Ff] at hi
  obtain ⟨h1, h2⟩ := eZ (So (fun j => Ci dn (Ae (Bn p) j).toNat) (Bn p).length) i hi
  by_cases hf : (i : Int) ∈ Bn p
  ·obtain ⟨j, hj, he⟩ := Gw.1 hf
   rw [h1 j hj he, T4]
   simp [hj, he]
  ·have rl : (evAt p i).op.kind ≠ 3 ∧ (evAt p i).op.kind ≠ 4 := ⟨fun e => hf (O3.2 ⟨hi, .inl e⟩), fun e => hf (O3.2 ⟨hi, .inr e⟩)⟩
   rw [h2 rl.1 rl.2]
   have := h i hi
   cases hd : Ci dn i with
   | true =>
    have := this.2 hd
    simp only [lAq, decide_eq_true_eq]; omega
   | false =>
    simp only [lBn, decide_eq_false_iff_not]
    refine ⟨fun e => ?_, fun e => ?_⟩
    ·rw [this.1 (.inl e)] at hd; cases hd
    ·rw [this.1 (.inr e)] at hd; cases hd
def Am0 (p : List Ev) (m : List Int) : Prop := m.Pairwise fun x y => thI p x = thI p y → x < y
theorem T5 {l : List Int} {i : Nat} (hi : i < l.length) : l.Perm (l[i] :: l.eraseIdx i) := by
 have h2 : l = l.take i ++ l[i] :: l.drop (i + 1) := by rw [List.getElem_cons_drop, lEg]
 rw [lCr]
 conv => lhs; rw [h2]
 exact lEo
theorem Ju {p : List Ev} : ∀ (n : Nat) (l m : List Int), l.length = n → l.Pairwise (· < ·) → (m ∈ Bw p n l ↔ m.Perm l ∧ Am0 p m)
 | 0, l, m, hl, _ => by
  have : l = [] := lC2.1 hl
  subst this
  simp only [Bw, lAk, List.perm_nil]
  constructor
  ·rintro rfl; exact ⟨rfl, List.Pairwise.nil⟩
  ·exact fun h => h.1
 | n + 1, l, m, hl, ha => by
  have hp := lBb.1 ha
  simp only [Bw, lB3, lAn]
  constructor
  ·rintro ⟨i, hi, hm⟩
   have cG : i < l.length := by omega
   split at hm
   ·exact absurd hm lB4
   ·rename_i hb
    obtain ⟨m', lH, rfl⟩ := lAi.1 hm
    obtain ⟨h1, h2⟩ := (Ju n (l.eraseIdx i) m' (by rw [lD7 cG]; omega) (ha.sublist (lF6 ..))).1 lH
    rw [C0 cG]
    refine ⟨(lCh _ h1).trans (T5 cG).symm, lDl.2 ⟨fun y hy c8 => ?_, h2⟩⟩
    have dQ : y ∈ l.eraseIdx i := h1.mem_iff.1 hy
    rw [lCr, lBa] at dQ
    rcases dQ with dQ | dQ
    ·exfalso
     apply hb
     rw [D8, lCc]
     exact ⟨y, dQ, by rw [C0 cG, decide_eq_true_eq]; exact c8.symm⟩
    ·obtain ⟨j, hj, rfl⟩ := lBf dQ
     rw [List.getElem_drop]
     exact hp i _ cG _ (by omega)
  ·rintro ⟨h1, h2⟩
   rcases m with _ | ⟨x, m'⟩
   ·have := h1.length_eq; simp at this; omega
   ·have hx : x ∈ l := h1.mem_iff.1 (lAz ..)
    obtain ⟨i, hi, rfl⟩ := lBf hx
    obtain ⟨h3, h4⟩ := lDl.1 h2
    have h5 : m'.Perm (l.eraseIdx i) := (h1.trans (T5 hi)).cons_inv
    refine ⟨i, by omega, ?_⟩
    rw [if_neg ?_]
    ·rw [C0 hi]
     exact lAi.2 ⟨m', (Ju n (l.eraseIdx i) m' (by rw [lD7 hi]; omega) (ha.sublist (lF6 ..))).2 ⟨h5, h4⟩, rfl⟩
    ·intro hb
     rw [D8, lCc] at hb
     obtain ⟨z, hz, c8⟩ := hb
     rw [C0 hi, decide_eq_true_eq] at c8
     have tV : z ∈ m' := h5.mem_iff.2 (by rw [lCr, lBa]; exact .inl hz)
     have := h3 z tV c8.symm
     obtain ⟨j, hj, rfl⟩ := lBf hz
     rw [lC0] at hj
     rw [lEj] at this
     have := hp j i (by omega) hi (by omega)
     omega
theorem O4 {p : List Ev} {l m : List Int} (ha : l.Pairwise (· < ·)) : m ∈ Cn p l ↔ m.Perm l ∧ Am0 p m := Ju _ l m rfl ha
theorem Ei (p : List Ev) (dn : List Bool) (loc : Int) : (A7 p dn loc).Pairwise (· < ·) := Kp _ _
theorem I0 (p : List Ev) : (Ba p).Pairwise (· < ·) := Kp _ _
theorem Fo {p : List Ev} {dn : List Bool} : ∀ (k : Nat) (loc : Int) (x : List (List Int)), x ∈ Bs p dn k loc ↔ x.length = k ∧ ∀ j, j < k → (x[j]?.getD []) ∈ Cn p (A7 p dn (loc + j))
 | 0, loc, x => by
  simp only [Bs, lAk]
  constructor
  ·rintro rfl; exact ⟨rfl, fun j hj => by omega⟩
  ·rintro ⟨h, _⟩; exact lC2.1 h
 | k + 1, loc, x => by
  simp only [Bs, lB3, lAi]
  constructor
  ·rintro ⟨l, hl, y, hy, rfl⟩
   obtain ⟨h1, h2⟩ := (Fo k (loc + 1) y).1 hy
   refine ⟨by simp [h1], fun j hj => ?_⟩
   cases j with
   | zero => simpa using hl
   | succ j =>
    have := h2 j (by omega)
    simpa [Int.add_assoc, Int.add_comm 1] using this
  ·rintro ⟨h1, h2⟩
   rcases x with _ | ⟨l, y⟩
   ·simp at h1
   ·refine ⟨l, by simpa using h2 0 (by omega), y, (Fo k (loc + 1) y).2 ⟨by simpa using h1, fun j hj => ?_⟩, rfl⟩
    have := h2 (j + 1) (by omega)
    simpa [Int.add_assoc, Int.add_comm 1] using this
theorem I1 {p : List Ev} {dn : List Bool} {ord : List (List Int)} : ∀ (k i : Nat) (x : List Int), x ∈ B9 p dn ord k i ↔ x.length = k ∧ ∀ j, j < k → B0 x j ∈ Bd p dn ord (i + j)
 | 0, i, x => by
  simp only [B9, lAk]
  constructor
  ·rintro rfl; exact ⟨rfl, fun j hj => by omega⟩
  ·rintro ⟨h, _⟩; exact lC2.1 h
 | k + 1, i, x => by
  simp only [B9, lB3, lAi]
  constructor
  ·rintro ⟨w, hw, y, hy, rfl⟩
   obtain ⟨h1, h2⟩ := (I1 k (i + 1) y).1 hy
   refine ⟨by simp [h1], fun j hj => ?_⟩
   cases j with
   | zero => simpa [B0] using hw
   | succ j =>
    have := h2 j (by omega)
    simpa [B0, lDa, lE3 1] using this
  ·rintro ⟨h1, h2⟩
   rcases x with _ | ⟨w, y⟩
   ·simp at h1
   ·refine ⟨w, by simpa [B0] using h2 0 (by omega), y, (I1 k (i + 1) y).2 ⟨by simpa using h1, fun j hj => ?_⟩, rfl⟩
    have := h2 (j + 1) (by omega)
    simpa [B0, lDa, lE3 1] using this
structure Shape (p : List Ev) (e : Exec) : Prop where
 fl : e.frm.length = p.length
 dl : e.dn.length = p.length
 ol : e.ord.length = 3
 dn1 : ∀ i, i < p.length → ((evAt p i).op.kind = 1 ∨ (evAt p i).op.kind = 2) → Ci e.dn i = true
 dn0 : ∀ i, i < p.length → Ci e.dn i = true → 1 ≤ (evAt p i).op.kind ∧ (evAt p i).op.kind ≤ 4
 out : ∀ i, i < p.length → (evAt p i).reads = false → Af e i = -2
 src : ∀ i, i < p.length → (evAt p i).reads = true → Af e i = -1 ∨ ∃ w : Nat, Af e i = w ∧ w < p.length ∧ Ci e.dn w = true ∧ (evAt p w).op.loc = (evAt p i).op.loc
 ord : ∀ k : Nat, k < 3 → (e.ord[k]?.getD []).Perm (A7 p e.dn k)
 fen : e.fen.Perm (Ba p)
def T6 (p : List Ev) (e : Exec) : Prop := ∀ i, i < p.length →
 ((evAt p i).op.kind = 3 → (Ci e.dn i = true ↔ (Aw p e.frm).R i = (evAt p i).op.v)) ∧ ((evAt p i).op.kind = 4 → Ci e.dn i = true → (Aw p e.frm).R i = (evAt p i).op.v)
theorem Bc {p : List Ev} {dn : List Bool} {k : Int} {x : Int} : x ∈ A7 p dn k ↔ ∃ i : Nat, x = i ∧ i < p.length ∧ (evAt p i).op.kind ≠ 5 ∧ Ci dn i = true ∧ (evAt p i).op.loc = k := by
 rw [A7, B5]
 simp only [lA6, decide_eq_true_eq, Ci]
 constructor
 ·rintro ⟨i, h1, ⟨⟨h2, h3⟩, h4⟩, h5⟩; exact ⟨i, h5, h1, h2, h3, h4⟩
 ·rintro ⟨i, h5, h1, h2, h3, h4⟩; exact ⟨i, h1, ⟨⟨h2, h3⟩, h4⟩, h5⟩
theorem Shape.xok {p : List Ev} {e : Exec} (h : Shape p e) (hn : e.fen = [] ∨ True) : XOk p e := by
 have mK : ∀ l ∈ e.ord, Ib p l ∧ l.length ≤ p.length := by
  intro l hl
  obtain ⟨k, hk, rfl⟩ := lBf hl
  have := h.ord k (by rw [← h.ol]; exact hk)
  rw [lA2 hk, lAr] at this
  exact ⟨(Lh p e.dn _).perm this, by rw [this.length_eq]; exact Bj _ _⟩
 refine ⟨h.fl, h.dl, h.ol, fun i hi => ?_, mK, (Oo p).perm h.fen, by rw [h.fen.length_eq]; exact Bj _ _⟩
 cases hr : (evAt p i).reads with
 | false =>
  have := h.out i hi hr
  unfold Af at this
  exact ⟨by omega, fun h => by cases h⟩
 | true =>
  rcases h.src i hi hr with h1 | ⟨w, h1, h2, _⟩
  ·unfold Af at h1; exact ⟨by omega, fun _ => by omega⟩
  ·unfold Af at h1; exact ⟨by omega, fun _ => by omega⟩
theorem Shape.fromOk {p : List Ev} {e : Exec} (h : Shape p e) : C9 p e.frm := (h.xok (.inr trivial)).fromOk
theorem Shape.srcOk {p : List Ev} {e : Exec} (h : Shape p e) : Ll p e.frm := fun i w hi hr hw => by
 rcases h.src i hi hr with h1 | ⟨w', h1, h2, h3, _⟩
 ·unfold Af at h1; unfold B0 at hw; omega
 ·have : w' = w := by unfold Af at h1; unfold B0 at hw; omega
  subst this
  exact ⟨h2, h.dn0 w' h2 h3⟩
theorem Shape.words {p : List Ev} {e : Exec} (h : Shape p e) (al : Tz p e) : Words p e.frm (Aw p e.frm).R (Aw p e.frm).W := words_ok h.fromOk h.srcOk al
theorem Ae8 {p : List Ev} {e : Exec} {a b : Nat} (h : Hb p ⟨e.frm, e.dn, e.ord, []⟩ a b) : Hb p e a b := by
 refine TG.mono h fun x y cR => ?_
 rcases cR with cR | ⟨j, hj, _⟩ | ⟨r, w, v, h1, h2, h3, h4, h5, h6⟩
 ·exact .inl cR
 ·simp at hj
 ·refine .inr (.inr ⟨r, w, v, h1, h2, h3, ?_, h5, h6⟩)
  have key : ∀ {w v : Nat}, Back p ⟨e.frm, e.dn, e.ord, []⟩ w v → Back p e w v := by
   intro w v h
   induction h with
   | here => exact .here
   | on h _ ih => exact .on h ih
  exact key h4
theorem Cons.less {p : List Ev} {e : Exec} (h : Cons p e) : Cons p ⟨e.frm, e.dn, e.ord, []⟩ := by
 refine ⟨fun ⟨a, ha⟩ => h.round ⟨a, ha.mono fun x y cR => ?_⟩, fun hc => h.cross ?_, h.next⟩
 ·rcases cR with cR | ⟨j, hj, _⟩ | cR
  ·exact .inl cR
  ·simp at hj
  ·exact .inr (.inr cR)
 ·rcases hc with ⟨a, ha⟩ | ⟨a, b, h1, h2⟩
  ·exact .inl ⟨a, Ae8 ha⟩
  ·refine .inr ⟨a, b, Ae8 h1, TG.mono h2 fun x y cR => ?_⟩
   exact cR
theorem O5 {p : List Ev} {e : Exec} : (List.range p.length).any (Ig p e) = false ↔ T6 p e := by
 unfold T6
 rw [List.any_eq_false]
 simp only [lAn]
 refine forall_congr' fun i => forall_congr' fun hi => ?_
 unfold Ig
 show ¬ ((decide ((evAt p i).op.kind = 3) && xor (Ci e.dn i) (decide ((Aw p e.frm).R i = (evAt p i).op.v))) || (decide ((evAt p i).op.kind = 4) && (Ci e.dn i) && decide ((Aw p e.frm).R i ≠ (evAt p i).op.v))) = true ↔ _
 cases hd : Ci e.dn i <;> by_cases hv : (Aw p e.frm).R i = (evAt p i).op.v <;> by_cases h3 : (evAt p i).op.kind = 3 <;> by_cases h4 : (evAt p i).op.kind = 4 <;> simp [hv, h3, h4]
theorem Bc1 {l : List Int} (hn : l.Nodup) {x : Int} {j : Nat} (hj : j < l.length) (e : l[j] = x) : l.findIdx (fun y => decide (x = y)) = j := by
 refine (List.findIdx_eq hj).2 ⟨by simp [e], fun k hk => ?_⟩
 rw [decide_eq_false_iff_not]
 intro h
 have := (lBb.1 (lBt.1 hn)) k j (by omega) hj hk
 exact this (by rw [e, ← h])
theorem Y2 {l : List Int} (hn : l.Nodup) (hpos : ∀ x ∈ l, 0 ≤ x) {i j : Nat} (hj : j < l.length) (e : l[j] = i) : Gg (-1 :: l) i = Fl l j := by
 unfold Gg
 have : (-1 :: l : List Int).findIdx (fun y => decide ((i : Int) = y)) = j + 1 := by
  refine Bc1 (x := (i : Int)) (lD0.2 ⟨fun h => by have := hpos _ h; omega, hn⟩) (by simp; omega) (by simpa using e)
 rw [this, lEs]
 cases j with
 | zero => rfl
 | succ j => simp [Fl, Ae]
theorem Fp {l : List Int} (h : l.Pairwise (· < ·)) : l.Nodup := by
 rw [lBt]; exact h.imp fun h => by omega
theorem Cw0 {p : List Ev} (hm : Nn p) {e : Exec} : ∀ (d a : Nat), a + d + 1 < p.length → (evAt p a).th = (evAt p (a + d + 1)).th → Hb p e a (a + d + 1)
 | 0, a, h, ht => .one (.inl ⟨rfl, h, ht.symm⟩)
 | d + 1, a, h, ht => by
  have h1 := hm.between (a := a) (b := a + (d + 1) + 1) (x := a + d + 1) h (by omega) (by omega) ht
  exact (Cw0 hm d a (by omega) (by rw [h1]; exact ht)).trans (.one (.inl ⟨by omega, h, h1.symm⟩))
theorem Xq {p : List Ev} (hm : Nn p) {e : Exec} : ∀ (d a : Nat), a + d + 1 < p.length → (evAt p a).th = (evAt p (a + d + 1)).th → TG (fun a b => Sb1 p a b ∨ Fo1 e.fen a b ∨ Rf e p.length a b) a (a + d + 1)
 | 0, a, h, ht => .one (.inl ⟨rfl, h, ht.symm⟩)
 | d + 1, a, h, ht => by
  have h1 := hm.between (a := a) (b := a + (d + 1) + 1) (x := a + d + 1) h (by omega) (by omega) ht
  exact (Xq hm d a (by omega) (by rw [h1]; exact ht)).trans (.one (.inl ⟨by omega, h, h1.symm⟩))
theorem Xr {p : List Ev} {e : Exec} : ∀ (d j a b : Nat), j + d + 1 < e.fen.length → (∀ k, k < e.fen.length → 0 ≤ Ae e.fen k) → Ae e.fen j = a → Ae e.fen (j + d + 1) = b → TG (fun a b => Sb1 p a b ∨ Fo1 e.fen a b ∨ Rf e p.length a b) a b
 | 0, j, a, b, h, _, ha, hb => .one (.inr (.inl ⟨j, h, ha, hb⟩))
 | d + 1, j, a, b, h, hp, ha, hb => by
  have h1 := hp (j + d + 1) (by omega)
  obtain ⟨c, hc⟩ : ∃ c : Nat, Ae e.fen (j + d + 1) = c := ⟨(Ae e.fen (j + d + 1)).toNat, by omega⟩
  exact (Xr d j a c (by omega) hp ha hc).trans (.one (.inr (.inl ⟨j + d + 1, by omega, hc, by rw [← hb]; congr 1⟩)))
theorem Np {p : List Ev} (hp : POk p) (hm : Nn p) {e : Exec} : e ∈ Ca p ↔ Shape p e ∧ T6 p e ∧ Cons p e := by
 constructor
 ·intro h
  have h0 := h
  simp only [Ca, Jh, L7, lB3] at h
  obtain ⟨dn, hd, ord, ho, frm, hf, h⟩ := h
  unfold Fm at h
  split at h
  ·rename_i hpos
   obtain ⟨h, hb⟩ := lCl.1 h
   obtain ⟨fen, hn, rfl⟩ := lAi.1 h
   have hx := exec_ok hp hd ho hf (Li hn)
   obtain ⟨d1, d2⟩ := Lm.1 hd
   obtain ⟨o1, o2⟩ := (Fo 3 0 ord).1 ho
   obtain ⟨f1, f2⟩ := (I1 _ _ frm).1 hf
   have bL : ∀ k : Nat, k < 3 → (ord[k]?.getD []).Perm (A7 p dn k) := fun k hk => by
    have := Ey (o2 k hk)
    rwa [Int.zero_add] at this
   unfold D7 at hpos
   simp only [lA6, lB8, decide_eq_true_eq] at hpos hb
   have hw : T6 p ⟨frm, dn, ord, []⟩ := O5.1 hpos.1
   have hc := (Ij hp hm hx).1 hb
   refine ⟨⟨f1, d1, o1, fun i hi => (d2 i hi).1, fun i hi => (d2 i hi).2, fun i hi hr => ?_, fun i hi hr => ?_, bL, Ey hn⟩, hw, hc⟩
   ·have := f2 i hi
    rw [lBg, Bd, if_pos hr, lAk] at this
    exact this
   ·have h1 := f2 i hi
    rw [lBg, Bd, if_neg (by rw [hr]; simp)] at h1
    have bY := hp.loc i hi
    have cN : ∀ x ∈ H4 p ord i, x = -1 ∨ ∃ w : Nat, x = w ∧ w < p.length ∧ Ci dn w = true ∧ (evAt p w).op.loc = (evAt p i).op.loc := by
     intro x hx
     rcases lBo.1 hx with h | h
     ·exact .inl h
     ·have h3 := (bL (evAt p i).op.loc.toNat (by omega)).mem_iff.1 h
      obtain ⟨w, q1, q2, _, q3, q4⟩ := Bc.1 h3
      exact .inr ⟨w, q1, q2, q3, by omega⟩
    split at h1
    ·rw [lAk] at h1
     show B0 frm i = -1 ∨ _
     show _ ∨ ∃ w : Nat, B0 frm i = w ∧ _
     rw [h1]
     unfold Gg Ae
     rcases hq : (H4 p ord i)[(H4 p ord i).findIdx (fun y => decide ((i : Int) = y)) - 1]? with _ | y
     ·
      exfalso
      have := List.getElem?_eq_none_iff.1 hq
      have h2 := List.findIdx_le_length (p := fun y => decide ((i : Int) = y)) (xs := H4 p ord i)
      have h3 : 0 < (H4 p ord i).length := by simp [H4]
      have h4 : (H4 p ord i).findIdx (fun y => decide ((i : Int) = y)) ≠ 0 := by
       intro h0
       simp [H4, List.findIdx_cons] at h0
      omega
     ·exact cN y (lC9 hq)
    ·exact cN _ h1
  ·exact absurd h lB4
 ·rintro ⟨hs, hw, hc⟩
  have hx := hs.xok (.inr trivial)
  obtain ⟨frm, dn, ord, fen⟩ := e
  have al : Tz p ⟨frm, dn, ord, fen⟩ := JQ hc.round
  simp only [Ca, Jh, L7, lB3]
  have hdn : dn ∈ Gu p := Lm.2 ⟨hs.dl, fun i hi => ⟨hs.dn1 i hi, hs.dn0 i hi⟩⟩
  have bL : ∀ k : Nat, k < 3 → (ord[k]?.getD []).Perm (A7 p dn k) := hs.ord
  have aI : ∀ k : Nat, k < 3 → (ord[k]?.getD []) ∈ ord := fun k hk => by
   have : k < ord.length := by have : ord.length = 3 := hs.ol; omega
   rw [lA2 this, lAr]; exact lAm _
  have az : ∀ k : Nat, k < 3 → Am0 p (ord[k]?.getD []) := by
   intro k hk
   have am := bL k hk
   have gM := aI k hk
   generalize ord[k]?.getD [] = l at am gM
   refine lBb.2 fun i j hi hj fV c8 => ?_
   apply lBc; intro aS
   have mi := Bc.1 (am.mem_iff.1 (lAm hi))
   have mj := Bc.1 (am.mem_iff.1 (lAm hj))
   obtain ⟨a, ea, la, _⟩ := mi
   obtain ⟨b, eb, lb, _⟩ := mj
   have hne : a ≠ b := by
    intro e
    have hnd : l.Nodup := (am.nodup_iff).2 (Fp (Ei p dn k))
    exact (lBb.1 (lBt.1 hnd)) i j hi hj fV (by rw [ea, eb, e])
   rw [ea, eb] at aS c8
   simp only [thI, lB2] at c8
   have nw : b < a := by omega
   refine hc.cross (.inr ⟨b, a, ?_, .one (.inl ⟨l, gM, i, j, fV, hj, by rw [C0 hi, ea], by rw [C0 hj, eb]⟩)⟩)
   have := Cw0 hm (e := ⟨frm, dn, ord, fen⟩) (a - b - 1) b (by omega) (by rw [show b + (a - b - 1) + 1 = a by omega]; exact c8.symm)
   rwa [show b + (a - b - 1) + 1 = a by omega] at this
  have mL : ord ∈ On p dn := (Fo 3 0 ord).2 ⟨hs.ol, fun j hj => by
   rw [Int.zero_add]; exact (O4 (Ei _ _ _)).2 ⟨bL j hj, az j hj⟩⟩
  have ip : frm ∈ L5 p dn ord := by
   refine (I1 _ _ frm).2 ⟨hs.fl, fun i hi => ?_⟩
   rw [lBg, Bd]
   cases hr : (evAt p i).reads with
   | false => rw [if_pos rfl, lAk]; exact hs.out i hi hr
   | true =>
    rw [if_neg (by simp)]
    have bY := hp.loc i hi
    have cD : (evAt p i).op.loc.toNat < 3 := by omega
    have am := bL _ cD
    have gM := aI _ cD
    split
    ·rename_i hd
     rw [lAk]
     have so := hs.dn0 i hi hd
     have hin : (i : Int) ∈ ord[(evAt p i).op.loc.toNat]?.getD [] := am.mem_iff.2 (Bc.2 ⟨i, rfl, hi, by omega, hd, by omega⟩)
     obtain ⟨j, hj, jZ⟩ := lBf hin
     have rm := hc.next _ gM j hj
     rw [C0 hj, jZ, lB2] at rm
     have := rm hr
     show Af ⟨frm, dn, ord, fen⟩ i = _
     rw [this, H4, Y2 ((am.nodup_iff).2 (Fp (Ei _ _ _))) (fun x hx => by
      obtain ⟨w, hw, _⟩ := Bc.1 (am.mem_iff.1 hx); omega) hj jZ]
    ·rcases hs.src i hi hr with h | ⟨w, h1, h2, h3, h4⟩
     ·exact lBo.2 (.inl h)
     ·refine lBo.2 (.inr (am.mem_iff.2 (Bc.2 ⟨w, h1, h2, ?_, h3, by omega⟩)))
      have := hs.dn0 w h2 h3; omega
  have r8 : Am0 p fen := by
   have am : fen.Perm (Ba p) := hs.fen
   refine lBb.2 fun i j hi hj fV c8 => ?_
   apply lBc; intro aS
   have bJ : Ib p fen := hx.fin.1
   have hin := fun k (hk : k < fen.length) => bJ.num hk
   have h1 := hin i hi
   have h2 := hin j hj
   obtain ⟨a, ea⟩ : ∃ a : Nat, Ae fen i = a := ⟨(Ae fen i).toNat, by omega⟩
   obtain ⟨b, eb⟩ : ∃ b : Nat, Ae fen j = b := ⟨(Ae fen j).toNat, by omega⟩
   rw [← C0 hi, ← C0 hj, ea, eb] at aS c8
   simp only [thI, lB2] at c8
   have hne : a ≠ b := by
    intro e
    have hnd : fen.Nodup := (am.nodup_iff).2 (Fp (I0 p))
    exact (lBb.1 (lBt.1 hnd)) i j hi hj fV (by rw [← C0 hi, ← C0 hj, ea, eb, e])
   have nw : b < a := by omega
   have g1 := Xr (p := p) (e := ⟨frm, dn, ord, fen⟩) (j - i - 1) i a b (show i + (j - i - 1) + 1 < fen.length by omega) (fun k hk => (hin k hk).1) ea (by rw [show i + (j - i - 1) + 1 = j by omega]; exact eb)
   have g2 := Xq hm (e := ⟨frm, dn, ord, fen⟩) (a - b - 1) b (by omega) (by rw [show b + (a - b - 1) + 1 = a by omega]; exact c8.symm)
   rw [show b + (a - b - 1) + 1 = a by omega] at g2
   exact hc.round ⟨a, g1.trans g2⟩
  have cB : fen ∈ Cn p (Ba p) := (O4 (I0 p)).2 ⟨hs.fen, r8⟩
  refine ⟨dn, hdn, ord, mL, frm, ip, ?_⟩
  unfold Fm
  have hpos : D7 p ⟨frm, dn, ord, []⟩ = true := by
   unfold D7
   rw [lA6, lB8, decide_eq_true_eq]
   refine ⟨O5.2 hw, ?_⟩
   have cQ : XOk p ⟨frm, dn, ord, []⟩ := ⟨hx.fl, hx.dl, hx.ol, hx.fr, hx.oin, fun x h => (nomatch h), lA8 _⟩
   exact (Ij hp hm cQ).2 hc.less
  rw [if_pos hpos]
  exact lCl.2 ⟨lAi.2 ⟨fen, cB, rfl⟩, decide_eq_true ((Ij hp hm hx).2 hc)⟩
def A8 (p : List Ev) (w : Wd) : Nat → List Int
 | 0 => []
 | i + 1 => A8 p w i ++ if (evAt p i).reads then [w.r[i]?.getD 0] else []
def Bm (w : Wd) (l : List Int) : Int := if l.length = 0 then 0 else w.w[(Ae l (l.length - 1)).toNat]?.getD 0
def Ar (p : List Ev) (e : Exec) : List Int := A8 p (Aw p e.frm) p.length ++ e.ord.map (Bm (Aw p e.frm))
theorem Cf (p : List Ev) (w : Wd) : ∀ i, (A8 p w i).length ≤ i
 | 0 => lA5 _
 | i + 1 => by
  have := Cf p w i
  simp only [A8, lA4]
  split <;> simp <;> omega
section
variable {M : Aa}
theorem T7 (p : List Ev) (s : Value) (hs : Sl M 6 Bh s p) (hp : POk p) (e : Exec) (v : Value) (hv : IsX M v e) (hx : XOk p e) :
  Con Tryz.prog 35 #[s, v] M [] (Cv7 (Ar p e)) := by
 have aK := hs
 have hb := hp.len
 obtain ⟨a, c, rfl, aH⟩ := hs
 obtain ⟨f, d, o, n, rfl, hf, hd, ho, hn⟩ := hv
 have d9 := hf
 obtain ⟨oa, oc, ovs, rfl, bC, bW, bo⟩ := ho
 have g8 := hx.ol
 obtain ⟨ob, oo, rfl, bU⟩ := D4.at bW bC bo (by omega)
 refine Con.enter Q29_ok (args := [.slice a p.length c, .agg #[f, d, .slice (some ⟨ob, oo, none⟩) e.ord.length oc, n]]) (by simp [Q29]) fun w0 => ?_
 simp only [Q29, A9]
 repeat' first | refine st ?_ | refine rg ?_ | ((first | with_reducible intro b | refine xrA rfl ?_ | fail); try refine nx ?_) | exact ⟨⟩ | fail
 rename Nat => xb
 refine Con.callS (G1 := []) (Qt p _ aK (by omega) e.frm _ _ _ _ d9 hx.fromOk) ?_
 rintro v M1 G1 bw ⟨rv, wv, kv, rfl, hr, hw, -⟩
 obtain ⟨ra, rc, rfl, dZ⟩ := hr
 obtain ⟨wa, wc, rfl, fJ⟩ := hw
 have e8 : (Aw p e.frm).r.length = p.length := (Fe p e.frm _).r
 have cF : (Aw p e.frm).w.length = p.length := (Fe p e.frm _).w
 have mM : Ar p e = A8 p (Aw p e.frm) p.length ++ e.ord.map (Bm (Aw p e.frm)) := rfl
 generalize Aw p e.frm = W at *
 (refine nx ?_; try with_reducible exact ⟨⟩)
 repeat' first | refine st ?_ | refine rg ?_ | exact ⟨⟩ | fail
 refine JD (ρ' := [(0, .slice a p.length c), (3, pv xb 0), (5, .slice ra W.r.length rc), (6, .slice wa W.w.length wc), (8, osv none 0), (21, .slice a p.length c), (22, vi p.length), (23, vi (0 : Nat))]) (G' := [(xb, Cl 45 [f, d, .slice (some ⟨ob, oo, none⟩) e.ord.length oc, n])]) ?_ ?env0
 case env0 =>
  exact eE
 refine JC (fun x : Nat × Vec => ([(0, .slice a p.length c), (3, pv xb 0), (5, .slice ra W.r.length rc), (6, .slice wa W.w.length wc), (8, osv x.2 (A8 p W x.1).length), (21, .slice a p.length c), (22, vi p.length), (23, vi x.1)], M1, (xb, Cl 45 [f, d, .slice (some ⟨ob, oo, none⟩) e.ord.length oc, n]) :: osg 3 x.2 ((A8 p W x.1).map vi)))
  (fun x => x.1 ≤ p.length ∧ Eo 1 x.2 (A8 p W x.1).length ((A8 p W x.1).map vi)) (fun x => p.length - x.1) (0, none) rfl ⟨lA8 _, rfl, rfl⟩ ?env1 (by simp [osg]) ?_
 case env1 =>
  exact eE
 rintro ⟨i, ov⟩ ⟨hi, aL⟩ ih
 dsimp only at hi aL ih ⊢
 repeat' first | refine st ?_ | refine rg ?_ | (refine cX ?_ ?_ <;> intro h <;> try exact Ai h) | (refine xsA rfl ?_; try refine nx ?_) | exact ⟨⟩ | fail
 ·have aC : i < p.length := by omega
  obtain ⟨pb, po, rfl, hat⟩ := Sl.at (enc := Bh) (fun _ => rfl) (by decide) aH (by omega)
  obtain ⟨rb, ro, rfl, fi⟩ := Sl.at (sz := 1) (enc := ei) (fun _ => rfl) (by decide) dZ (by omega)
  have i8 := (JJ hat i aC).mono bw
  have gZ : rd M1 rb (ro + i) 1 [vi (W.r[i]?.getD 0)] := C2 fi i (by omega)
  have r6 : (i : Int) < W.r.length := by omega
  have kB := Cf p W i
  have bE : A8 p W (i + 1) = A8 p W i ++ if (evAt p i).reads then [W.r[i]?.getD 0] else [] := rfl
  repeat' first | refine st ?_ | refine rg ?_ | (refine As.call (Cc (evAt p i)) ?_; try refine nx ?_) | (refine cX ?_ ?_ <;> intro h <;> try exact Ai h) | (with_reducible intro b; try refine nx ?_) | refine ZF ?_ | ((first | refine xm ?_ | refine xrA rfl ?_ | fail); try refine nx ?_) | (refine xw ?_; refine nx ?_) | exact ⟨⟩ | fail
  ·rw [if_pos (by assumption)] at bE
   refine ⟨[vi (W.r[i]?.getD 0)], Or.inr ⟨b, 0, rfl, Ap 0 rfl rfl (by simp)⟩, by simp [Bp, Cb, Value.oneCell'], Or.inl ⟨ov, _, rfl, _, aL, _, PullL.p, ?_, ?_, ?_⟩⟩
   ·simp only [maxLen]; omega
   ·omega
   intro o2 an _
   (refine nx ?_; try with_reducible exact ⟨⟩)
   repeat' first | refine su ?_ | refine rg ?_ | exact ⟨⟩ | fail
   have ih3 := ih (i + 1, o2) ⟨by dsimp only; omega, by rw [bE, lA4, lAu]; exact an⟩ (by dsimp only; omega)
   dsimp only at ih3
   rw [bE, lA4, lAu, show List.map vi [W.r[i]?.getD 0] = [vi (W.r[i]?.getD 0)] from rfl] at ih3
   refine JD ih3 ?_
   exact eE
  ·rw [if_neg (by simp_all), lAa] at bE
   have ih3 := ih (i + 1, ov) ⟨by dsimp only; omega, by rw [bE]; exact aL⟩ (by dsimp only; omega)
   dsimp only at ih3
   rw [bE] at ih3
   refine JD ih3 ?_
   exact eE
 ·have bO : i = p.length := by omega
  subst bO
  clear ih
  repeat' first | fail
  have pY := Cf p W p.length
  generalize hR : A8 p W p.length = R at *
  refine JC (fun x : Nat × Vec => ([(3, pv xb 0), (6, .slice wa W.w.length wc), (8, osv x.2 (R ++ (e.ord.take x.1).map (Bm W)).length), (39, .slice (some ⟨ob, oo, none⟩) e.ord.length oc), (40, vi e.ord.length), (41, vi x.1)], M1, (xb, Cl 45 [f, d, .slice (some ⟨ob, oo, none⟩) e.ord.length oc, n]) :: osg 3 x.2 ((R ++ (e.ord.take x.1).map (Bm W)).map vi)))
   (fun x => x.1 ≤ e.ord.length ∧ Eo 1 x.2 (R ++ (e.ord.take x.1).map (Bm W)).length ((R ++ (e.ord.take x.1).map (Bm W)).map vi)) (fun x => e.ord.length - x.1) (0, ov) rfl ⟨lA8 _, by simpa using aL⟩ ?env2 (by simp) ?_
  case env2 =>
   simp only [lDc, lFj, lAa]
   exact eE
  rintro ⟨k, o1⟩ ⟨hk, bQ⟩ ih
  dsimp only at hk bQ ih ⊢
  repeat' first | refine st ?_ | refine rg ?_ | (refine cX ?_ ?_ <;> intro h <;> try exact Ai h) | refine ZF ?_ | exact ⟨⟩ | fail
  ·have ak : k < e.ord.length := by omega
   obtain ⟨la, lc, aR, cW, aW⟩ := bU k ak
   have aR := aR.mono bw
   have aW := aW.mono bw
   rw [lAw] at aR
   obtain ⟨hin, kB⟩ := hx.oin _ (lAm ak)
   have lK : R ++ (e.ord.take (k + 1)).map (Bm W) = (R ++ (e.ord.take k).map (Bm W)) ++ [Bm W e.ord[k]] := by
    rw [lA7 ak, lAu, lAc]; rfl
   have ah : (R ++ (e.ord.take k).map (Bm W)).length ≤ 35 := by simp; omega
   have ih3 := fun o2 h => ih (k + 1, o2) ⟨by dsimp only; omega, h⟩ (by dsimp only; omega)
   dsimp only at ih3
   rw [lK, lA4, lAu] at ih3
   have hlo : Bm W e.ord[k] = if e.ord[k].length = 0 then 0 else W.w[(Ae e.ord[k] (e.ord[k].length - 1)).toNat]?.getD 0 := rfl
   generalize R ++ (e.ord.take k).map (Bm W) = Q at *
   generalize e.ord[k] = l at *
   clear ih
   repeat' first | (refine xn ?_; try refine nx ?_) | exact ⟨⟩ | fail
   refine EV.seq ?_
   repeat' first | refine rg ?_ | exact ⟨⟩ | fail
   refine EV.seq (JH (fun ρ' M' G' => M' = M1 ∧ (∀ q ∈ [(3, pv xb 0), (6, .slice wa W.w.length wc), (8, osv o1 Q.length), (13, vi (Bm W l)), (39, .slice (some ⟨ob, oo, none⟩) e.ord.length oc), (40, vi e.ord.length), (41, vi k)], get ρ' q.1 = some q.2) ∧
    G' = (xb, Cl 45 [f, d, .slice (some ⟨ob, oo, none⟩) e.ord.length oc, n]) :: osg 3 o1 (Q.map vi)) ?_ ?_)
   ·intro k' key
    clear ih3
    rw [hlo] at key
    by_cases eg : l.length = 0
    ·rw [if_pos eg] at key
     repeat' first | refine st ?_ | refine rg ?_ | (refine cX ?_ ?_ <;> intro h <;> try exact Ai h) | exact ⟨⟩ | fail
     refine JI (key _ _ _ ⟨rfl, ?_, rfl⟩)
     exact eE
    ·rw [if_neg eg] at key
     obtain ⟨lb, lo, rfl, bG⟩ := Sl.at (sz := 1) (enc := ei) (fun _ => rfl) (by decide) aW (by omega)
     have bV := C2 bG (l.length - 1) (by omega)
     have pZ := Er hin (k := l.length - 1) (by omega)
     have gY : 0 < p.length := by omega
     obtain ⟨wb, wo, rfl, gp⟩ := Sl.at (sz := 1) (enc := ei) (fun _ => rfl) (by decide) fJ (by omega)
     have fI := C2 gp (Ae l (l.length - 1)).toNat (by omega)
     simp only [Ae] at fI
     change rd M1 wb _ 1 [vi (W.w[(Ae l (l.length - 1)).toNat]?.getD 0)] at fI
     have rW : Ae l (l.length - 1) < (W.w.length : Int) := by omega
     have aT : IntKind.i64.wrap ((l.length : Int) - 1) = ((l.length - 1 : Nat) : Int) := (w64 (by omega) (by omega)).trans (by omega)
     have dD : (((l.length - 1 : Nat) : Int)) < (l.length : Int) := by omega
     clear bG gp
     repeat' first | refine st ?_ | (refine EV.reg ?_; (conv => (arg 2; whnf)); (repeat first | refine nx ?_ | simp only [aT])) | (refine cX ?_ ?_ <;> intro h <;> try exact Ai h) | refine ZF ?_ | (refine xm ?_; (repeat first | refine nx ?_ | simp only [aT])) | fail
     refine JI (key _ _ _ ⟨rfl, ?_, rfl⟩)
     exact eE
   rintro ρ2 M2 G2 ⟨rfl, hq, rfl⟩
   refine JA ?_ hq (lA0 _)
   clear hq hlo
   generalize Bm W l = lw at *
   repeat' first | refine rg ?_ | (with_reducible intro b; try refine nx ?_) | exact ⟨⟩ | fail
   refine ⟨[vi lw], Or.inr ⟨b, 0, rfl, Ap 0 rfl rfl (by simp)⟩, by simp [Bp, Cb, Value.oneCell'], Or.inl ⟨o1, _, rfl, _, bQ, _, PullL.p, ?_, ?_, ?_⟩⟩
   ·simp only [maxLen]; omega
   ·omega
   intro o2 an _
   (refine nx ?_; try with_reducible exact ⟨⟩)
   repeat' first | refine su ?_ | refine rg ?_ | exact ⟨⟩ | fail
   have ih4 := ih3 o2 an
   rw [show List.map vi [lw] = [vi lw] from rfl] at ih4
   refine JD ih4 ?_
   exact eE
  ·have dY : k = e.ord.length := by omega
   subst dY
   rw [lB1] at bQ ⊢
   refine JD (ρ' := [(4, osv o1 (R ++ e.ord.map (Bm W)).length)]) (G' := osg 3 o1 ((R ++ e.ord.map (Bm W)).map vi)) ?_ ?env3
   case env3 =>
    exact eE
   (refine rt Q29_ok ?_; try with_reducible exact ⟨⟩)
   rw [mM]
   exact ⟨o1, rfl, bQ, rfl⟩
end
theorem Ln {M : Aa} {G : Own} {T : TypeId} {ov : Vec} {xs : List Int} (ae : Eo 1 ov xs.length (xs.map vi)) (hG : ∀ q ∈ osg T ov (xs.map vi), q ∈ G) : Sl (M.add G) 1 ei (osv ov xs.length) xs :=
 ⟨oad ov, Qj ov, rfl, by rw [Ax]; exact Ew ae hG⟩
theorem Ae9 {M : Aa} {G : Own} {T : TypeId} {ov : Vec} {xs : List Bool} (ae : Eo 1 ov xs.length (xs.map vb)) (hG : ∀ q ∈ osg T ov (xs.map vb), q ∈ G) : Sl (M.add G) 1 eb (osv ov xs.length) xs :=
 ⟨oad ov, Qj ov, rfl, by rw [Eh]; exact Ew ae hG⟩
section
variable {M : Aa}
theorem Af0 (e : Exec) (v : Value) (hv : IsX M v e) (h1 : e.frm.length < 1000) (h2 : e.dn.length < 1000) (h3 : e.ord.length < 1000) (h4 : e.fen.length < 1000) (h5 : ∀ l ∈ e.ord, l.length < 1000) :
  Con Tryz.prog 84 #[v] M [] fun v M' _ => IsX M' v e := by
 obtain ⟨f, d, o, n, rfl, hf, hd, ho, hn⟩ := hv
 have d9 := hf
 have nj := hd
 have fT := hn
 obtain ⟨fa, fc, rfl, cK⟩ := hf
 obtain ⟨da, dc, rfl, aH⟩ := hd
 obtain ⟨na, nc, rfl, ll⟩ := hn
 obtain ⟨oa, oc, ovs, rfl, bC, bW, bo⟩ := ho
 refine Con.enter Q1_ok (args := [.agg #[.slice fa e.frm.length fc, .slice da e.dn.length dc, .slice oa e.ord.length oc, .slice na e.fen.length nc]]) (by simp [Q1]) fun w0 => ?_
 simp only [Q1, A9]
 refine EV.seq (EV.reg ?_)
 (repeat first | refine nx ?_ | simp only [Fe5])
 intro xb rb
 refine EV.seq (JH (fun ρ' M' G' => ∃ cb fv dv nv, M.le M' ∧ Sl M' 1 ei fv e.frm ∧ Sl M' 1 eb dv e.dn ∧ Sl M' 1 ei nv e.fen ∧ get ρ' 1 = some (pv xb 0) ∧ get ρ' 2 = some (pv rb 0) ∧ get ρ' 3 = some (pv cb 0) ∧
  G' = [(cb, Cl 45 [fv, dv, .slice none 0 0, nv]), (rb, Cl 45 [.slice none 0 0, .slice none 0 0, .slice none 0 0, .slice none 0 0]), (xb, Cl 45 [.slice fa e.frm.length fc, .slice da e.dn.length dc, .slice oa e.ord.length oc, .slice na e.fen.length nc])]) ?_ ?_)
 ·intro k' key
  have mN := fun G => Gt (M := M.add G) e.frm _ (d9.mono (JB _ _)) (by omega)
  have fK := fun G => V5 (M := M.add G) e.dn _ (nj.mono (JB _ _)) (by omega)
  have iB := fun G => Gt (M := M.add G) e.fen _ (fT.mono (JB _ _)) (by omega)
  refine EV.any (t := Fe6) [(xb, Cl 45 [.slice fa e.frm.length fc, .slice da e.dn.length dc, .slice oa e.ord.length oc, .slice na e.fen.length nc])] (by simp) ?_
  simp only [An, Aq, Al, Au, reduceIte, Nat.reduceEqDiff]
  repeat' first | ((first | refine zo (fun lq aD => ?_) | refine zl ?_ | fail); try refine nz ?_) | refine zq (fun lq tq aD aA => ?_) | ((with_reducible refine JK (mN _) ?_) ;  rintro v1 M1 G1 ⟨o1, rfl, bQ, rfl⟩; try refine nz ?_) | ((with_reducible refine JK (fK _) ?_) ;  rintro v2 M2 G2 ⟨o2, rfl, an, rfl⟩; try refine nz ?_) | ((with_reducible refine JK (iB _) ?_) ;  rintro v3 M3 G3 ⟨o3, rfl, tW, rfl⟩; try refine nz ?_) | (refine ZA (fun tq aA => ?_) (fun tq aA => ?_) <;> try refine nz ?_) | (refine ZB (fun tq aA => ?_) (fun tq aA => ?_) <;> try refine nz ?_) | exact zn | refine zf ?_ | ((first | with_reducible intro b | refine xsA rfl ?_ | refine xw ?_ | refine lAd (Aa.le_refl _) (lAd (Ay ?_) ?_); focus ((repeat' first | exact lA0 _ | exact lAh _ | exact lAj _ _ | refine lAf _ ?_ | refine lAo ?_ _ | refine lAb ?_ | refine lAp _ ?_); done) | fail); try refine nz ?_) | exact ⟨⟩ | fail
  all_goals
   refine JG [(b, Cl 45 [osv o1 e.frm.length, osv o2 e.dn.length, .slice none 0 0, osv o3 e.fen.length]), (rb, Cl 45 [.slice none 0 0, .slice none 0 0, .slice none 0 0, .slice none 0 0]), (xb, Cl 45 [.slice fa e.frm.length fc, .slice da e.dn.length dc, .slice oa e.ord.length oc, .slice na e.fen.length nc])] ?_
   generalize hR : M.add _ = N
   have aB : M.le N := hR ▸ JB _ _
   have q1 : Sl N 1 ei (osv o1 e.frm.length) e.frm := hR ▸ Ln (T := 3) bQ (fun q hq => by simp [hq])
   have q2 : Sl N 1 eb (osv o2 e.dn.length) e.dn := hR ▸ Ae9 (T := 4) an (fun q hq => by simp [hq])
   have q3 : Sl N 1 ei (osv o3 e.fen.length) e.fen := hR ▸ Ln (T := 3) tW (fun q hq => by simp [hq])
   exact key _ _ _ ⟨b, _, _, _, aB, q1, q2, q3, rfl, rfl, rfl, rfl⟩
 rintro ρ2 M2 G2 ⟨cb, fv, dv, nv, bZ, q1, q2, q3, e1, e2, e3, rfl⟩
 obtain ⟨f2, fc2, rfl, fp⟩ := q1
 obtain ⟨d2, dc2, rfl, eX⟩ := q2
 obtain ⟨n2, nc2, rfl, pG⟩ := q3
 refine JA (ρ' := [(1, pv xb 0), (2, pv rb 0), (3, pv cb 0)]) ?_ (by simp only [lBp]; exact ⟨e1, e2, e3, fun _ h => nomatch h⟩) (lA0 _)
 clear e1 e2 e3
 repeat' first | refine st ?_ | refine rg ?_ | (refine xsA rfl ?_; try refine nx ?_) | exact ⟨⟩ | fail
 refine JC (fun x : Nat × Aa × Vec × List Value => ([(1, pv xb 0), (2, pv rb 0), (3, pv cb 0), (17, .slice oa e.ord.length oc), (18, vi e.ord.length), (19, vi x.1)], x.2.1,
   (cb, Cl 45 [.slice f2 e.frm.length fc2, .slice d2 e.dn.length dc2, osv x.2.2.1 x.1, .slice n2 e.fen.length nc2]) :: (rb, Cl 45 [.slice none 0 0, .slice none 0 0, .slice none 0 0, .slice none 0 0]) :: osg 34 x.2.2.1 x.2.2.2))
  (fun x => x.1 ≤ e.ord.length ∧ M2.le x.2.1 ∧ Eo 1 x.2.2.1 x.1 x.2.2.2 ∧ x.2.2.2.length = x.1 ∧ ∀ j (h : j < x.2.2.2.length) (h' : j < e.ord.length), SlC x.2.1 1 ei x.2.2.2[j] e.ord[j]) (fun x => e.ord.length - x.1) (0, M2, none, []) rfl ⟨lA8 _, Aa.le_refl _, ⟨rfl, rfl⟩, rfl, fun j h => absurd h (lBy _)⟩ ?env1 (lAf _ (lAf _ (lAh _))) ?_
 case env1 =>
  exact eE
 rintro ⟨k, Mk, ov, vs⟩ ⟨hk, iN, aL, dw, cH⟩ ih
 dsimp only at hk iN aL dw cH ih ⊢
 repeat' first | refine st ?_ | refine rg ?_ | (refine cX ?_ ?_ <;> intro h <;> try exact Ai h) | (refine xrA rfl ?_; try refine nx ?_) | (refine xw ?_; refine nx ?_) | exact ⟨⟩ | fail
 ·have ak : k < e.ord.length := by omega
  obtain ⟨ob, oo, rfl, bU⟩ := D4.at bW bC bo (by omega)
  obtain ⟨la, lc, aR, cW, aW⟩ := bU k ak
  have aR := aR.mono (Aa.le_trans bZ iN)
  have aW := aW.mono (Aa.le_trans bZ iN)
  rw [lAw] at aR
  have ny := h5 _ (lAm ak)
  repeat' first | refine ZF ?_ | (refine xn ?_; try refine nx ?_) | exact ⟨⟩ | fail
  have aO := fun G => Gt (M := Mk.add G) e.ord[k] (.slice la e.ord[k].length lc) (⟨la, lc, rfl, aW.mono (JB _ _)⟩) (by omega)
  refine EV.any (t := Fe7) [(cb, Cl 45 [.slice f2 e.frm.length fc2, .slice d2 e.dn.length dc2, osv ov k, .slice n2 e.fen.length nc2])] (by simp) ?_
  simp only [An, Aq, Al, Au, reduceIte, Nat.reduceEqDiff]
  repeat' first | ((first | refine zo (fun lq aD => ?_) | refine zl ?_ | fail); try refine nz ?_) | refine zq (fun lq tq aD aA => ?_) | ((with_reducible refine JK (aO _) ?_) ;  rintro v1 M1 G1 ⟨o1, rfl, bQ, rfl⟩; try refine nz ?_) | (refine ZA (fun tq aA => ?_) (fun tq aA => ?_) <;> try refine nz ?_) | (refine ZB (fun tq aA => ?_) (fun tq aA => ?_) <;> try refine nz ?_) | exact zn | ((first | with_reducible intro b | refine xsA rfl ?_ | refine lAd (Aa.le_refl _) (lAd (Ay ?_) ?_); focus ((repeat' first | exact lA0 _ | exact lAh _ | exact lAj _ _ | refine lAf _ ?_ | refine lAo ?_ _ | refine lAb ?_ | refine lAp _ ?_); done) | fail); try refine nz ?_) | exact ⟨⟩ | fail
  refine ⟨[osv o1 e.ord[k].length], Or.inr ⟨_, 0, rfl, B3 (T := 34) (cs := [osv o1 e.ord[k].length]) (by simp) rfl (by simp)⟩, by simp [Bp, Cb, Value.oneCell'], Or.inl ⟨ov, _, rfl, _, aL, _, PullL.p, by simp only [maxLen]; omega, by omega, fun o2 an _ => ?_⟩⟩
  repeat' first | ((first | refine zo (fun lq aD => ?_) | refine zl ?_ | fail); try refine nz ?_) | refine zq (fun lq tq aD aA => ?_) | (refine ZB (fun tq aA => ?_) (fun tq aA => ?_) <;> try refine nz ?_) | exact zn | refine zf ?_ | (refine xw ?_; try refine nz ?_) | exact ⟨⟩ | fail
  refine JG ((cb, Cl 45 [.slice f2 e.frm.length fc2, .slice d2 e.dn.length dc2, osv o2 (k + 1), .slice n2 e.fen.length nc2]) :: (rb, Cl 45 [.slice none 0 0, .slice none 0 0, .slice none 0 0, .slice none 0 0]) :: osg 34 o2 (vs ++ [osv o1 e.ord[k].length])) ?_
  generalize hR : Mk.add _ = N
  have aB : Mk.le N := hR ▸ JB _ _
  have cI : SlC N 1 ei (osv o1 e.ord[k].length) e.ord[k] := hR ▸ Gf (T := 3) bQ rfl (fun q hq => by simp [hq])
  clear hR
  have ih3 := ih (k + 1, N, o2, vs ++ [osv o1 e.ord[k].length]) ⟨by dsimp only; omega, Aa.le_trans iN aB, an, by simp [dw], fun j hj iE => ?_⟩ (by dsimp only; omega)
  ·dsimp only at ih3
   repeat' first | refine su ?_ | refine rg ?_ | exact ⟨⟩ | fail
   refine JD ih3 ?_
   exact eE
  ·dsimp only at hj ⊢
   by_cases mO : j < vs.length
   ·rw [lCq mO]; exact (cH j mO iE).mono aB
   ·have : j = k := by simp at hj; omega
    subst this
    rw [lCm (by omega)]
    simp only [dw, lF5, lAt]; exact cI
 ·have dY : k = e.ord.length := by omega
  subst dY
  repeat' first | fail
  refine JG [(rb, Cl 45 [.slice f2 e.frm.length fc2, .slice d2 e.dn.length dc2, osv ov e.ord.length, .slice n2 e.fen.length nc2])] ?_
  generalize hR : Mk.add _ = N
  have aB : Mk.le N := hR ▸ JB _ _
  have bW : rdS N 1 (oad ov) e.ord.length vs := hR ▸ Ew (T := 34) aL (fun q hq => by simp [hq])
  clear hR
  have a8 := Aa.le_trans iN aB
  (refine rt Q1_ok ?_; try with_reducible exact ⟨⟩)
  refine ⟨_, Ap 0 rfl rfl (by simp), ?_⟩
  exact ⟨_, _, _, _, rfl, ⟨_, _, rfl, fp.mono a8⟩, ⟨_, _, rfl, eX.mono a8⟩, ⟨_, _, vs, rfl, dw, bW, fun j a b => (cH j a b).mono aB⟩, ⟨_, _, rfl, pG.mono a8⟩⟩
end
section
variable {P : Program}
def Wb {α : Type} (P : Program) (g : FuncId) (first caps : Array Value) (M : Aa) (L : List α) (El : α → Value → Aa → Prop) : Prop :=
 ∀ (l : Nat) (I : List α → Aa → Own → Prop) (S : Aa → Own → Prop) (M1 : Aa) (G : Own), M.le M1 →
  (∀ xs M2 M3 G2, M2.le M3 → I xs M2 G2 → I xs M3 G2) →
  (∀ M2 M3 G2, M2.le M3 → S M2 G2 → S M3 G2) →
  (∀ xs x, x ∈ L → ∀ M2 G2 v, M1.le M2 → I xs M2 G2 → El x v M2 → N7 P l #[v] M2 G2 fun b M3 G3 => (b = .bool true ∧ I (xs ++ [x]) M3 G3) ∨ (b = .bool false ∧ S M3 G3)) →
  ∀ xs, I xs M1 G → Con P g (first ++ #[yv l] ++ caps) M1 G fun _ M' G' => I (xs ++ L) M' G' ∨ S M' G'
theorem Wb.mono {α : Type} {g : FuncId} {first caps : Array Value} {M M' : Aa} {L : List α} {El : α → Value → Aa → Prop} (h : Wb P g first caps M L El) (hM : M.le M') : Wb P g first caps M' L El :=
 fun l I S M1 G a8 => h l I S M1 G (Aa.le_trans hM a8)
variable {α : Type} {C : Cx P} {V : List Nat} {k : List RItem} {ρ : Env} {M : Aa} {G : Own} {f : A} {ps : List Nat} {asg bd : RCode} {fv : Value} {g : FuncId} {first caps : Array Value}
theorem T8 {L : List α} {El : α → Value → Aa → Prop} (cy : Wb P g first caps M L El) (I : List α → Aa → Own → Prop) (S : Code → Aa → Own → Prop)
  {l : Nat} {r : Loop} {fn : FuncId} {nt t : Nat} (hr : LoopIs P V r fn nt [t] asg bd ρ)
  (aE : ∀ xs M2 M3 G2, M2.le M3 → I xs M2 G2 → I xs M3 G2)
  (mP : ∀ c M2 M3 G2, M2.le M3 → S c M2 G2 → S c M3 G2)
  (bv : ∀ xs x v M2 G2 w0 F, x ∈ L → M.le M2 → I xs M2 G2 → El x v M2 → EV (JN P l r fn nt w0 F M2 (I (xs ++ [x])) S) V [.code asg, .begins, .code bd] ((t, v) :: ρ) M2 ((l, Obj.loop r) :: G2))
  {G0 : Own} (hI : I [] M G0) :
  Con P g (first ++ #[yv l] ++ caps) M ((l, Obj.loop r) :: G0) fun _ M' G' => (∃ G1, G'.Perm ((l, Obj.loop r) :: G1) ∧ I L M' G1) ∨ (∃ c G1, G'.Perm ((l, Obj.loop { r with state := .done, pending := some c }) :: G1) ∧ S c M' G1) := by
 have := cy l (fun xs M2 G2 => ∃ G1, G2.Perm ((l, Obj.loop r) :: G1) ∧ I xs M2 G1) (fun M2 G2 => ∃ c G1, G2.Perm ((l, Obj.loop { r with state := .done, pending := some c }) :: G1) ∧ S c M2 G1) M ((l, Obj.loop r) :: G0) (Aa.le_refl _)
  (fun xs M2 M3 G2 a8 ⟨G1, h1, h2⟩ => ⟨G1, h1, aE _ _ _ _ a8 h2⟩) (fun M2 M3 G2 a8 ⟨c, G1, h1, h2⟩ => ⟨c, G1, h1, mP _ _ _ _ a8 h2⟩) ?_ [] ⟨G0, lAe _, hI⟩
 ·exact this
 ·rintro xs x hx M2 G2 v bZ ⟨G1, hp, h2⟩ hv
  have hy : N7 P l [v].toArray M2 ((l, Obj.loop r) :: G1) (Ad4 l r (I (xs ++ [x])) S) :=
   N7.enter (lAz ..) hr rfl fun w0 => bv xs x v M2 G1 w0 _ hx bZ h2 hv
  intro w hs
  obtain ⟨r', e1, e2, e3⟩ := hy w (by
   have aZ := hs.perm hp
   have : St w ((((l, Obj.loop r) :: G1)).map (·.1)) M2 M2 ((l, Obj.loop r) :: G1) w := St.enter aZ.agree aZ.own aZ.sep aZ.nodup
   exact this)
  refine ⟨r', e1, e2, e3.mono ?_⟩
  rintro b w' ⟨M', G', k1, k2⟩
  refine ⟨M', G', ?_, ?_⟩
  ·have aI : ∀ b, b ∈ (((l, Obj.loop r) :: G1).map (·.1)) ↔ b ∈ G2.map (·.1) := fun b => ((hp.map (·.1)).mem_iff).symm
   exact ⟨k1.os, k1.tape, k1.output, k1.size, fun b hb hf => k1.frame b hb (fun h => hf ((aI b).1 h)), k1.agree, k1.own, k1.sep, fun p o6 => (k1.new p o6).imp (aI _).1 id, k1.nodup, k1.base,
    fun b o hm => (k1.fresh b o hm).imp id fun h => h.imp (aI _).1 id⟩
  ·rcases k2 with ⟨rfl, G3, h3, h4⟩ | ⟨rfl, c, G3, h3, h4⟩
   ·exact .inl ⟨rfl, G3, h3, h4⟩
   ·exact .inr ⟨rfl, c, G3, h3, h4⟩
theorem EV.overM {L : List α} {El : α → Value → Aa → Prop} (bW : C.b.roundOf = none) (hfv : ev ρ f = some fv) (cC : fn? fv = some (g, first, caps)) (cy : Wb P g first caps M L El)
  (I : Nat → List α → Aa → Own → Prop) (S : Nat → Code → Aa → Own → Prop) {t : Nat}
  (aE : ∀ d xs M2 M3 G2, M2.le M3 → I d xs M2 G2 → I d xs M3 G2)
  (mP : ∀ d c M2 M3 G2, M2.le M3 → S d c M2 G2 → S d c M3 G2)
  (hI : ∀ d, I d [] M ((d, Obj.deferred (some [])) :: G))
  (bv : ∀ l d (r : Loop), r.state = .ready → r.pending = none → ∀ xs x v M2 G2 w0 F, x ∈ L → M.le M2 → I d xs M2 G2 → El x v M2 →
   EV (JN P l r C.b.fn C.nt w0 F M2 (I d (xs ++ [x])) (S d)) V [.code asg, .begins, .code bd] ((t, v) :: ρ) M2 ((l, Obj.loop r) :: G2))
  (ck : ∀ d M' G', M.le M' → I d L M' G' → EV (C.marks [d]) V k ρ M' G')
  (dg : ∀ d c M' G', M.le M' → S d c M' G' → Ad5 (C.marks [d]) V k ρ c M' G') :
  EV C V (.code (.rangeF f [t] asg bd) :: k) ρ M G := by
 refine EV.rangeF bW hfv cC fun l d r hr h1 h2 => ?_
 refine Con.callA (G2 := []) (T8 cy (I d) (S d) hr (aE d) (mP d) (fun xs x v M2 G2 w0 F => bv l d r h1 h2 xs x v M2 G2 w0 F) (hI d)) (by simp) ?_
 rintro v M' G' ax (⟨G1, hp, h3⟩ | ⟨c, G1, hp, h3⟩)
 ·refine ⟨r, G1, by simpa using hp, by rw [h1]; simp, ?_⟩
  rw [h2]; exact ck d M' G1 ax h3
 ·refine ⟨_, G1, by simpa using hp, by simp, ?_⟩
  have := dg d c M' G1 ax h3
  cases c <;> first | exact this | exact this.elim
end
def ElX (x : Exec) (v : Value) (M : Aa) : Prop := IsX M v x
section
variable {M : Aa}
theorem Sp (p : List Ev) {pb po pc b1 : Nat} (h1 : rd M b1 0 1 [.slice (some ⟨pb, po, none⟩) p.length pc]) (i : Nat) (hi : i < p.length) (hp : rd M pb (po + i * 6) 6 (Bh (evAt p i))) :
  As Tryz.prog 75 #[vi i, pv b1 0] M (vb (evAt p i).strong) := by
 have aC : (i : Int) < p.length := by omega
 refine Con.enter Q18_ok (args := [vi i, pv b1 0]) (by simp [Q18]) fun w0 => ?_
 simp only [Q18, A9]
 repeat' first | refine st ?_ | refine rg ?_ | (refine As.call (V1 (evAt p i)) ?_; try refine nx ?_) | refine ZF ?_ | ((first | refine xm ?_ | refine xn ?_ | fail); try refine nx ?_) | exact ⟨⟩ | fail
 (refine rt Q18_ok ?_; try with_reducible exact ⟨⟩)
theorem Am1 {p : List Ev} {e : Exec} (hp : POk p) (hx : XOk p e) : e.frm.length < 1000 ∧ e.dn.length < 1000 ∧ e.ord.length < 1000 ∧ e.fen.length < 1000 ∧ ∀ l ∈ e.ord, l.length < 1000 := by
 have := hp.len
 refine ⟨by rw [hx.fl]; omega, by rw [hx.dl]; omega, by rw [hx.ol]; omega, by have := hx.fin.2; omega, fun l hl => by have := (hx.oin l hl).2; omega⟩
theorem Wc (p : List Ev) (hp : POk p) {ps ss : Value} {pb sb : Nat} (hps : Sl M 6 Bh ps p) (rn : SlC M 1 ei ss (Ba p)) (h1 : rd M pb 0 1 [ps]) (h2 : rd M sb 0 1 [ss]) :
  Wb Tryz.prog 77 #[] #[pv pb 0, pv sb 0] M (Ca p) ElX := by
 have af := hp.len
 intro ly I S M1 G hM aE mP hy xs hI
 have dF := h1.mono hM
 have gf := h2.mono hM
 have du := hps.mono hM
 have mQ := rn.mono hM
 obtain ⟨ea, ec, rfl, aw⟩ := hps
 obtain ⟨sa, sc, rfl, rN, lF⟩ := rn
 refine Con.enter Q19_ok (args := [yv ly, pv pb 0, pv sb 0]) (by simp [Q19]) fun w0 => ?_
 simp only [Q19, A9]
 refine EV.seq (EV.reg ?_)
 (repeat first | refine nx ?_ | simp only [Bv0])
 intro yb
 refine EV.frz [(yb, Cl 124 [yv ly])] ?_
 generalize hR : M1.add _ = N
 have aB : M1.le N := hR ▸ JB _ _
 have mC : rd N yb 0 1 [yv ly] := hR ▸ Ap 0 rfl rfl (by simp)
 clear hR
 have kL := dF.mono aB
 have mD := gf.mono aB
 have mR := du.mono aB
 have p5 := mQ.mono aB
 have ge := aE _ _ _ _ aB hI
 repeat' first | refine st ?_ | refine rg ?_ | (refine xn ?_; try refine nx ?_) | exact ⟨⟩ | fail
 refine Con.callS (G1 := []) (Yx p af mR) ?_
 rintro v M2 G2 bZ ⟨g2, caps2, rfl, gq⟩
 repeat' first | refine su ?_ | fail
 refine JD (ρ' := [(0, yv ly), (1, pv pb 0), (2, pv sb 0), (3, pv yb 0), (9, .func (.func g2) #[] caps2)]) (G' := G) ?_ ?env1
 case env1 =>
  exact eE
 have nq : Ca p = (Gu p).flatMap (Jh p) := rfl
 refine EV.over rfl rfl rfl gq (fun d ls M G' => ∃ G0, G'.Perm ((d, Obj.deferred (some [])) :: G0) ∧ I (xs ++ ls.flatMap (Jh p)) M G0)
  (fun d c M G' => c = .ret ∧ ∃ G0, G'.Perm ((d, Obj.deferred (some [])) :: G0) ∧ S M G0) ?_ ?_ ?_ ?_ ?_
 ·rintro d ls M4 M5 G4 a8 ⟨G0, hp, gl⟩
  exact ⟨G0, hp, aE _ _ _ _ a8 gl⟩
 ·intro d
  exact ⟨G, lAe _, by simpa using aE _ _ _ _ bZ ge⟩
 ·intro l1 d r1 aR p6 ls dn v M4 G4 w1 F1 hdn cO ⟨G0, dI, kO⟩ d4
  refine JF ?_ (lCh _ dI)
  have bF : dn.length = p.length := by
   obtain ⟨set, _, rfl⟩ := lAi.1 hdn; exact Ff p set
  have gm := d4.sl
  obtain ⟨da, dc, rfl, uo, iL⟩ := d4
  refine EV.reg (sts := Av6) ?_
  (repeat first | refine nx ?_ | simp only [Av6])
  intro db
  repeat' first | (refine xw ?_; refine nx ?_) | exact ⟨⟩ | fail
  refine EV.frz [(db, Cl 35 [.slice da dn.length dc])] ?_
  generalize hR : M4.add _ = N4
  have cY : M4.le N4 := hR ▸ JB _ _
  have p7 : rd N4 db 0 1 [.slice da dn.length dc] := hR ▸ Ap 0 rfl rfl (by simp)
  clear hR
  refine JP aR ?_
  have fM := Aa.le_trans bZ (Aa.le_trans cO cY)
  have pP := kL.mono fM
  have pQ := mD.mono fM
  have nr := mC.mono fM
  have mS := mR.mono fM
  have p8 := p5.mono fM
  have pR := aE _ _ _ _ cY kO
  have mT := gm.mono cY
  have tX := Aa.le_trans aB fM
  clear kL mD mC dF gf du mQ
  repeat' first | refine st ?_ | refine rg ?_ | (refine xn ?_; try refine nx ?_) | exact ⟨⟩ | fail
  refine Con.callS (G1 := []) (V9 p dn af bF 3 0 rfl (Int.le_refl _) N4 _ _ mS mT) ?_
  rintro v5 M5 G5 gG ⟨g5, caps5, rfl, kP⟩
  repeat' first | refine su ?_ | fail
  refine JD (ρ' := [(0, yv ly), (1, pv pb 0), (2, pv sb 0), (3, pv yb 0), (4, pv db 0), (13, .func (.func g5) #[] caps5)]) (G' := (l1, Obj.loop { r1 with state := .busy }) :: (d, Obj.deferred (some [])) :: G0) ?_ ?env2
  case env2 =>
   exact eE
  generalize cp : xs ++ ls.flatMap (Jh p) = ys at *
  have uq : Jh p dn = (Bs p dn 3 0).flatMap (L7 p dn) := rfl
  refine JW (l0 := l1) (r0 := { r1 with state := .busy }) rfl (by simp) rfl rfl kP (fun zs M G' => ∃ G1, G'.Perm ((l1, Obj.loop { r1 with state := .busy }) :: (d, Obj.deferred (some [])) :: G1) ∧ I (ys ++ zs.flatMap (L7 p dn)) M G1)
   (fun c M G' => c = .ret ∧ ∃ G1, G'.Perm ((l1, Obj.loop { r1 with state := .busy }) :: (d, Obj.deferred (some [])) :: G1) ∧ S M G1) ?_ ?_ ?_ ?_ ?_
  ·rintro zs M6 M7 G6 a8 ⟨G1, hp, gl⟩
   exact ⟨G1, hp, aE _ _ _ _ a8 gl⟩
  ·exact ⟨G0, lAe _, by simpa using aE _ _ _ _ gG pR⟩
  ·intro l2 r2 aW kT zs ord v M6 G6 w2 F2 bL fN ⟨G1, gn, kQ⟩ mU
   refine JF ?_ (lCh _ gn)
   obtain ⟨fj, mJ⟩ := ordersP_ok hp bF bL
   have mV := mU
   obtain ⟨oa, oc, ovs, rfl, bC, aj, iK⟩ := mU
   refine EV.reg (sts := Av7) ?_
   (repeat first | refine nx ?_ | simp only [Av7])
   intro ob
   repeat' first | (refine xw ?_; refine nx ?_) | exact ⟨⟩ | fail
   refine EV.frz [(ob, Cl 26 [.slice oa ord.length oc])] ?_
   generalize hR : M6.add _ = N6
   have kU : M6.le N6 := hR ▸ JB _ _
   have j8 : rd N6 ob 0 1 [.slice oa ord.length oc] := hR ▸ Ap 0 rfl rfl (by simp)
   clear hR
   refine JP aW ?_
   have j9 := Aa.le_trans gG (Aa.le_trans fN kU)
   have rp := pP.mono j9
   have rq := pQ.mono j9
   have ru := nr.mono j9
   have mW := mS.mono j9
   have p9 := p8.mono j9
   have tY := aE _ _ _ _ kU kQ
   have mX := mT.mono j9
   have pd := p7.mono j9
   have mY : D4 N6 1 ei (.slice oa ord.length oc) ord := D4.mono kU mV
   have iD := Aa.le_trans tX j9
   clear pP pQ nr
   repeat' first | refine st ?_ | refine rg ?_ | (refine xn ?_; try refine nx ?_) | exact ⟨⟩ | fail
   refine Con.callS (G1 := []) (Yz hp bF fj mW mX mY) ?_
   rintro v7 M7 G7 rx ⟨g7, caps7, rfl, pe⟩
   repeat' first | refine su ?_ | fail
   refine JD (ρ' := [(0, yv ly), (1, pv pb 0), (2, pv sb 0), (3, pv yb 0), (4, pv db 0), (5, pv ob 0), (18, .func (.func g7) #[] caps7)]) (G' := (l2, Obj.loop { r2 with state := .busy }) :: (l1, Obj.loop { r1 with state := .busy }) :: (d, Obj.deferred (some [])) :: G1) ?_ ?env3
   case env3 =>
    exact eE
   generalize kV : ys ++ zs.flatMap (L7 p dn) = us at *
   refine JW (l0 := l2) (r0 := { r2 with state := .busy }) rfl (by simp) rfl rfl pe (fun qs M G' => ∃ G2, G'.Perm ((l2, Obj.loop { r2 with state := .busy }) :: (l1, Obj.loop { r1 with state := .busy }) :: (d, Obj.deferred (some [])) :: G2) ∧ I (us ++ qs.flatMap (Fm p dn ord)) M G2)
    (fun c M G' => c = .ret ∧ ∃ G2, G'.Perm ((l2, Obj.loop { r2 with state := .busy }) :: (l1, Obj.loop { r1 with state := .busy }) :: (d, Obj.deferred (some [])) :: G2) ∧ S M G2) ?_ ?_ ?_ ?_ ?_
   ·rintro qs M8 M9 G8 a8 ⟨G2, hp, gl⟩
    exact ⟨G2, hp, aE _ _ _ _ a8 gl⟩
   ·exact ⟨G1, lAe _, by simpa using aE _ _ _ _ rx tY⟩
   ·intro l3 r3 cw mZ qs frm v M8 G8 w3 F3 ip nu ⟨G2, m4, lM⟩ m5
    refine JF ?_ (lCh _ m4)
    have m6 := m5.sl
    obtain ⟨fa, fc, rfl, iq, bN⟩ := m5
    have cQ : ∀ fen : List Int, Ib p fen ∧ fen.length ≤ p.length → XOk p ⟨frm, dn, ord, fen⟩ := fun fen hn => exec_ok hp hdn bL ip hn
    have ba : XOk p ⟨frm, dn, ord, []⟩ := cQ [] ⟨fun x h => (nomatch h), lA8 _⟩
    refine EV.reg (sts := Av8) ?_
    (repeat first | refine nx ?_ | simp only [Av8])
    refine JP cw ?_
    have iO := Aa.le_trans rx nu
    have tZ := rp.mono iO
    have ur := rq.mono iO
    have jp := ru.mono iO
    have kW := mW.mono iO
    have pf := p9.mono iO
    have t1 := pd.mono iO
    have t2 := j8.mono iO
    have pg := mX.mono iO
    have ph : D4 M8 1 ei (.slice oa ord.length oc) ord := D4.mono iO mY
    have t6 := Aa.le_trans iD iO
    clear rp rq ru
    have ry : ∀ M', M8.le M' → ∀ (n : Value) (fen : List Int), Sl M' 1 ei n fen → IsX M' (.agg #[.slice fa frm.length fc, .slice da dn.length dc, .slice oa ord.length oc, n]) ⟨frm, dn, ord, fen⟩ :=
     fun M' ax n fen hn => ⟨_, _, _, _, rfl, m6.mono ax, pg.mono ax, D4.mono ax ph, hn⟩
    have cM := fun G => Sf (M := M8.add G) p _ (kW.mono (JB _ _)) hp ⟨frm, dn, ord, []⟩ _ (ry _ (JB _ _) (.slice none 0 0) [] ⟨none, 0, rfl, .inl ⟨rfl, rfl⟩⟩) ba
    repeat' first | refine st ?_ | refine rg ?_ | (refine As.call (cM _) ?_; try refine nx ?_) | (refine cX ?_ ?_ <;> intro h <;> try exact Ai h) | ((first | with_reducible intro b | refine xn ?_ | refine xrA rfl ?_ | fail); try refine nx ?_) | (refine xw ?_; refine nx ?_) | exact ⟨⟩ | fail
    ·have hF : Fm p dn ord frm = [] := by rw [Fm, if_neg (by simp [h])]
     refine JG ((l3, Obj.loop { r3 with state := .busy }) :: (l2, Obj.loop { r2 with state := .busy }) :: (l1, Obj.loop { r1 with state := .busy }) :: (d, Obj.deferred (some [])) :: G2) ?_
     refine JL cw mZ (lAe _) ⟨G2, lAe _, ?_⟩
     rw [lAy, lC8, hF, lAa]
     exact aE _ _ _ _ (JB _ _) lM
    ·have hF : Fm p dn ord frm = ((Cn p (Ba p)).map fun f => (⟨frm, dn, ord, f⟩ : Exec)).filter fun e => decide (Dg p e = 0) := by rw [Fm, if_pos h]
     have bA : (Ba p).length ≤ p.length := Bj _ _
     refine Con.callS (G1 := []) (Om p (by omega) kW pf (Oo p) (by omega)) ?_
     rintro v9 M9 G9 rz ⟨g9, caps9, rfl, pi⟩
     repeat' first | refine su ?_ | fail
     refine JD (ρ' := [(0, yv ly), (1, pv pb 0), (2, pv sb 0), (3, pv yb 0), (4, pv db 0), (5, pv ob 0), (7, pv b 0), (30, .func (.func g9) #[] caps9)]) (G' := (b, Cl 45 [.slice fa frm.length fc, .slice da dn.length dc, .slice oa ord.length oc, .slice none 0 0]) :: (l3, Obj.loop { r3 with state := .busy }) :: (l2, Obj.loop { r2 with state := .busy }) :: (l1, Obj.loop { r1 with state := .busy }) :: (d, Obj.deferred (some [])) :: G2) ?_ ?env4
     case env4 =>
      exact eE
     generalize kX : us ++ qs.flatMap (Fm p dn ord) = ts at *
     refine JW (l0 := l3) (r0 := { r3 with state := .busy }) rfl (by simp) rfl rfl pi (fun ns M G' => ∃ fv G3, G'.Perm ((b, Cl 45 [.slice fa frm.length fc, .slice da dn.length dc, .slice oa ord.length oc, fv]) :: (l3, Obj.loop { r3 with state := .busy }) :: (l2, Obj.loop { r2 with state := .busy }) :: (l1, Obj.loop { r1 with state := .busy }) :: (d, Obj.deferred (some [])) :: G3) ∧ I (ts ++ (ns.map fun f => (⟨frm, dn, ord, f⟩ : Exec)).filter fun e => decide (Dg p e = 0)) M G3)
      (fun c M G' => c = .ret ∧ ∃ fv G3, G'.Perm ((b, Cl 45 [.slice fa frm.length fc, .slice da dn.length dc, .slice oa ord.length oc, fv]) :: (l3, Obj.loop { r3 with state := .busy }) :: (l2, Obj.loop { r2 with state := .busy }) :: (l1, Obj.loop { r1 with state := .busy }) :: (d, Obj.deferred (some [])) :: G3) ∧ S M G3) ?_ ?_ ?_ ?_ ?_
     ·rintro ns M10 M11 G10 a8 ⟨fv, G3, hp, gl⟩
      exact ⟨fv, G3, hp, aE _ _ _ _ a8 gl⟩
     ·exact ⟨_, G2, lAe _, by simpa using aE _ _ _ _ rz lM⟩
     ·intro l4 r4 iM m7 ns fen v M10 G10 w4 F4 cB kY ⟨fv, G3, gr, ir⟩ m8
      refine JF ?_ (lCh _ gr)
      have m9 := m8.sl
      obtain ⟨na, nc, rfl, iS, ma⟩ := m8
      have mc := Aa.le_trans rz kY
      have oA : XOk p ⟨frm, dn, ord, fen⟩ := cQ fen (Li cB)
      have hX := fun M' (ax : M10.le M') => ry M' (Aa.le_trans mc ax) (.slice na fen.length nc) fen (m9.mono ax)
      have sA := fun G => Ol (M := M10.add G) p _ (kW.mono (Aa.le_trans mc (JB _ _))) hp ⟨frm, dn, ord, fen⟩ _ (hX _ (JB _ _)) oA
      obtain ⟨c1, c2, c3, c4, c5⟩ := Am1 hp oA
      have lO := Af0 (M := M10) ⟨frm, dn, ord, fen⟩ _ (hX _ (Aa.le_refl _)) c1 c2 c3 c4 c5
      have ut := tZ.mono mc
      have tQ := jp.mono mc
      repeat' first | refine rg ?_ | (refine xw ?_; refine nx ?_) | exact ⟨⟩ | fail
      refine JP iM ?_
      refine EV.block (EV.seq ?_)
      refine EV.any (t := Ap3) [(b, Cl 45 [.slice fa frm.length fc, .slice da dn.length dc, .slice oa ord.length oc, .slice na fen.length nc])] (lAp _ (lAf _ (lAh _))) ?_
      simp only [An, Aq, Al, Au, reduceIte, Nat.reduceEqDiff]
      by_cases hb : Dg p ⟨frm, dn, ord, fen⟩ = 0
      ·have dE : decide (Dg p ⟨frm, dn, ord, fen⟩ = 0) = true := decide_eq_true hb
       repeat' first | ((first | refine zo (fun lq aD => ?_) | refine zl ?_ | fail); (repeat first | refine nz ?_ | simp only [dE])) | refine zq (fun lq tq aD aA => ?_) | (refine lA9 _ (lAd (sA _) ?_); (repeat first | refine nz ?_ | simp only [dE])) | (refine ZA (fun tq aA => ?_) (fun tq aA => ?_) <;> (repeat first | refine nz ?_ | simp only [dE])) | exact zn | ((refine ZD (fun tq aA h => ?_) (fun tq aA h => ?_)) <;> try (exfalso; simp at h; done)) | ((first | refine xm ?_ | refine xn ?_ | refine xrA rfl ?_ | fail); (repeat first | refine nz ?_ | simp only [dE])) | fail
       refine Con.callS (G1 := []) lO ?_
       rintro v11 M11 G11 me pj
       repeat' first | refine ZF ?_ | fail
       refine ⟨fun q hq => by simp only [lAk] at hq; simp [hq], ?_⟩
       repeat' first | (refine zl ?_; (repeat first | refine nz ?_ | simp only [dE])) | refine zq (fun lq tq aD aA => ?_) | (refine ZB (fun tq aA => ?_) (fun tq aA => ?_) <;> (repeat first | refine nz ?_ | simp only [dE])) | exact zn | fail
       refine Fh.frzS G11 ?_
       have aI : (⟨frm, dn, ord, fen⟩ : Exec) ∈ Ca p :=
        lB3.2 ⟨dn, hdn, lB3.2 ⟨ord, bL, lB3.2 ⟨frm, ip, by rw [hF]; exact lCl.2 ⟨lAi.2 ⟨fen, cB, rfl⟩, dE⟩⟩⟩⟩
       refine N7.callS (hy _ _ aI _ G3 _ (Aa.le_trans t6 (Aa.le_trans mc (Aa.le_trans me (JB _ _)))) (aE _ _ _ _ (Aa.le_trans me (JB _ _)) ir) (IsX.mono (JB _ _) pj)) ?_
       rintro v12 M12 G12 t7 (⟨rfl, pk⟩ | ⟨rfl, pm⟩)
       ·repeat' first | ((refine ZE ?_ (fun lq aD hc => ?_) (fun lq aD => ?_); rotate_left) <;> (try (exfalso; simp at hc; done)) <;> (repeat first | refine nz ?_ | simp only [lBj])) | ((first | refine zo (fun lq aD => ?_) | refine zl ?_ | fail); (repeat first | refine nz ?_ | simp only [lBj])) | refine zq (fun lq tq aD aA => ?_) | refine zf ?_ | with_reducible rfl | fail
        repeat' first | refine su ?_ | (refine cX ?_ ?_ <;> intro h <;> try exact Ai h) | fail
        refine JL iM m7 (lAe _) ⟨_, G12, lAe _, ?_⟩
        rw [lAu, lCp, lDx, lCw, List.filter_nil, dE, if_pos rfl, ← lAc]; exact pk
       ·repeat' first | ((refine ZE ?_ (fun lq aD hc => ?_) (fun lq aD => ?_); rotate_left) <;> (try (exfalso; simp at hc; done)) <;> (repeat first | refine nz ?_ | simp only [lBl])) | ((first | refine zo (fun lq aD => ?_) | refine zl ?_ | fail); (repeat first | refine nz ?_ | simp only [lBl])) | refine zq (fun lq tq aD aA => ?_) | refine zf ?_ | with_reducible rfl | fail
        repeat' first | (refine cX ?_ ?_ <;> intro h <;> try exact Ai h) | fail
        exact JS (lAe _) ⟨rfl, _, G12, lAe _, pm⟩
      ·have dE : decide (Dg p ⟨frm, dn, ord, fen⟩ = 0) = false := decide_eq_false hb
       repeat' first | ((refine ZE ?_ (fun lq aD hc => ?_) (fun lq aD => ?_); rotate_left) <;> (try (exfalso; simp at hc; done)) <;> (repeat first | refine nz ?_ | simp only [dE])) | ((first | refine zo (fun lq aD => ?_) | refine zl ?_ | fail); (repeat first | refine nz ?_ | simp only [dE])) | refine zq (fun lq tq aD aA => ?_) | (refine lA9 _ (lAd (sA _) ?_); (repeat first | refine nz ?_ | simp only [dE])) | refine zf ?_ | refine ZC (fun tq aA => ?_) | ((refine ZD (fun tq aA h => ?_) (fun tq aA h => ?_)) <;> try (exfalso; simp at h; done)) | ((first | refine xn ?_ | refine xrA rfl ?_ | fail); (repeat first | refine nz ?_ | simp only [dE])) | exact false | fail
       repeat' first | refine su ?_ | (refine cX ?_ ?_ <;> intro h <;> try exact Ai h) | fail
       refine JL iM m7 (lAe _) ⟨_, G3, lAe _, ?_⟩
       rw [lAu, lCp, lDx, lCw, List.filter_nil, dE, if_neg (by decide), lAa]; exact ir
     ·rintro M10 G10 kY ⟨fv, G3, gr, ir⟩
      repeat' first | refine su ?_ | fail
      refine JF ?_ gr
      refine JG ((l3, Obj.loop { r3 with state := .busy }) :: (l2, Obj.loop { r2 with state := .busy }) :: (l1, Obj.loop { r1 with state := .busy }) :: (d, Obj.deferred (some [])) :: G3) ?_
      refine JL cw mZ (lAe _) ⟨G3, lAe _, ?_⟩
      rw [lAy, lC8, ← lAc, kX, hF]
      exact aE _ _ _ _ (JB _ _) ir
     ·rintro c M10 G10 kY ⟨rfl, fv, G3, gr, pn⟩
      refine JF ?_ gr
      refine JG ((l3, Obj.loop { r3 with state := .busy }) :: (l2, Obj.loop { r2 with state := .busy }) :: (l1, Obj.loop { r1 with state := .busy }) :: (d, Obj.deferred (some [])) :: G3) ?_
      exact JS (lAe _) ⟨rfl, G3, lAe _, mP _ _ _ (JB _ _) pn⟩
   ·rintro M8 G8 nu ⟨G2, m4, lM⟩
    repeat' first | refine su ?_ | fail
    refine JL aW kT m4 ⟨G2, lAe _, ?_⟩
    rw [lAy, lC8, ← lAc, kV]; exact lM
   ·rintro c M8 G8 nu ⟨rfl, G2, m4, pV⟩
    exact JS m4 ⟨rfl, G2, lAe _, pV⟩
  ·rintro M6 G6 fN ⟨G1, gn, kQ⟩
   repeat' first | refine su ?_ | fail
   refine JL aR p6 gn ⟨G1, lAe _, ?_⟩
   rw [lAy, lC8, ← lAc, cp]; exact kQ
  ·rintro c M6 G6 fN ⟨rfl, G1, gn, pW⟩
   exact JS gn ⟨rfl, G1, lAe _, pW⟩
 ·rintro d M4 G4 cO ⟨G0, dI, kO⟩
  refine EV.inBlock ?_
  refine EV.doneM Q19_ok (ms := [d]) (by simpa [N8] using dI) ?_
  (repeat first | refine nx ?_ | simp only [Q19])
  left; rw [nq]; exact kO
 ·rintro d c M4 G4 cO ⟨rfl, G0, dI, pX⟩
  refine JU Q19_ok (ms := [d]) (by simpa [N8] using dI) ?_
  (repeat first | refine nx ?_ | simp only [Q19])
  right; exact pX
def Fk7 {α : Type} (L : List α) (El : α → Value → Aa → Prop) (v : Value) (M : Aa) (_ : Own) : Prop := ∃ g caps, v = .func (.func g) #[] caps ∧ Wb Tryz.prog g #[] caps M L El
theorem Rg (p : List Ev) (hp : POk p) {ps : Value} (hps : Sl M 6 Bh ps p) : Con Tryz.prog 34 #[ps] M [] (Fk7 (Ca p) ElX) := by
 have af := hp.len
 refine Con.enter Q17_ok (args := [ps]) (by simp [Q17]) fun w0 => ?_
 simp only [Q17, A9]
 have cM := hps
 obtain ⟨ea, ec, rfl, aw⟩ := hps
 refine EV.seq (EV.reg ?_)
 (repeat first | refine nx ?_ | simp only [Bj4])
 intro pb
 refine EV.frz [(pb, Cl 74 [.slice ea p.length ec])] ?_
 generalize hR : M.add _ = N
 have aB : M.le N := hR ▸ JB _ _
 have iu : rd N pb 0 1 [.slice ea p.length ec] := hR ▸ Ap 0 rfl rfl (by simp)
 clear hR
 repeat' first | refine st ?_ | refine rg ?_ | (refine xn ?_; try refine nx ?_) | exact ⟨⟩ | fail
 refine Con.callS (G1 := []) (Oc p _ ⟨ea, ec, rfl, aw.mono aB⟩ (by omega) _ _ (fun i => (evAt p i).strong) ?_) ?_
 ·intro M' ax i hi
  obtain ⟨eb1, eo, rfl, hat⟩ := Sl.at (enc := Bh) (fun _ => rfl) (by decide) aw (by omega)
  exact Sp p (iu.mono ax) i hi ((JJ hat i hi).mono (Aa.le_trans aB ax))
 rintro v M2 G2 bZ ⟨of, rfl, fL, rfl⟩
 repeat' first | refine st ?_ | refine rg ?_ | (with_reducible intro b; try refine nx ?_) | (refine xw ?_; refine nx ?_) | exact ⟨⟩ | fail
 refine JG [] ?_
 generalize hR : M2.add _ = N2
 have im : M2.le N2 := hR ▸ JB _ _
 (refine rt Q17_ok ?_; try with_reducible exact ⟨⟩)
 refine ⟨_, _, rfl, Wc p hp (cM.mono (Aa.le_trans aB (Aa.le_trans bZ im))) (hR ▸ Gf (T := 3) fL rfl (fun q hq => by simp [hq])) (iu.mono (Aa.le_trans bZ im)) (hR ▸ Ap 0 rfl rfl (by simp))⟩
end
theorem O6 : ∀ (l : List (List OpV)) (n : Nat) (e : Ev), e ∈ Cz n l → e.op ∈ l.flatten
 | [], _, e, h => by simp [Cz] at h
 | t :: l, n, e, h => by
  simp only [Cz, lBa, lAi] at h
  rcases h with ⟨o, ho, rfl⟩ | h
  ·exact lE9.2 ⟨t, lAz .., ho⟩
  ·obtain ⟨l', h1, h2⟩ := lE9.1 (O6 l (n + 1) e h)
   exact lE9.2 ⟨l', lB6 _ h1, h2⟩
theorem expOp_ok {o : OpV} (h : Ng o = true) : ∀ x ∈ Cq o, Bz x.ord = true ∧ 0 ≤ x.loc ∧ x.loc < 3 := by
 obtain ⟨q1, q2, q3⟩ := (E9 o).1 h
 have hl : 0 ≤ o.loc ∧ o.loc < 3 := by
  simp only [Yo, lA6, decide_eq_true_eq] at q3; exact q3.1
 have ho : Bz o.ord = true := by
  simp only [Vg, lA6] at q1; exact q1.2
 intro x hx
 unfold Cq at hx
 split at hx
 ·simp only [lAk] at hx; subst hx; exact ⟨ho, hl⟩
 ·simp only [lBo, lB4, or_false] at hx
  rcases hx with rfl | rfl | rfl
  ·decide
  ·refine ⟨?_, hl⟩
   have : ∀ k : Int, Bz (Jg k o.ord) = true := fun k => by
    unfold Jg
    split
    ·exact ho
    ·split
     ·decide
     ·split <;> decide
   exact this _
  ·decide
theorem Xs (l : List OpV) (hall : ∀ o ∈ l, Ng o = true) : ((Eb l).length : Int) ≤ (Bf l).acc + (Bf l).fen ∧ True := by
 have key : ∀ (l : List OpV) (s : LimS), (∀ o ∈ l, Ng o = true) → ((Eb l).length : Int) + s.acc + s.fen ≤ (l.foldl Am s).acc + (l.foldl Am s).fen := by
  intro l
  induction l with
  | nil => intro s _; simp [Eb]
  | cons o l ih =>
   intro s h
   have ih2 := ih (Am s o) (fun x hx => h x (lB6 _ hx))
   have ho := h o (lAz ..)
   obtain ⟨q1, q2, q3⟩ := (E9 o).1 ho
   have hk : 0 ≤ o.kind ∧ o.kind < 6 := by
    simp only [Vg, lA6, decide_eq_true_eq] at q1; exact q1.1
   have e : (Eb (o :: l)).length = (Cq o).length + (Eb l).length := by simp [Eb]
   have : ((Cq o).length : Int) + s.acc + s.fen ≤ (Am s o).acc + (Am s o).fen := by
    by_cases h5 : o.kind = 5
    ·have e1 : (Cq o).length = 1 := by unfold Cq Br; rw [if_pos (by left; simp [h5])]; rfl
     have e2 : (Am s o).acc = s.acc ∧ (Am s o).fen = s.fen + 1 := by unfold Am; rw [if_pos h5]; exact ⟨rfl, rfl⟩
     omega
    ·have ha : Br o = true := by simp [Br]; omega
     by_cases h4 : o.ord = 4
     ·have e1 : (Cq o).length = 3 := by unfold Cq; rw [if_neg (by simp [ha, h4])]; rfl
      have e2 : (Am s o).acc = s.acc + 1 ∧ (Am s o).fen = s.fen + 2 := by unfold Am; rw [if_neg h5, if_pos ha]; simp [h4]
      omega
     ·have e1 : (Cq o).length = 1 := by unfold Cq; rw [if_pos (by right; exact h4)]; rfl
      have e2 : (Am s o).acc = s.acc + 1 ∧ (Am s o).fen = s.fen := by unfold Am; rw [if_neg h5, if_pos ha]; simp [h4]
      omega
   rw [lD1]
   omega
 exact ⟨by have := key l ⟨0, 0, 0, 0, 0⟩ hall; simpa [Bf] using this, trivial⟩
theorem Ho {ts : List (List OpV)} (h : A2 ts = 0) : POk (Ad ts) := by
 obtain ⟨hl, hn, hall⟩ := Dd h
 have cd : ∀ o ∈ ts.flatten, Ng o = true := lB0.1 hall
 have bA : (ts.map Eb).flatten = Eb ts.flatten := by simp [Eb, List.flatMap_def, List.map_flatten, lFd, lE2]; rfl
 have aI : ∀ i, i < (Ad ts).length → Bz (evAt (Ad ts) i).op.ord = true ∧ 0 ≤ (evAt (Ad ts) i).op.loc ∧ (evAt (Ad ts) i).op.loc < 3 := by
  intro i hi
  have he : evAt (Ad ts) i = (Ad ts)[i] := by simp [evAt, hi]
  rw [he]
  have := O6 _ _ _ (lAm hi)
  rw [bA, Eb, lB3] at this
  obtain ⟨o, ho, hx⟩ := this
  exact expOp_ok (cd o ho) _ hx
 refine ⟨?_, fun i hi => (aI i hi).1, fun i hi => (aI i hi).2⟩
 have h1 := (Xs ts.flatten cd).1
 simp only [Gc, lA6, decide_eq_true_eq] at hl
 have : (Ad ts).length = (Eb ts.flatten).length := by rw [Ad, H9, bA]
 omega
theorem Sq (n : Nat) : IntKind.i64.wrap (IntKind.i64.wrap (n : Int) + 1) = IntKind.i64.wrap ((n + 1 : Nat) : Int) := by
 rw [IntKind.wrap_i64, IntKind.wrap_i64, IntKind.wrap_i64]; omega
def Mc (ts : List (List OpV)) : Int := if A2 ts = 0 then IntKind.i64.wrap (Ca (Ad ts)).length else 0
section
variable {M : Aa}
theorem Rh (ts : List (List OpV)) (s : Value) (hs : Ee M 5 Bb s ts) (hb : Sized ts) :
  Con Tryz.prog 12 #[.agg #[s]] M [] fun v _ _ => v = .tuple #[vi (Mc ts), vi (A2 ts)] := by
 have aK := hs
 obtain ⟨a, c, vs, rfl, hl, aH, hk⟩ := hs
 refine Con.enter Q0_ok (args := [.agg #[.slice a ts.length c]]) (by simp [Q0]) fun w0 => ?_
 simp only [Q0, A9]
 repeat' first | refine st ?_ | refine rg ?_ | ((first | with_reducible intro b | refine xrA rfl ?_ | fail); try refine nx ?_) | exact ⟨⟩ | fail
 refine Con.callS (G1 := []) (Ad6 ts _ aK hb) ?_
 rintro v M1 G1 bw ⟨rfl, (⟨hne, rfl⟩ | ⟨aM, s', rfl, bm⟩)⟩
 ·have gT : Mc ts = 0 := by rw [Mc, if_neg hne]
  repeat' first | refine st ?_ | (refine EV.reg ?_; (conv => (arg 2; whnf)); (repeat first | refine nx ?_ | simp only [hne])) | (refine cX ?_ ?_ <;> intro h <;> try exact Ai h) | fail
  (refine rt Q0_ok ?_; try with_reducible exact ⟨⟩)
  rw [gT]
 ·have hp := Ho aM
  repeat' first | refine st ?_ | refine rg ?_ | (refine cX ?_ ?_ <;> intro h <;> try exact Ai h) | (with_reducible intro b; try refine nx ?_) | (refine xw ?_; refine nx ?_) | exact ⟨⟩ | fail
  refine Con.callS (G1 := []) (Rg _ hp bm) ?_
  rintro v M2 G2 bZ ⟨g2, caps2, rfl, gq⟩
  repeat' first | refine su ?_ | fail
  refine JD (ρ' := [(6, pv b 0), (16, .func (.func g2) #[] caps2)]) (G' := [(b, Cl 3 [vi 0])]) ?_ ?env1
  case env1 =>
   exact eE
  have h0 : IntKind.i64.wrap ((0 : Nat) : Int) = 0 := by decide
  have fI : ∀ n : Nat, IntKind.i64.wrap (IntKind.i64.wrap (n : Int) + 1) = IntKind.i64.wrap ((n + 1 : Nat) : Int) := fun n => Sq n
  refine EV.overM rfl rfl rfl gq (fun d ls M G' => G'.Perm [(d, Obj.deferred (some [])), (b, Cl 3 [vi (IntKind.i64.wrap ls.length)])])
   (fun d c M G' => False) ?_ ?_ ?_ ?_ ?_ ?_
  ·rintro d ls M4 M5 G4 a8 dI
   exact dI
  ·rintro d c M4 M5 G4 a8 h
   exact h
  ·intro d
   rw [show (([] : List Exec).length : Int) = ((0 : Nat) : Int) from rfl, h0]
  ·intro l d r aR aW ls x v M4 G4 w1 F hx cO dI d4
   refine JF ?_ (lCh _ dI)
   repeat' first | refine su ?_ | fail
   refine JP aR ?_
   repeat' first | refine su ?_ | (refine EV.reg ?_; (conv => (arg 2; whnf)); (repeat first | refine nx ?_ | simp only [fI])) | (refine xiA rfl ?_; (repeat first | refine nx ?_ | simp only [fI])) | (refine xw ?_; (repeat first | refine nx ?_ | simp only [fI])) | fail
   refine JL aR aW (lAe _) ?_
   rw [lA4, lC3, lD2]; exact lAe _
  ·intro d M4 G4 cO dI
   refine JF ?_ dI
   repeat' first | refine st ?_ | refine rg ?_ | (refine xiA rfl ?_; try refine nx ?_) | exact ⟨⟩ | fail
   refine JU Q0_ok (ms := [d]) (G1 := [(b, Cl 3 [vi (IntKind.i64.wrap (Ca (Ad ts)).length)])]) (lAe _) ?_
   (repeat first | refine nx ?_ | simp only [Q0])
   rw [Mc, if_pos aM, aM]
  ·intro d c M4 G4 cO h
   exact h.elim
end
theorem B6 {α : Type} [DecidableEq α] : ∀ {l m : List α}, l.Nodup → (∀ x ∈ l, x ∈ m) → l.length ≤ m.length
 | [], _, _, _ => lA8 _
 | x :: l, m, hn, h => by
  obtain ⟨h1, h2⟩ := lD0.1 hn
  have hx : x ∈ m := h x (lAz ..)
  have := B6 (l := l) (m := m.erase x) h2 (fun y hy => (List.mem_erase_of_ne (fun e => by subst e; exact h1 hy)).2 (h y (lB6 _ hy)))
  rw [List.length_erase_of_mem hx] at this
  have hpos : 0 < m.length := List.length_pos_of_mem hx
  rw [lB5]; omega
def O7 {α : Type} : List (List α) → List (List α)
 | [] => [[]]
 | l :: ls => l.flatMap fun x => (O7 ls).map (x :: ·)
theorem O8 {α : Type} : ∀ {ls : List (List α)} {x : List α}, x.length = ls.length → (∀ i (h : i < x.length) (h' : i < ls.length), x[i] ∈ ls[i]) → x ∈ O7 ls
 | [], x, hl, _ => by
  have : x = [] := lC2.1 hl
  simp [O7, this]
 | l :: ls, [], hl, _ => by simp at hl
 | l :: ls, y :: x, hl, h => by
  simp only [O7, lB3, lAi]
  exact ⟨y, h 0 (by simp) (by simp), x, O8 (by simpa using hl) (fun i h1 h2 => by have := h (i + 1) (by simpa using h1) (by simpa using h2); rwa [lAs, lAs] at this), rfl⟩
theorem C1 {α β : Type} {f : α → List β} {c : Nat} : ∀ {l : List α}, (∀ x ∈ l, (f x).length ≤ c) → (l.flatMap f).length ≤ l.length * c
 | [], _ => by simp
 | x :: l, h => by
  have h1 := C1 (l := l) (fun y hy => h y (lB6 _ hy))
  have h2 := h x (lAz ..)
  rw [lC4, lA4, lB5, lEe]; omega
theorem D9 {α : Type} {l : List α} {ls : List (List α)} {a b : Nat} (h1 : l.length ≤ a) (h2 : (O7 ls).length ≤ b) : (O7 (l :: ls)).length ≤ a * b := by
 have : (O7 (l :: ls)).length ≤ l.length * b := C1 fun x _ => by rw [lA1]; exact h2
 exact lBk this (lBu _ h1)
theorem Md {f : Nat → List Int} {g : Nat → Bool} {c : Nat} (hc : 0 < c) (h1 : ∀ i, g i = true → (f i).length ≤ c) (h2 : ∀ i, g i = false → (f i).length ≤ 1) : ∀ (l : List Nat), (O7 (l.map f)).length ≤ c ^ (l.filter g).length
 | [] => by simp [O7]
 | x :: l => by
  have ih := Md hc h1 h2 l
  rw [lDu]
  cases hg : g x with
  | true =>
   rw [lCw, hg, if_pos rfl, lB5, Nat.pow_succ, Nat.mul_comm]
   exact D9 (h1 x hg) ih
  | false =>
   rw [lCw, hg, if_neg (by decide)]
   have := D9 (h2 x hg) ih
   rwa [Nat.one_mul] at this
theorem Y3 (p : List Ev) : (List.range p.length).map (evAt p) = p := by
 refine lE8 (by simp) fun i h1 h2 => ?_
 rw [lDm, lDk, D5 h2]
theorem Fx (p : List Ev) (g : Ev → Bool) : ((List.range p.length).filter fun i => g (evAt p i)).length = (p.filter g).length := by
 conv => rhs; rw [← Y3 p]
 rw [List.filter_map, lA1]; rfl
theorem Me (g : OpV → Bool) : ∀ (l : List (List OpV)) (n : Nat), ((Cz n l).filter fun e => g e.op).length = (l.flatten.filter g).length
 | [], n => rfl
 | t :: l, n => by
  rw [Cz, lCp, lA4, Me g l (n + 1), lD9, lCp, lA4, List.filter_map, lA1]; rfl
theorem O9 {g : OpV → Bool} (h5 : g Hy = false) (ho : ∀ o : OpV, ∀ r, g { o with ord := r } = g o) : ∀ l : List OpV, ((Eb l).filter g).length = (l.filter g).length
 | [] => rfl
 | o :: l => by
  have ih := O9 h5 ho l
  have e : Eb (o :: l) = Cq o ++ Eb l := by simp [Eb]
  have h1 : ((Cq o).filter g).length = ([o].filter g).length := by
   unfold Cq
   split
   ·rfl
   ·simp only [lCw, h5, ho, List.filter_nil]
    cases g o <;> simp
  rw [e, lCp, lA4, ih, h1, ← lA4, ← lCp]; rfl
theorem Xt (ts : List (List OpV)) : (ts.map Eb).flatten = Eb ts.flatten := by simp [Eb, List.flatMap_def, List.map_flatten, lFd, lE2]; rfl
theorem Ri {g : OpV → Bool} (h5 : g Hy = false) (ho : ∀ o : OpV, ∀ r, g { o with ord := r } = g o) (ts : List (List OpV)) : ((Ad ts).filter fun e => g e.op).length = (ts.flatten.filter g).length := by
 rw [Ad, Me, Xt, O9 h5 ho]
theorem Y4 {o : OpV} (h : Ng o = true) : ∀ x ∈ Cq o, 0 ≤ x.kind ∧ x.kind ≤ 5 := by
 obtain ⟨q1, _, _⟩ := (E9 o).1 h
 have hk : 0 ≤ o.kind ∧ o.kind < 6 := by simp only [Vg, lA6, decide_eq_true_eq] at q1; exact q1.1
 intro x hx
 unfold Cq at hx
 split at hx
 ·simp only [lAk] at hx; subst hx; omega
 ·simp only [lBo, lB4, or_false] at hx
  rcases hx with rfl | rfl | rfl
  ·decide
  ·exact ⟨hk.1, by have := hk.2; show o.kind ≤ 5; omega⟩
  ·decide
theorem Cw1 {ts : List (List OpV)} (h : A2 ts = 0) (i : Nat) (hi : i < (Ad ts).length) : ∃ o, Ng o = true ∧ o ∈ ts.flatten ∧ (evAt (Ad ts) i).op ∈ Cq o := by
 obtain ⟨_, _, hall⟩ := Dd h
 rw [D5 hi]
 have := O6 _ _ _ (lAm hi)
 rw [Xt, Eb, lB3] at this
 obtain ⟨o, ho, hx⟩ := this
 exact ⟨o, lB0.1 hall o ho, ho, hx⟩
theorem Kr {ts : List (List OpV)} (h : A2 ts = 0) (i : Nat) (hi : i < (Ad ts).length) : 0 ≤ (evAt (Ad ts) i).op.kind ∧ (evAt (Ad ts) i).op.kind ≤ 5 := by
 obtain ⟨o, h1, _, h2⟩ := Cw1 h i hi
 exact Y4 h1 _ h2
theorem Rj : ∀ (l : List (List OpV)) (n : Nat), (Cz n l).Pairwise (fun a b => a.th ≤ b.th) ∧ ∀ e ∈ Cz n l, (n : Int) ≤ e.th
 | [], n => ⟨List.Pairwise.nil, fun e h => nomatch h⟩
 | t :: l, n => by
  obtain ⟨h1, h2⟩ := Rj l (n + 1)
  rw [Cz]
  refine ⟨List.pairwise_append.2 ⟨?_, h1, ?_⟩, ?_⟩
  ·rw [lDn]; exact List.pairwise_of_forall fun _ _ => Int.le_refl _
  ·intro a ha b hb
   obtain ⟨o, _, rfl⟩ := lAi.1 ha
   have := h2 b hb
   show (n : Int) ≤ b.th
   omega
  ·intro e he
   rcases lBa.1 he with he | he
   ·obtain ⟨o, _, rfl⟩ := lAi.1 he
    exact Int.le_refl _
   ·have := h2 e he; omega
theorem Ks (ts : List (List OpV)) : Nn (Ad ts) := by
 intro a b fq hb
 rcases Nat.lt_or_eq_of_le fq with h | h
 ·have := (lBb.1 (Rj (ts.map Eb) 0).1) a b (by rw [Ad] at hb; omega) hb h
  rw [D5 hb, D5 (by omega)]; exact this
 ·rw [h]; exact Int.le_refl _
def isW (k : Int) (o : OpV) : Bool := decide (1 ≤ o.kind) && decide (o.kind ≤ 4) && decide (o.loc = k)
theorem Y5 (l : List OpV) (hall : ∀ o ∈ l, Ng o = true) : ((l.filter fun o => decide (o.kind ≠ 5)).length : Int) ≤ (Bf l).acc ∧
  ((l.filter (isW 0)).length : Int) ≤ (Bf l).w0 ∧ ((l.filter (isW 1)).length : Int) ≤ (Bf l).w1 ∧ ((l.filter (isW 2)).length : Int) ≤ (Bf l).w2 := by
 have key : ∀ (l : List OpV) (s : LimS), (∀ o ∈ l, Ng o = true) → s.acc + ((l.filter fun o => decide (o.kind ≠ 5)).length : Int) ≤ (l.foldl Am s).acc ∧
  s.w0 + ((l.filter (isW 0)).length : Int) ≤ (l.foldl Am s).w0 ∧ s.w1 + ((l.filter (isW 1)).length : Int) ≤ (l.foldl Am s).w1 ∧ s.w2 + ((l.filter (isW 2)).length : Int) ≤ (l.foldl Am s).w2 := by
  intro l
  induction l with
  | nil => intro s _; simp
  | cons o l ih =>
   intro s h
   have ih2 := ih (Am s o) (fun x hx => h x (lB6 _ hx))
   have ho := h o (lAz ..)
   obtain ⟨q1, _, _⟩ := (E9 o).1 ho
   have hk : 0 ≤ o.kind ∧ o.kind < 6 := by simp only [Vg, lA6, decide_eq_true_eq] at q1; exact q1.1
   rw [lD1]
   by_cases h5 : o.kind = 5
   ·have e : Am s o = { s with fen := s.fen + 1 } := by unfold Am; rw [if_pos h5]
    rw [e] at ih2 ⊢
    simp only [lCw, isW, h5]
    simpa [isW] using ih2
   ·have ha : Br o = true := by simp [Br]; omega
    have e : Am s o = { acc := s.acc + 1, fen := if o.ord = 4 then s.fen + 2 else s.fen, w0 := if o.kind ≠ 0 ∧ o.loc = 0 then s.w0 + 1 else s.w0, w1 := if o.kind ≠ 0 ∧ o.loc = 1 then s.w1 + 1 else s.w1, w2 := if o.kind ≠ 0 ∧ o.loc = 2 then s.w2 + 1 else s.w2 } := by
     unfold Am; rw [if_neg h5, if_pos ha]
    have hw : ∀ k : Int, isW k o = decide (o.kind ≠ 0 ∧ o.loc = k) := fun k => by
     unfold isW
     rw [lEw]
     simp only [lA6, decide_eq_true_eq]; omega
    rw [e] at ih2 ⊢
    obtain ⟨i1, i2, i3, i4⟩ := ih2
    dsimp only at i1 i2 i3 i4
    generalize l.foldl Am _ = z at i1 i2 i3 i4 ⊢
    have hh : ∀ (g : OpV → Bool), (((o :: l).filter g).length : Int) = (if g o = true then 1 else 0) + ((l.filter g).length : Int) := fun g => by
     rw [lCw]; split
     ·rw [lB5]; omega
     ·omega
    refine ⟨?_, ?_, ?_, ?_⟩
    ·rw [hh]; split <;> omega
    ·rw [hh, hw]
     by_cases hc : o.kind ≠ 0 ∧ o.loc = 0
     ·rw [if_pos hc] at i2; rw [if_pos (decide_eq_true hc)]; omega
     ·rw [if_neg hc] at i2; rw [if_neg (by simpa using hc)]; omega
    ·rw [hh, hw]
     by_cases hc : o.kind ≠ 0 ∧ o.loc = 1
     ·rw [if_pos hc] at i3; rw [if_pos (decide_eq_true hc)]; omega
     ·rw [if_neg hc] at i3; rw [if_neg (by simpa using hc)]; omega
    ·rw [hh, hw]
     by_cases hc : o.kind ≠ 0 ∧ o.loc = 2
     ·rw [if_pos hc] at i4; rw [if_pos (decide_eq_true hc)]; omega
     ·rw [if_neg hc] at i4; rw [if_neg (by simpa using hc)]; omega
 have := key l ⟨0, 0, 0, 0, 0⟩ hall
 simpa [Bf] using this
structure Few (p : List Ev) : Prop where
 acc : (p.filter fun e => decide (e.op.kind ≠ 5)).length ≤ 6
 w : ∀ k : Int, (p.filter fun e => isW k e.op).length ≤ 4
 ws : (p.filter fun e => isW 0 e.op).length + (p.filter fun e => isW 1 e.op).length + (p.filter fun e => isW 2 e.op).length ≤ 6
theorem Pa {α : Type} {f g h t : α → Bool} (hd : ∀ x, (f x = true → g x = false ∧ h x = false ∧ t x = true) ∧ (g x = true → h x = false ∧ t x = true) ∧ (h x = true → t x = true)) : ∀ l : List α, (l.filter f).length + (l.filter g).length + (l.filter h).length ≤ (l.filter t).length
 | [] => by simp
 | x :: l => by
  have ih := Pa hd l
  obtain ⟨h1, h2, h3⟩ := hd x
  simp only [lCw]
  cases hf : f x with
  | true =>
   obtain ⟨a, b, c⟩ := h1 hf
   rw [a, b, c]; simp; omega
  | false =>
   cases hg : g x with
   | true =>
    obtain ⟨b, c⟩ := h2 hg
    rw [b, c]; simp; omega
   | false =>
    cases hh : h x with
    | true => rw [h3 hh]; simp; omega
    | false => cases t x <;> simp <;> omega
theorem Sr {ts : List (List OpV)} (h : A2 ts = 0) : Few (Ad ts) := by
 obtain ⟨hl, _, hall⟩ := Dd h
 obtain ⟨c1, c2, c3, c4⟩ := Y5 ts.flatten (lB0.1 hall)
 simp only [Gc, lA6, decide_eq_true_eq] at hl
 obtain ⟨⟨⟨⟨⟨_, l1⟩, _⟩, l2⟩, l3⟩, l4⟩ := hl
 have ha : ((Ad ts).filter fun e => decide (e.op.kind ≠ 5)).length ≤ 6 := by
  have := Ri (g := fun o => decide (o.kind ≠ 5)) (by simp) (fun _ _ => rfl) ts
  omega
 have hw : ∀ k : Int, ((Ad ts).filter fun e => isW k e.op).length = (ts.flatten.filter (isW k)).length := fun k => Ri (g := isW k) (by simp [isW]) (fun _ _ => rfl) ts
 refine ⟨ha, fun k => ?_, ?_⟩
 ·by_cases h0 : k = 0
  ·subst h0; have := hw 0; omega
  ·by_cases h1 : k = 1
   ·subst h1; have := hw 1; omega
   ·by_cases h2 : k = 2
    ·subst h2; have := hw 2; omega
    ·have : ((Ad ts).filter fun e => isW k e.op) = [] := by
      rw [List.filter_eq_nil_iff]
      intro e he hk
      obtain ⟨i, hi, rfl⟩ := lBf he
      have := (Ho h).loc i hi
      rw [D5 hi] at this
      simp only [isW, lA6, decide_eq_true_eq] at hk
      omega
     rw [this]; simp
 ·refine lBk (Pa (t := fun e : Ev => decide (e.op.kind ≠ 5)) (fun x => ?_) _) ha
  simp only [isW, lA6, decide_eq_true_eq, lBm, decide_eq_false_iff_not]
  refine ⟨fun h => ⟨.inr (by omega), .inr (by omega), by omega⟩, fun h => ⟨.inr (by omega), by omega⟩, fun h => by omega⟩
def I2 (p : List Ev) (k : Int) : List Int := Cr p.length fun i => isW k (evAt p i).op
theorem Mf {p : List Ev} {k : Int} : (I2 p k).length = (p.filter fun e => isW k e.op).length := by
 rw [I2, Cr, lA1, ← Fx p fun e => isW k e.op]
theorem Mg {p : List Ev} {k : Int} {w : Nat} : (w : Int) ∈ I2 p k ↔ w < p.length ∧ 1 ≤ (evAt p w).op.kind ∧ (evAt p w).op.kind ≤ 4 ∧ (evAt p w).op.loc = k := by
 rw [I2, B5]
 simp only [isW, lA6, decide_eq_true_eq]
 constructor
 ·rintro ⟨i, h1, ⟨⟨h2, h3⟩, h4⟩, h5⟩
  have : i = w := by omega
  subst this; exact ⟨h1, h2, h3, h4⟩
 ·rintro ⟨h1, h2, h3, h4⟩; exact ⟨w, h1, ⟨⟨h2, h3⟩, h4⟩, rfl⟩
def Cz4 (p : List Ev) : List (List Int) := O7 ((List.range p.length).map fun i => if (evAt p i).reads then -1 :: I2 p (evAt p i).op.loc else [-2])
def We (p : List Ev) (w : Wd) (k : Int) : List Int := 0 :: (I2 p k).map fun x => w.w[x.toNat]?.getD 0
def Am2 (p : List Ev) : List (List Int) := (Cz4 p).flatMap fun f => (O7 [We p (Aw p f) 0, We p (Aw p f) 1, We p (Aw p f) 2]).map (A8 p (Aw p f) p.length ++ ·)
theorem Fk8 : ∀ a b c : Fin 5, a.1 + b.1 + c.1 ≤ 6 → (a.1 + 1) * ((b.1 + 1) * ((c.1 + 1) * 1)) ≤ 27 := by decide
theorem Af1 {p : List Ev} (h : Few p) : (Am2 p).length ≤ 421875 := by
 have h1 : (Cz4 p).length ≤ 5 ^ ((List.range p.length).filter fun i => (evAt p i).reads).length := by
  refine Md (by decide) (fun i hi => ?_) (fun i hi => ?_) _
  ·rw [if_pos hi, lB5, Mf]
   have := h.w (evAt p i).op.loc; omega
  ·rw [if_neg (by rw [hi]; decide)]; simp
 have h2 : ((List.range p.length).filter fun i => (evAt p i).reads).length ≤ 6 := by
  rw [Fx p Ev.reads]
  refine lBk ?_ h.acc
  have : p.filter Ev.reads = (p.filter fun e => decide (e.op.kind ≠ 5)).filter Ev.reads := by
   rw [lFk]
   congr 1
   funext e
   simp only [Ev.reads]
   cases decide (e.op.kind ≠ 1) <;> cases decide (e.op.kind ≠ 5) <;> rfl
  rw [this]; exact lDw _ _
 have h3 : (Cz4 p).length ≤ 15625 := lBk h1 (lBk (lCf (by decide) h2) (by decide))
 have h4 : (Am2 p).length ≤ (Cz4 p).length * 27 := by
  refine C1 fun f _ => ?_
  rw [lA1]
  have hl : ∀ k, (We p (Aw p f) k).length ≤ (p.filter fun e => isW k e.op).length + 1 := fun k => by rw [We, lB5, lA1, Mf]; exact lA5 _
  refine lBk (D9 (hl 0) (D9 (hl 1) (D9 (hl 2) (lA5 1)))) ?_
  have w0 := h.w 0; have w1 := h.w 1; have w2 := h.w 2; have ws := h.ws
  exact Fk8 ⟨_, by omega⟩ ⟨_, by omega⟩ ⟨_, by omega⟩ ws
 omega
theorem Af2 {p : List Ev} (hp : POk p) {e : Exec} (h : Shape p e) : Ar p e ∈ Am2 p := by
 unfold Am2
 rw [lB3]
 refine ⟨e.frm, O8 (by simp [h.fl]) fun i h1 h2 => ?_, ?_⟩
 ·simp only [lDm, lDk]
  have hi : i < p.length := by rw [← h.fl]; exact h1
  have hf : Af e i = e.frm[i] := by simp [Af, h1]
  cases hr : (evAt p i).reads with
  | false => rw [if_neg (by decide), lAk, ← hf]; exact h.out i hi hr
  | true =>
   rw [if_pos rfl, ← hf]
   rcases h.src i hi hr with h3 | ⟨w, h3, h4, h5, h6⟩
   ·exact lBo.2 (.inl h3)
   ·have := h.dn0 w h4 h5
    exact lBo.2 (.inr (by rw [h3]; exact Mg.2 ⟨h4, this.1, this.2, h6⟩))
 ·refine lAi.2 ⟨e.ord.map (Bm (Aw p e.frm)), O8 (by simp [h.ol]) fun i h1 h2 => ?_, rfl⟩
  rw [lA1] at h1
  have gX : i < 3 := by rw [h.ol] at h1; exact h1
  have am := h.ord i gX
  rw [lA2 h1, lAr] at am
  have key : Bm (Aw p e.frm) e.ord[i] ∈ We p (Aw p e.frm) i := by
   unfold Bm We
   split
   ·exact lAz ..
   ·rename_i hne
    refine lB6 _ (lAi.2 ⟨Ae e.ord[i] (e.ord[i].length - 1), ?_, rfl⟩)
    have := am.mem_iff.1 (Gw.2 ⟨e.ord[i].length - 1, by omega, rfl⟩)
    obtain ⟨w, q1, q2, _, q3, q4⟩ := Bc.1 this
    have := h.dn0 w q2 q3
    rw [q1]; exact Mg.2 ⟨q2, this.1, this.2, q4⟩
  rw [lDm]
  have : i = 0 ∨ i = 1 ∨ i = 2 := by omega
  rcases this with rfl | rfl | rfl <;> exact key
def T9 (p : List Ev) (x : List Int) : Prop := ∃ e, e ∈ Ca p ∧ Ar p e = x
theorem Ss {p : List Ev} (hp : POk p) (hm : Nn p) (hf : Few p) {l : List (List Int)} (hn : l.Nodup) (h : ∀ x ∈ l, T9 p x) : l.length ≤ 421875 :=
 lBk (B6 hn fun x hx => by
  obtain ⟨e, he, rfl⟩ := h x hx
  exact Af2 hp ((Np hp hm).1 he).1) (Af1 hf)
def Am3 (a b : Int) : Int := if a < b then -1 else if a > b then 1 else 0
def Da : List Int → List Int → Int
 | [], [] => 0
 | [], _ :: _ => -1
 | _ :: _, [] => 1
 | a :: l, b :: m => if Am3 a b = 0 then Da l m else Am3 a b
theorem Bc2 (a b : Int) : Am3 a b < 0 ↔ a < b := by unfold Am3; split <;> (try split) <;> omega
theorem Ik (a b : Int) : Am3 a b = 0 ↔ a = b := by unfold Am3; split <;> (try split) <;> omega
theorem Cu : ∀ xs, Da xs xs = 0
 | [] => rfl
 | x :: xs => by rw [Da, if_pos ((Ik x x).2 rfl), Cu xs]
theorem Fy {a b : Int} {l m : List Int} : Da (a :: l) (b :: m) < 0 ↔ a < b ∨ (a = b ∧ Da l m < 0) := by
 rw [Da]
 split
 ·rename_i h; have := (Ik a b).1 h; subst this; simp
 ·rename_i h
  have h2 : a ≠ b := fun e => h ((Ik a b).2 e)
  rw [Bc2]; simp [h2]
theorem Dm : ∀ xs ys zs, Da xs ys < 0 → Da ys zs < 0 → Da xs zs < 0
 | [], [], _, h, _ => by simp [Da] at h
 | [], _ :: _, [], _, h => by simp [Da] at h
 | [], _ :: _, _ :: _, _, _ => by simp [Da]
 | _ :: _, [], _, h, _ => by simp [Da] at h
 | _ :: _, _ :: _, [], _, h => by simp [Da] at h
 | a :: l, b :: m, c :: n, h1, h2 => by
  rw [Fy] at *
  rcases h1 with h1 | ⟨rfl, h1⟩ <;> rcases h2 with h2 | ⟨rfl, h2⟩
  ·left; omega
  ·left; exact h1
  ·left; exact h2
  ·right; exact ⟨rfl, Dm _ _ _ h1 h2⟩
theorem Ej : ∀ xs ys, Da xs ys < 0 ∨ xs = ys ∨ Da ys xs < 0
 | [], [] => by simp
 | [], _ :: _ => by simp [Da]
 | _ :: _, [] => by simp [Da]
 | a :: l, b :: m => by
  rw [Fy, Fy]
  have := Ej l m
  by_cases h1 : a < b
  ·left; left; exact h1
  ·by_cases h2 : b < a
   ·right; right; left; exact h2
   ·have : a = b := by omega
    subst this
    rcases Ej l m with h | rfl | h
    ·left; right; exact ⟨rfl, h⟩
    ·right; left; rfl
    ·right; right; right; exact ⟨rfl, h⟩
theorem Ua {xs ys : List Int} : ∀ {i : Nat}, xs.take i = ys.take i → Da xs ys = Da (xs.drop i) (ys.drop i) := by
 induction xs generalizing ys with
 | nil => intro i h; cases i with
  | zero => rfl
  | succ i => cases ys with
   | nil => rfl
   | cons y ys => simp at h
 | cons x xs ih => intro i h; cases i with
  | zero => rfl
  | succ i => cases ys with
   | nil => simp at h
   | cons y ys =>
    simp only [lEp, List.cons.injEq] at h
    rw [h.1, Da, if_pos ((Ik y y).2 rfl), ih h.2]; rfl
section
variable {M : Aa}
theorem Wf (x : Int) : As Tryz.prog 152 #[vi x] M (vb false) := by
 refine Con.enter Q43_ok (args := [vi x]) (by simp [Q43]) fun w0 => ?_
 simp only [Q43, A9]
 repeat' first | refine st ?_ | refine rg ?_ | refine rt Q43_ok ?_ | exact ⟨⟩ | fail
 all_goals simp
theorem Su (x y : Int) : As Tryz.prog 127 #[vi x, vi y] M (vi (Am3 x y)) := by
 refine Con.enter Q42_ok (args := [vi x, vi y]) (by simp [Q42]) fun w0 => ?_
 simp only [Q42, A9]
 repeat' first | refine st ?_ | refine rg ?_ | (refine As.call (Wf _) ?_; try refine nx ?_) | (refine cX ?_ ?_ <;> intro h <;> try exact Ai h) | refine rt Q42_ok ?_ | exact ⟨⟩ | fail
 all_goals (simp only [Am3]; grind)
theorem Ub (xs ys : List Int) (s t : Value) (hs : Sl M 1 ei s xs) (ht : Sl M 1 ei t ys) (hb : xs.length < 1000000) (eQ : ys.length < 1000000) : As Tryz.prog 88 #[s, t] M (vi (Da xs ys)) := by
 obtain ⟨a, c, rfl, aH⟩ := hs
 obtain ⟨a2, c2, rfl, cl⟩ := ht
 refine Con.enter Q109_ok (args := [.slice a xs.length c, .slice a2 ys.length c2]) (by simp [Cx7]) fun w0 => ?_
 simp only [Cx7, A9]
 repeat' first | refine st ?_ | refine rg ?_ | exact ⟨⟩ | fail
 refine JC (fun i : Nat => ([(0, .slice a xs.length c), (1, .slice a2 ys.length c2), (9, .slice a xs.length c), (10, vi xs.length), (11, vi i)], M, [])) (fun i => i ≤ xs.length ∧ i ≤ ys.length ∧ xs.take i = ys.take i) (fun i => xs.length - i) 0 rfl ⟨lA8 _, lA8 _, rfl⟩ ?env1 (lA0 _) ?_
 case env1 =>
  exact eE
 rintro i ⟨hi, t8, ap⟩ ih
 dsimp only at hi t8 ap ih ⊢
 have fK := Ua ap
 repeat' first | refine st ?_ | refine rg ?_ | (refine cX ?_ ?_ <;> intro h <;> try exact Ai h) | exact ⟨⟩ | fail
 ·have aC : i < xs.length := by omega
  obtain ⟨wb, wo, rfl, hat⟩ := Sl.at (sz := 1) (enc := ei) (fun _ => rfl) (by decide) aH (by omega)
  have gZ := hat i aC
  rw [lAw] at gZ
  rw [lBi aC] at fK
  by_cases bT : i < ys.length
  ·obtain ⟨wb2, wo2, rfl, aJ⟩ := Sl.at (sz := 1) (enc := ei) (fun _ => rfl) (by decide) cl (by omega)
   have fd := aJ i bT
   rw [lAw] at fd
   rw [lBi bT, Da] at fK
   have ct : ¬ ((ys.length : Int) ≤ i) := by omega
   have gX : (i : Int) < (ys.length : Int) := by omega
   repeat' first | refine st ?_ | refine rg ?_ | (refine As.call (Su xs[i] ys[i]) ?_; try refine nx ?_) | (refine cX ?_ ?_ <;> intro h <;> try exact Ai h) | refine ZF ?_ | (refine xm ?_; try refine nx ?_) | exact ⟨⟩ | fail
   ·(refine rt Q109_ok ?_; try with_reducible exact ⟨⟩)
    rw [fK, if_neg (by simp_all)]
   ·have hz : Am3 xs[i] ys[i] = 0 := by simp_all
    have he := (Ik _ _).1 hz
    refine JA (ih (i + 1) ⟨by omega, by omega, ?_⟩ (by omega)) ?_ (lA0 _)
    ·rw [lA7 aC, lA7 bT, ap, he]
    ·exact eE
  ·have ct : ((ys.length : Int) ≤ i) := by omega
   have pp : ys.drop i = [] := lCs (by omega)
   rw [pp, Da] at fK
   repeat' first | refine st ?_ | refine rg ?_ | (refine cX ?_ ?_ <;> intro h <;> try exact Ai h) | refine ZF ?_ | (refine xm ?_; try refine nx ?_) | exact ⟨⟩ | fail
   (refine rt Q109_ok ?_; try with_reducible exact ⟨⟩)
   rw [fK]
 ·have bO : i = xs.length := by omega
  have en : xs.drop i = [] := lCs (by omega)
  have bT : i < ys.length := by omega
  rw [en, lBi bT, Da] at fK
  (refine rt Q109_ok ?_; try with_reducible exact ⟨⟩)
  rw [fK]
 ·have en : xs.drop i = [] := lCs (by omega)
  have pp : ys.drop i = [] := lCs (by omega)
  rw [en, pp, Da] at fK
  (refine rt Q109_ok ?_; try with_reducible exact ⟨⟩)
  rw [fK]
end
theorem execsP_ok {p : List Ev} (hp : POk p) {e : Exec} (h : e ∈ Ca p) : XOk p e := by
 simp only [Ca, Jh, L7, lB3] at h
 obtain ⟨dn, hd, ord, ho, frm, hf, h⟩ := h
 unfold Fm at h
 split at h
 ·obtain ⟨h, _⟩ := lCl.1 h
  obtain ⟨fen, hn, rfl⟩ := lAi.1 h
  exact exec_ok hp hd ho hf (Li hn)
 ·exact absurd h lB4
def Z4 (p : List Ev) (outs : List (List Int)) : Prop := outs.Pairwise (fun x y => Da x y < 0) ∧ ∀ x, x ∈ outs ↔ x ∈ (Ca p).map (Ar p)
theorem Xu : ∀ {a b : List (List Int)}, a.Pairwise (fun x y => Da x y < 0) → b.Pairwise (fun x y => Da x y < 0) → (∀ x, x ∈ a ↔ x ∈ b) → a = b
 | [], [], _, _, _ => rfl
 | [], y :: b, _, _, h => absurd ((h y).2 (lAz ..)) lB4
 | x :: a, [], _, _, h => absurd ((h x).1 (lAz ..)) lB4
 | x :: a, y :: b, ha, hb, h => by
  obtain ⟨a1, a2⟩ := lDl.1 ha
  obtain ⟨b1, b2⟩ := lDl.1 hb
  have cR : x = y := by
   have h1 := (h x).1 (lAz ..)
   have h2 := (h y).2 (lAz ..)
   rcases lBo.1 h1 with h1 | h1
   ·exact h1
   ·rcases lBo.1 h2 with h2 | h2
    ·exact h2.symm
    ·have := Dm _ _ _ (a1 y h2) (b1 x h1)
     rw [Cu] at this; omega
  subst cR
  have : a = b := Xu a2 b2 fun z => by
   constructor
   ·intro hz
    rcases lBo.1 ((h z).1 (lB6 _ hz)) with e | e
    ·subst e
     have := a1 z hz
     rw [Cu] at this; omega
    ·exact e
   ·intro hz
    rcases lBo.1 ((h z).2 (lB6 _ hz)) with e | e
    ·subst e
     have := b1 z hz
     rw [Cu] at this; omega
    ·exact e
  rw [this]
def Lo (x : List Int) : List (List Int) → List (List Int)
 | [] => [x]
 | y :: l => if Da x y < 0 then x :: y :: l else if x = y then y :: l else y :: Lo x l
theorem Nq {x z : List Int} : ∀ l : List (List Int), z ∈ Lo x l ↔ z = x ∨ z ∈ l
 | [] => by simp [Lo]
 | y :: l => by
  rw [Lo]
  split
  ·simp
  ·split
   ·rename_i h; subst h; simp
   ·simp only [lBo, Nq l]
    constructor
    ·rintro (h | h | h)
     ·exact .inr (.inl h)
     ·exact .inl h
     ·exact .inr (.inr h)
    ·rintro (h | h | h)
     ·exact .inr (.inl h)
     ·exact .inl h
     ·exact .inr (.inr h)
theorem Sv {x : List Int} : ∀ {l : List (List Int)}, l.Pairwise (fun x y => Da x y < 0) → (Lo x l).Pairwise (fun x y => Da x y < 0)
 | [], _ => by simp [Lo]
 | y :: l, h => by
  obtain ⟨h1, h2⟩ := lDl.1 h
  rw [Lo]
  split
  ·rename_i hx
   refine lDl.2 ⟨fun z hz => ?_, h⟩
   rcases lBo.1 hz with rfl | hz
   ·exact hx
   ·exact Dm _ _ _ hx (h1 z hz)
  ·rename_i hx
   split
   ·exact h
   ·rename_i hne
    refine lDl.2 ⟨fun z hz => ?_, Sv h2⟩
    rcases (Nq l).1 hz with rfl | hz
    ·rcases Ej y z with k | k | k
     ·exact k
     ·exact absurd k.symm hne
     ·exact absurd k hx
    ·exact h1 z hz
def Bc3 (p : List Ev) : List (List Int) := ((Ca p).map (Ar p)).foldr Lo []
theorem Af3 (l : List (List Int)) : (l.foldr Lo []).Pairwise (fun x y => Da x y < 0) ∧ ∀ x, x ∈ l.foldr Lo [] ↔ x ∈ l := by
 induction l with
 | nil => exact ⟨List.Pairwise.nil, fun x => Iff.rfl⟩
 | cons y l ih => exact ⟨Sv ih.1, fun x => by rw [List.foldr_cons, Nq, ih.2, lBo]⟩
theorem Cw2 (p : List Ev) : Z4 p (Bc3 p) := Af3 _
theorem Z4.uniq {p : List Ev} {a b : List (List Int)} (h : Z4 p a) (k : Z4 p b) : a = b := Xu h.1 k.1 fun x => (h.2 x).trans (k.2 x).symm
theorem Z4.eq {p : List Ev} {a : List (List Int)} (h : Z4 p a) : a = Bc3 p := h.uniq (Cw2 p)
def Kt : List (List OpV) := [[⟨1, 0, 1, 0, 0⟩, ⟨0, 1, 0, 0, 0⟩], [⟨1, 1, 1, 0, 0⟩, ⟨0, 0, 0, 0, 0⟩]]
theorem buffers_ok : A2 Kt = 0 := by decide +kernel
theorem Uc : Bc3 (Ad Kt) = [[0, 0, 1, 1, 0], [0, 1, 1, 1, 0], [1, 0, 1, 1, 0], [1, 1, 1, 1, 0]] := by decide +kernel
variable {P : Program}
theorem Ext.grown {w w' : World} (e : Ext w w') : ∃ q os, w' = Go.Sort.grow (w.drewN q) os := by
 refine ⟨w'.drawn - w.drawn, w'.heap.extract w.heap.size w'.heap.size, ?_⟩
 have h1 : w'.heap = w.heap ++ w'.heap.extract w.heap.size w'.heap.size := by
  apply Array.ext_getElem?
  intro i
  rw [Array.getElem?_append]
  split
  ·rename_i hi; exact e.block i hi
  ·rename_i hi
   rw [Array.getElem?_extract]
   have := e.size
   by_cases h2 : i < w'.heap.size
   ·rw [if_pos (by omega)]; congr 1; omega
   ·rw [if_neg (by omega), Array.getElem?_eq_none (by omega)]
 have h2 := e.os
 have h3 := e.tape
 have h4 := e.output
 obtain ⟨h5, h6⟩ := h3
 cases w' with
 | mk heap' tape' drawn' os' output' =>
  dsimp only at h1 h2 h4 h5 h6 ⊢
  subst h2 h4 h5
  simp only [Go.Sort.grow, World.drewN]
  congr 1
  omega
theorem St.enterIn {w W : World} {F : List Nat} {M : Aa} {G : Own} (hs : St w F M M G w) (h : ∀ b o, M b o → W.heap[b]? = w.heap[b]?) : St W [] M M [] W :=
 St.enter (G := []) (fun b o hb => (h b o hb).trans (hs.agree b o hb)) (fun p hp => by cases hp) (fun p hp => by cases hp) (by simp)
theorem As.exact {g : FuncId} {args : Array Value} {M : Aa} {v : Value} (h : As P g args M v) {W : World} (hs : St W [] M M [] W) :
  Calls P g args W fun e w' => e = .returned v ∧ ∃ q os', w' = Go.Sort.grow (W.drewN q) os' :=
 (h.2 W hs).mono fun e w' ⟨u, he, M', G', h1, h2⟩ => ⟨by rw [he, h2], (JY h1).grown⟩
theorem Ud {α : Type} [Inhabited α] (enc : α → Value) (w : World) (b : Nat) (d : Array α) {T : TypeId} {cs : List Value} (hb : w.heap[b]? = some (Cl T cs)) (hl : d.size ≤ cs.length) :
  (Go.Sort.putRow enc w b 0 d).heap[b]? = some (Cl T (d.toList.map enc ++ cs.drop d.size)) := by
 unfold Go.Sort.putRow Go.Sort.mapBlock
 simp only [Array.getElem?_modify, if_true, hb, lC6, Go.Sort.onCells, Option.some.injEq, Obj.cells.injEq, and_true]
 apply Array.ext_getElem?
 intro i
 simp only [Go.Sort.putCells, Array.getElem?_mapIdx, lF4, lBg, lA8, true_and, Nat.sub_zero]
 by_cases hi : i < d.size
 ·rw [lDy (by simpa using hi), lA2 (by omega : i < cs.length)]
  simp [hi]
 ·rw [lEm (by simpa using (by omega : d.size ≤ i))]
  simp only [hi, if_false, lA1, Array.length_toList, List.getElem?_drop]
  rw [show d.size + (i - d.size) = i by omega]
  simp
theorem Mh {α : Type} [Inhabited α] (enc : α → Value) (w : World) (b off : Nat) (d : Array α) {k : Nat} (hk : k ≠ b) : (Go.Sort.putRow enc w b off d).heap[k]? = w.heap[k]? := by
 unfold Go.Sort.putRow Go.Sort.mapBlock
 simp only [Array.getElem?_modify]
 rw [if_neg (fun h => hk h.symm)]
theorem Hp {α : Type} [Inhabited α] (enc : α → Value) (w : World) (b off : Nat) (d : Array α) : (Go.Sort.putRow enc w b off d).heap.size = w.heap.size := by
 simp [Go.Sort.putRow, Go.Sort.mapBlock]
variable {P : Program}
theorem Af4 {α : Type} [Inhabited α] (enc : α → Value) {w : World} {b : Nat} {T : TypeId} {xs : List α} {sp : List Value} (hb : w.heap[b]? = some (Cl T (xs.map enc ++ sp))) : Go.Sort.Holds enc w b 0 xs.toArray := by
 intro j hj
 have aN : j < xs.length := by simpa using hj
 constructor
 ·simp only [World.cell?, hb, Option.isSome_none, lBg]
  rw [lF4, lDy (by simpa using aN)]
  simp [aN]
 ·simp [World.frozen?, hb]
theorem Con.sort {ρ : Go.Shelf.Ren} (L : SlLaysF.n6 P ρ) {α : Type} [Inhabited α] (enc : α → Value) (h1 : ∀ x, (enc x).oneCell' = true) (cf : α → α → Int) (hO : Go.Sort.SWO (ltOf cf)) {g : FuncId} {M : Aa} (hgo : Aj8 P (ρ.f 6) = true)
  (mf : ∀ x y : α, As P g #[enc x, enc y] M (.int .i64 (cf x y))) {b : Nat} {T : TypeId} {xs : List α} {sp : List Value} {c : Nat} (aG : xs.length < 4611686018427387904) :
  Con P (ρ.f 6) #[.slice (some ⟨b, 0, none⟩) xs.length c, .func (.func g) #[] #[]] M [(b, Cl T (xs.map enc ++ sp))] fun v M' G' =>
   v = .tuple #[] ∧ M' = M ∧ ∃ ys : List α, ys.Perm xs ∧ ys.Pairwise (fun x y => ltOf cf y x = false) ∧ G' = [(b, Cl T (ys.map enc ++ sp))] := by
 refine ⟨hgo, fun w hs => ?_⟩
 have hb := hs.own (b, _) (lCk ..)
 have kZ := hs.lt (lCk ..)
 dsimp only at hb kZ
 have hH := Af4 enc hb
 have k5 : ∀ b' o, M b' o → b' ≠ b := fun b' o hm e => hs.sep _ (lCk ..) o (e ▸ hm)
 have hW : ∀ m os dk, St (sortWorld enc w b 0 m dk os) [] M M [] (sortWorld enc w b 0 m dk os) := fun m os dk => hs.enterIn fun b' o hm => by
  show ((Go.Sort.putRow enc (Go.Sort.ahead w m) b 0 dk).heap ++ os)[b']? = _
  rw [lDq (by rw [Hp]; exact hs.ltM hm), Mh _ _ _ _ _ (k5 b' o hm)]; rfl
 have de := Any.slices_SortFunc L enc h1 cf hO g #[] b 0 c xs.toArray w (Hg (mf default default).1) (fun m os dk hd x y => by simpa using (mf x y).exact (hW m os dk)) hH kZ (by simpa using aG)
 rw [lE0] at de
 refine de.mono ?_
 rintro e w' ⟨rfl, d', n, os, ⟨aQ, _, hp⟩, ta, rfl⟩
 have dW : d'.size = xs.length := by simpa using aQ
 have am : d'.toList.Perm xs := by
  have := hp
  rw [show d'.extract 0 xs.length = d' by rw [← dW]; simp, show xs.toArray.extract 0 xs.length = xs.toArray by simp] at this
  simpa using this
 refine ⟨_, rfl, M, [(b, Cl T (d'.toList.map enc ++ sp))], ?_, rfl, rfl, d'.toList, am, ?_, rfl⟩
 ·have bz := Ud enc (Go.Sort.ahead w n) b d' (T := T) (cs := xs.map enc ++ sp) hb (by simp [dW])
  rw [dW, List.drop_left' (by simp)] at bz
  have mg : w.heap.size ≤ (sortWorld enc w b 0 n d' os).heap.size := by
   show _ ≤ ((Go.Sort.putRow enc (Go.Sort.ahead w n) b 0 d').heap ++ os).size
   rw [Array.size_append, Hp]; exact Nat.le_add_right _ _
  have gt : ∀ k, k < w.heap.size → k ≠ b → (sortWorld enc w b 0 n d' os).heap[k]? = w.heap[k]? := fun k hk hne => by
   show ((Go.Sort.putRow enc (Go.Sort.ahead w n) b 0 d').heap ++ os)[k]? = _
   rw [lDq (by rw [Hp]; exact hk), Mh _ _ _ _ _ hne]; rfl
  have hat : (sortWorld enc w b 0 n d' os).heap[b]? = some (Cl T (d'.toList.map enc ++ sp)) := by
   show ((Go.Sort.putRow enc (Go.Sort.ahead w n) b 0 d').heap ++ os)[b]? = _
   rw [lDq (by rw [Hp]; exact kZ)]; exact bz
  refine ⟨rfl, ⟨rfl, Nat.le_add_right _ _⟩, rfl, mg, fun k hk hf => gt k hk (fun e => hf (by simp [e])), fun k o hk => (gt k (hs.ltM hk) (k5 k o hk)).trans (hs.agree k o hk), ?_, ?_, ?_, by simp, Aa.le_refl _, fun k o hk => .inl hk⟩
  ·intro p hp; rw [lAk] at hp; subst hp; exact hat
  ·intro p hp o hm; rw [lAk] at hp; subst hp; exact k5 _ _ hm rfl
  ·intro p hp; rw [lAk] at hp; subst hp; exact .inl (by simp)
 ·rw [lBb]
  intro i j hi hj fV
  have := ta i j (lA8 _) fV (by simpa [dW] using hj)
  rw [getElem!_pos d' i (by simpa using hi), getElem!_pos d' j (by simpa using hj)] at this
  simpa using this
theorem Con.sortNone {ρ : Go.Shelf.Ren} (L : SlLaysF0.n6 P ρ) (hgo : Aj8 P (ρ.f 6) = true) {M : Aa} (p : Option Addr) (cap : Nat) (fv : Value) :
  Con P (ρ.f 6) #[.slice p 0 cap, fv] M [] fun v _ G' => v = .tuple #[] ∧ G' = [] := by
 refine ⟨hgo, fun w hs => (AnyF.slices_SortFunc_none L p cap fv w).mono ?_⟩
 rintro e w' ⟨rfl, rfl⟩
 exact ⟨_, rfl, M, [], hs, rfl, rfl⟩
end Go.EV

namespace Go.Proofs
open Go.Shelf Go.RowKit Go.Lib Go.Sort
def Tryz.sortRows_ren : Go.Shelf.Ren := ⟨fun | 6 => 87 | 15 => 126 | 14 => 125 | 28 => 150 | 29 => 151 | 20 => 142 | 21 => 143 | 22 => 144 | 23 => 145 | 24 => 146 | 25 => 147 | 26 => 148 | 27 => 149 | 46 => 160 | 47 => 161 | 48 => 162 | 49 => 163 | 50 => 164 | 57 => 169 | n => n, fun | 22 => 26 | 24 => 34 | 25 => 138 | 3 => 3 | 39 => 67 | 0 => 0 | 53 => 144 | 55 => 175 | 4 => 4 | 46 => 167 | 45 => 166 | 50 => 171 | 5 => 5 | 9 => 9 | 66 => 181 | 70 => 185 | 76 => 188 | 77 => 189 | n => n, fun | n => n⟩
theorem Tryz.sortRows : Go.Proofs.SlLaysF.n6 Tryz.prog Tryz.sortRows_ren := {
 mixed := by kernel_rfl
 f6 := ⟨Tryz.f87.name, by decide, Tryz.func87.trans (congrArg some (by kernel_rfl))⟩
 f14 := ⟨Tryz.f125.name, by decide, Tryz.func125.trans (congrArg some (by kernel_rfl))⟩
 f15 := Tryz.func126.trans (congrArg some (by kernel_rfl))
 f20 := ⟨Tryz.f142.name, by decide, Tryz.func142.trans (congrArg some (by kernel_rfl))⟩
 f21 := ⟨Tryz.f143.name, by decide, Tryz.func143.trans (congrArg some (by kernel_rfl))⟩
 f22 := ⟨Tryz.f144.name, by decide, Tryz.func144.trans (congrArg some (by kernel_rfl))⟩
 f23 := ⟨Tryz.f145.name, by decide, Tryz.func145.trans (congrArg some (by kernel_rfl))⟩
 f24 := ⟨Tryz.f146.name, by decide, Tryz.func146.trans (congrArg some (by kernel_rfl))⟩
 f25 := ⟨Tryz.f147.name, by decide, Tryz.func147.trans (congrArg some (by kernel_rfl))⟩
 f26 := ⟨Tryz.f148.name, by decide, Tryz.func148.trans (congrArg some (by kernel_rfl))⟩
 f27 := ⟨Tryz.f149.name, by decide, Tryz.func149.trans (congrArg some (by kernel_rfl))⟩
 f28 := Tryz.func150.trans (congrArg some (by kernel_rfl))
 f29 := Tryz.func151.trans (congrArg some (by kernel_rfl))
 f46 := ⟨Tryz.f160.name, by decide, Tryz.func160.trans (congrArg some (by kernel_rfl))⟩
 f47 := Tryz.func161.trans (congrArg some (by kernel_rfl))
 f48 := Tryz.func162.trans (congrArg some (by kernel_rfl))
 f49 := ⟨Tryz.f163.name, by decide, Tryz.func163.trans (congrArg some (by kernel_rfl))⟩
 f50 := ⟨Tryz.f164.name, by decide, Tryz.func164.trans (congrArg some (by kernel_rfl))⟩
 f57 := ⟨Tryz.f169.name, by decide, Tryz.func169.trans (congrArg some (by kernel_rfl))⟩
 t0 := Tryz.underlying0
 a0 := Tryz.isAgg0
 z0 := Tryz.sizeOf0
 v0 := Tryz.zeroValue0
 t3 := Tryz.underlying3
 a3 := Tryz.isAgg3
 z3 := Tryz.sizeOf3
 v3 := Tryz.zeroValue3
 t4 := Tryz.underlying4
 a4 := Tryz.isAgg4
 z4 := Tryz.sizeOf4
 v4 := Tryz.zeroValue4
 t5 := Tryz.underlying5
 a5 := Tryz.isAgg5
 z5 := Tryz.sizeOf5
 v5 := Tryz.zeroValue5
 t9 := Tryz.underlying9
 a9 := Tryz.isAgg9
 z9 := Tryz.sizeOf9
 v9 := Tryz.zeroValue9
 t22 := Tryz.underlying26
 a22 := Tryz.isAgg26
 z22 := Tryz.sizeOf26
 v22 := Tryz.zeroValue26
 a24 := Tryz.isAgg34
 z24 := Tryz.sizeOf34
 t25 := Tryz.underlying138
 a25 := Tryz.isAgg138
 z25 := Tryz.sizeOf138
 v25 := Tryz.zeroValue138
 t39 := Tryz.underlying67
 a39 := Tryz.isAgg67
 z39 := Tryz.sizeOf67
 v39 := Tryz.zeroValue67
 t45 := Tryz.underlying166
 a45 := Tryz.isAgg166
 z45 := Tryz.sizeOf166
 v45 := Tryz.zeroValue166
 t46 := Tryz.underlying167
 a46 := Tryz.isAgg167
 z46 := Tryz.sizeOf167
 v46 := Tryz.zeroValue167
 t50 := Tryz.underlying171
 a50 := Tryz.isAgg171
 z50 := Tryz.sizeOf171
 v50 := Tryz.zeroValue171
 t53 := Tryz.underlying144
 a53 := Tryz.isAgg144
 z53 := Tryz.sizeOf144
 v53 := Tryz.zeroValue144
 t55 := Tryz.underlying175
 a55 := Tryz.isAgg175
 z55 := Tryz.sizeOf175
 v55 := Tryz.zeroValue175
 t66 := Tryz.underlying181
 a66 := Tryz.isAgg181
 z66 := Tryz.sizeOf181
 v66 := Tryz.zeroValue181
 t70 := Tryz.underlying185
 a70 := Tryz.isAgg185
 z70 := Tryz.sizeOf185
 v70 := Tryz.zeroValue185
 t76 := Tryz.underlying188
 a76 := Tryz.isAgg188
 z76 := Tryz.sizeOf188
 v76 := Tryz.zeroValue188
 t77 := Tryz.underlying189
 a77 := Tryz.isAgg189
 z77 := Tryz.sizeOf189
 v77 := Tryz.zeroValue189 }
end Go.Proofs
namespace Go.EV
open Go.Proofs
def Bu (M : Aa) : Type := { p : Value × List Int // SlC M 1 ei p.1 p.2 ∧ p.2.length < 1000000 }
instance (M : Aa) : Inhabited (Bu M) := ⟨⟨(.slice none 0 0, []), ⟨none, 0, rfl, lA5 _, .inl ⟨rfl, rfl⟩⟩, by decide⟩⟩
def Bu.v {M : Aa} (r : Bu M) : Value := r.1.1
def Bu.xs {M : Aa} (r : Bu M) : List Int := r.1.2
theorem Bu.one {M : Aa} (r : Bu M) : r.v.oneCell' = true := by
 obtain ⟨⟨v, xs⟩, ⟨a, c, h, _⟩, _⟩ := r
 show Value.oneCell' v = true
 dsimp only at h; rw [h]; rfl
theorem Bc4 (M : Aa) : Go.Sort.SWO (ltOf fun x y : Bu M => Da x.xs y.xs) where
 irrefl x := by simp [ltOf, Cu]
 trans x y z h1 h2 := by
  simp only [ltOf, decide_eq_true_eq] at *
  exact Dm _ _ _ h1 h2
 ntrans x y z h1 h2 := by
  simp only [ltOf, decide_eq_false_iff_not] at *
  intro h3
  rcases Ej x.xs y.xs with h | h | h
  ·exact h1 h
  ·rw [h] at h3; exact h2 h3
  ·exact h2 (Dm _ _ _ h h3)
section
variable {M : Aa}
theorem Af5 {b : Nat} {T : TypeId} {rs : List (Bu M)} {sp : List Value} {c : Nat} (hl : rs.length < 1000000000000) :
  Con Tryz.prog 87 #[.slice (some ⟨b, 0, none⟩) rs.length c, .func (.func 88) #[] #[]] M [(b, Cl T (rs.map Bu.v ++ sp))] fun v M' G' =>
   v = .tuple #[] ∧ M' = M ∧ ∃ ys : List (Bu M), ys.Perm rs ∧ ys.Pairwise (fun x y => ¬ Da y.xs x.xs < 0) ∧ G' = [(b, Cl T (ys.map Bu.v ++ sp))] := by
 have h := Con.sort (P := Tryz.prog) Tryz.sortRows (M := M) Bu.v Bu.one (fun x y => Da x.xs y.xs) (Bc4 M) (g := 88) rfl
  (fun x y => Ub x.xs y.xs x.v y.v x.2.1.sl y.2.1.sl x.2.2 y.2.2) (b := b) (T := T) (xs := rs) (sp := sp) (c := c) (by omega)
 refine ⟨h.1, fun w hs => (h.2 w hs).mono ?_⟩
 rintro e w' ⟨v, he, M', G', aZ, rfl, rfl, ys, h1, h2, h3⟩
 refine ⟨_, he, _, G', aZ, rfl, rfl, ys, h1, h2.imp fun {x y} h => by simpa [ltOf] using h, h3⟩
end
theorem Bu.slice {M : Aa} (r : Bu M) : ∃ a n c, r.v = .slice a n c := by
 obtain ⟨⟨v, xs⟩, ⟨a, c, h, _⟩, _⟩ := r
 exact ⟨a, xs.length, c, h⟩
section
variable {M : Aa}
def K8 (l : List (Bu M)) : Nat → List (Bu M)
 | 0 => []
 | n + 1 => K8 l n ++ (if n = 0 ∨ (l[n]!).xs ≠ (l[n - 1]!).xs then [l[n]!] else [])
def Y6 (l : List (Bu M)) : List (Bu M) := K8 l l.length
theorem Bc5 {α : Type} (f : α → Value) (xs : List α) (sp : List Value) {i : Nat} (hi : i < xs.length) (x : α) : (xs.map f ++ sp).take i ++ (f x :: (xs.map f ++ sp).drop (i + 1)) = (xs.set i x).map f ++ sp := by
 rw [lCv (by rw [lA1]; omega), lCu (by rw [lA1]; omega), ← lAl, ← lAc, Ao f xs hi x]
theorem Hq {l : List (Bu M)} {i : Nat} (h : i < l.length) : l[i]! = l[i] := getElem!_pos l i h
theorem Ue {b : Nat} {T : TypeId} {l : List (Bu M)} {sp : List Value} {c : Nat} (hl : l.length < 1000000000000) (hc : c = l.length + sp.length) :
  Con Tryz.prog 89 #[.slice (some ⟨b, 0, none⟩) l.length c, .func (.func 41) #[] #[]] M [(b, Cl T (l.map Bu.v ++ sp))] fun v M' G' =>
   M' = M ∧ ∃ sp', v = .slice (some ⟨b, 0, none⟩) (Y6 l).length c ∧ G' = [(b, Cl T ((Y6 l).map Bu.v ++ sp'))] ∧ c = (Y6 l).length + sp'.length := by
 have gH : ∀ (x y : Bu M) (G : Own), As Tryz.prog 41 #[x.v, y.v] (M.add G) (vb (decide (x.xs = y.xs))) := fun x y G =>
  Yw x.xs y.xs x.v y.v (x.2.1.sl.mono (JB _ _)) (y.2.1.sl.mono (JB _ _)) x.2.2 y.2.2
 refine Con.enter Q108_ok (args := [.slice (some ⟨b, 0, none⟩) l.length c, .func (.func 41) #[] #[]]) (by simp [Bd9]) fun w0 => ?_
 simp only [Bd9, A9]
 repeat' first | refine st ?_ | refine rg ?_ | (refine cX ?_ ?_ <;> intro h <;> try exact Ai h) | exact ⟨⟩ | fail
 ·have aO : Y6 l = l := by
   rcases l with _ | ⟨x, _ | ⟨y, l⟩⟩
   ·rfl
   ·simp [Y6, K8]
   ·exfalso; simp at h; omega
  (refine rt Q108_ok ?_; try with_reducible exact ⟨⟩)
  rw [aO]; first | exact ⟨rfl, sp, rfl, hc⟩ | exact ⟨sp, rfl, hc⟩ | exact ⟨sp, hc⟩ | exact ⟨sp, c, rfl, rfl, hc⟩ | exact ⟨rfl, sp, c, rfl, rfl, hc⟩ | exact ⟨sp, c, rfl, hc⟩ | fail
 ·have h2 : 2 ≤ l.length := by omega
  refine JC (fun i : Nat => ([(0, .slice (some ⟨b, 0, none⟩) l.length c), (1, .func (.func 41) #[] #[]), (5, vi i)], M, [(b, Cl T (l.map Bu.v ++ sp))])) (fun i => 1 ≤ i ∧ i ≤ l.length ∧ K8 l i = l.take i) (fun i => l.length - i) 1 rfl ⟨lA5 _, by omega, by rw [K8, K8, if_pos (.inl rfl), Hq (by omega), lAg]; cases l with | nil => simp at h2 | cons x l => rfl⟩ ?env1 (lA0 _) ?_
  case env1 =>
   exact eE
  rintro i ⟨rQ, hi, lO⟩ ih
  dsimp only at rQ hi lO ih ⊢
  repeat' first | refine st ?_ | refine rg ?_ | (refine cX ?_ ?_ <;> intro h <;> try exact Ai h) | exact ⟨⟩ | fail
  ·have aC : i < l.length := by omega
   have aT : IntKind.i64.wrap ((i : Int) - 1) = ((i - 1 : Nat) : Int) := by rw [w64 (by omega) (by omega)]; omega
   have aR := Xc (M := M) (G := [(b, Cl T (l.map Bu.v ++ sp))]) (b := b) (T := T) (f := Bu.v) (xs := l) (sp := sp) aC
   have aW := Xc (M := M) (G := [(b, Cl T (l.map Bu.v ++ sp))]) (b := b) (T := T) (f := Bu.v) (xs := l) (sp := sp) (i := i - 1) (by omega)
   obtain ⟨a1, n1, c1, e1⟩ := (l[i]).slice
   obtain ⟨a2, n2, c2, e2⟩ := (l[i - 1]'(by omega)).slice
   have hq := gH l[i] (l[i - 1]'(by omega))
   rw [e1, e2] at hq
   rw [e1] at aR
   rw [e2] at aW
   have gu : K8 l (i + 1) = K8 l i ++ (if (l[i]).xs ≠ (l[i - 1]'(by omega)).xs then [l[i]] else []) := by
    rw [K8, Hq aC, Hq (show i - 1 < l.length by omega)]
    simp only [show ¬ i = 0 by omega, false_or]
   refine EV.any (t := W9) [(b, Cl T (l.map Bu.v ++ sp))] (lA0 _) ?_
   simp only [An, Aq, Al, Au, reduceIte, Nat.reduceEqDiff]
   by_cases ap : (l[i]).xs = (l[i - 1]'(by omega)).xs
   ·have hd : decide ((l[i]).xs = (l[i - 1]'(by omega)).xs) = true := decide_eq_true ap
    rw [hd] at hq
    rw [if_neg (by simpa using ap), lAa, lO] at gu
    refine Cv5 (t := W9) rfl (fun lq tq aD aA => ?_)
    repeat' first | ((first | refine zo (fun lq aD => ?_) | refine zl ?_ | fail); (repeat first | refine nz ?_ | simp only [aT])) | refine zq (fun lq tq aD aA => ?_) | ((first | refine As.call (hq _) ?_ | refine lA9 _ (lA9 _ (lA9 _ (lAd (aR) ?_))) | refine lA9 _ (lA9 _ (lA9 _ (lAd (aW) ?_))) | fail); (repeat first | refine nz ?_ | simp only [aT])) | (refine ZB (fun tq aA => ?_) (fun tq aA => ?_) <;> (repeat first | refine nz ?_ | simp only [aT])) | exact zn | refine zf ?_ | refine ZF ?_ | fail
    repeat' first | refine st ?_ | refine rg ?_ | (refine cX ?_ ?_ <;> intro h <;> try exact Ai h) | exact ⟨⟩ | fail
    simp only [lC6, Cw]
    refine ⟨i, rfl, by omega, by omega, Or.inr rfl, ?_⟩
    obtain ⟨ro, bW, ero⟩ := Sb (wb := b) (wo := 0) (n := l.length) (c := c) (i := i) (by omega)
    have ga : ro = i := by have := bW aC; omega
    subst ga
    rw [ero]
    clear bW ero
    repeat' first | refine st ?_ | refine rg ?_ | exact ⟨⟩ | fail
    have kJ : (K8 l (ro + 1)).length = ro := by rw [gu, lC0]; omega
    refine JC (fun x : Nat × List (Bu M) => ([(0, .slice (some ⟨b, 0, none⟩) l.length c), (1, .func (.func 41) #[] #[]), (5, vi (K8 l (ro + x.1)).length), (6, .slice (some ⟨b, ro, none⟩) (l.length - ro) (c - ro)), (7, vi x.1)], M, [(b, Cl T (x.2.map Bu.v ++ sp))]))
     (fun x => 1 ≤ x.1 ∧ ro + x.1 ≤ l.length ∧ x.2.length = l.length ∧ x.2.take (K8 l (ro + x.1)).length = K8 l (ro + x.1) ∧ (K8 l (ro + x.1)).length + 1 ≤ ro + x.1 ∧ ∀ j, ro + x.1 ≤ j + 1 → x.2[j]? = l[j]?) (fun x => l.length - (ro + x.1)) (1, l) rfl ⟨lA5 _, by dsimp only; omega, rfl, by dsimp only; rw [kJ, gu], by dsimp only; omega, fun j _ => rfl⟩ ?env2 (lA0 _) ?_
    case env2 =>
     simp only [kJ]
     exact eE
    rintro ⟨k, C⟩ ⟨bs, hk, oC, oD, tc, mh⟩ ih2
    dsimp only at bs hk oC oD tc mh ih2 ⊢
    repeat' first | refine st ?_ | refine rg ?_ | (refine cX ?_ ?_ <;> intro h <;> try exact Ai h) | exact ⟨⟩ | fail
    ·have ak : ro + k < l.length := by omega
     have g1 : C[ro + k]'(by omega) = l[ro + k] := by
      have := mh (ro + k) (by omega)
      rw [lA2 (by omega), lA2 ak] at this
      exact Option.some.inj this
     have g2 : C[ro + (k - 1)]'(by omega) = l[ro + (k - 1)]'(by omega) := by
      have := mh (ro + (k - 1)) (by omega)
      rw [lA2 (by omega), lA2 (by omega)] at this
      exact Option.some.inj this
     have dD : IntKind.i64.wrap ((k : Int) - 1) = ((k - 1 : Nat) : Int) := by rw [w64 (by omega) (by omega)]; omega
     have cw := Xc (M := M) (G := [(b, Cl T (C.map Bu.v ++ sp))]) (b := b) (T := T) (f := Bu.v) (xs := C) (sp := sp) (i := ro + k) (by omega)
     have iM := Xc (M := M) (G := [(b, Cl T (C.map Bu.v ++ sp))]) (b := b) (T := T) (f := Bu.v) (xs := C) (sp := sp) (i := ro + (k - 1)) (by omega)
     rw [g1] at cw
     rw [g2] at iM
     obtain ⟨a3, n3, c3, e3⟩ := (l[ro + k]).slice
     obtain ⟨a4, n4, c4, e4⟩ := (l[ro + (k - 1)]'(by omega)).slice
     have k8 := gH l[ro + k] (l[ro + (k - 1)]'(by omega))
     rw [e3, e4] at k8
     rw [e3] at cw
     rw [e4] at iM
     have eu : K8 l (ro + (k + 1)) = K8 l (ro + k) ++ (if (l[ro + k]).xs ≠ (l[ro + (k - 1)]'(by omega)).xs then [l[ro + k]] else []) := by
      rw [← lDa, K8, Hq ak, Hq (show ro + k - 1 < l.length by omega)]
      simp only [show ¬ ro + k = 0 by omega, false_or, show ro + k - 1 = ro + (k - 1) by omega]
     refine EV.any (t := Xa) [(b, Cl T (C.map Bu.v ++ sp))] (lA0 _) ?_
     simp only [An, Aq, Al, Au, reduceIte, Nat.reduceEqDiff]
     by_cases d5 : (l[ro + k]).xs = (l[ro + (k - 1)]'(by omega)).xs
     ·have eX : decide ((l[ro + k]).xs = (l[ro + (k - 1)]'(by omega)).xs) = true := decide_eq_true d5
      rw [eX] at k8
      rw [if_neg (by simpa using d5), lAa] at eu
      refine Cv5 (t := Xa) rfl (fun lq tq aD aA => ?_)
      repeat' first | ((first | refine zo (fun lq aD => ?_) | refine zl ?_ | fail); (repeat first | refine nz ?_ | simp only [dD])) | refine zq (fun lq tq aD aA => ?_) | ((first | refine As.call (k8 _) ?_ | refine lA9 _ (lA9 _ (lA9 _ (lAd (cw) ?_))) | refine lA9 _ (lA9 _ (lA9 _ (lAd (iM) ?_))) | fail); (repeat first | refine nz ?_ | simp only [dD])) | (refine ZB (fun tq aA => ?_) (fun tq aA => ?_) <;> (repeat first | refine nz ?_ | simp only [dD])) | exact zn | refine zf ?_ | refine ZF ?_ | fail
      repeat' first | refine su ?_ | refine rg ?_ | (refine cX ?_ ?_ <;> intro h <;> try exact Ai h) | exact ⟨⟩ | fail
      refine JA (ih2 (k + 1, C) ⟨by dsimp only; omega, by dsimp only; omega, oC, by dsimp only; rw [eu]; exact oD, by dsimp only; rw [eu]; omega, fun j hj => mh j (by dsimp only at hj; omega)⟩ (by dsimp only; omega)) ?_ (lA0 _)
      simp only [eu]
      exact eE
     ·have eX : decide ((l[ro + k]).xs = (l[ro + (k - 1)]'(by omega)).xs) = false := decide_eq_false d5
      rw [eX] at k8
      rw [if_pos d5] at eu
      refine Cv5 (t := Xa) rfl (fun lq tq aD aA => ?_)
      repeat' first | ((first | refine zo (fun lq aD => ?_) | refine zl ?_ | fail); (repeat first | refine nz ?_ | simp only [dD])) | refine zq (fun lq tq aD aA => ?_) | ((first | refine As.call (k8 _) ?_ | refine lA9 _ (lA9 _ (lA9 _ (lAd (cw) ?_))) | refine lA9 _ (lA9 _ (lA9 _ (lAd (iM) ?_))) | fail); (repeat first | refine nz ?_ | simp only [dD])) | (refine ZB (fun tq aA => ?_) (fun tq aA => ?_) <;> (repeat first | refine nz ?_ | simp only [dD])) | exact zn | refine zf ?_ | refine ZF ?_ | fail
      repeat' first | refine st ?_ | refine rg ?_ | (refine cX ?_ ?_ <;> intro h <;> try exact Ai h) | refine ZF ?_ | (refine lA9 _ (lA9 _ (lA9 _ (lAd (by assumption) ?_))); try refine nx ?_) | (refine xw ?_; refine nx ?_) | exact ⟨⟩ | fail
      refine ⟨by rw [lA4, lA1]; omega, ?_⟩
      rw [← e3, Bc5 Bu.v C sp (show (K8 l (ro + k)).length < C.length by omega)]
      have k9 : (K8 l (ro + (k + 1))).length = (K8 l (ro + k)).length + 1 := by rw [eu, lA4, lC3]
      repeat' first | refine su ?_ | refine rg ?_ | exact ⟨⟩ | fail
      refine JA (ih2 (k + 1, C.set (K8 l (ro + k)).length l[ro + k]) ⟨by dsimp only; omega, by dsimp only; omega, by rw [lBh]; exact oC, ?_, by dsimp only; rw [k9]; omega, fun j hj => ?_⟩ (by dsimp only; omega)) ?_ (lA0 _)
      ·dsimp only
       rw [k9, eu, lA7 (by rw [lBh]; omega), lDi, List.take_set, List.set_eq_of_length_le (by rw [lC0]; omega), oD]
      ·dsimp only at hj ⊢
       rw [List.getElem?_set_ne (by omega)]; exact mh j (by omega)
      ·simp only [k9]
       exact eE
    ·have dY : ro + k = l.length := by omega
     have td : Y6 l = K8 l (ro + k) := by rw [Y6, dY]
     generalize hm : K8 l (ro + k) = m at *
     simp only [lC6, Cw]
     refine ⟨m.length, rfl, by omega, by omega, Or.inr rfl, ?_⟩
     obtain ⟨r2, kT, er2⟩ := Sb (wb := b) (wo := 0) (n := l.length) (c := c) (i := m.length) (by omega)
     have cw : r2 = m.length := by have := kT (by omega); omega
     subst cw
     rw [er2]
     refine Or.inr ⟨b, m.length, rfl, by omega, T, C.map Bu.v ++ sp, [], [], rfl, by rw [lA4, lA1]; omega, ?_⟩
     have te : (C.map Bu.v ++ sp).take m.length = m.map Bu.v := by
      rw [lCv (by rw [lA1]; omega), ← List.map_take, oD]
     rw [te]
     have ml : (C.map Bu.v ++ sp).length = l.length + sp.length := by rw [lA4, lA1, oC]
     generalize cP : (List.replicate (l.length - m.length) (Value.slice none 0 0) ++ List.drop (m.length + (List.replicate (l.length - m.length) (Value.slice none 0 0)).length) (C.map Bu.v ++ sp)) = sp'
     have ft : c = m.length + sp'.length := by
      rw [← cP, lA4, lDs, ml, lDf]; omega
     rw [lAg]
     repeat' first | refine st ?_ | refine rg ?_ | exact ⟨⟩ | fail
     simp only [lC6, Cw]
     refine ⟨m.length, rfl, by omega, Or.inl rfl, ?_⟩
     rw [Bb6]
     repeat' first | fail
     (refine rt Q108_ok ?_; try with_reducible exact ⟨⟩)
     rw [td]; first | exact ⟨rfl, sp', rfl, ft⟩ | exact ⟨sp', rfl, ft⟩ | exact ⟨sp', ft⟩ | exact ⟨sp', c, rfl, rfl, ft⟩ | exact ⟨rfl, sp', c, rfl, rfl, ft⟩ | exact ⟨sp', c, rfl, ft⟩ | fail
   ·have hd : decide ((l[i]).xs = (l[i - 1]'(by omega)).xs) = false := decide_eq_false ap
    rw [hd] at hq
    rw [if_pos ap, lO, ← lA7 aC] at gu
    refine Cv5 (t := W9) rfl (fun lq tq aD aA => ?_)
    repeat' first | ((first | refine zo (fun lq aD => ?_) | refine zl ?_ | fail); (repeat first | refine nz ?_ | simp only [aT])) | refine zq (fun lq tq aD aA => ?_) | ((first | refine As.call (hq _) ?_ | refine lA9 _ (lA9 _ (lA9 _ (lAd (aR) ?_))) | refine lA9 _ (lA9 _ (lA9 _ (lAd (aW) ?_))) | fail); (repeat first | refine nz ?_ | simp only [aT])) | (refine ZB (fun tq aA => ?_) (fun tq aA => ?_) <;> (repeat first | refine nz ?_ | simp only [aT])) | exact zn | refine zf ?_ | refine ZF ?_ | fail
    repeat' first | refine su ?_ | refine rg ?_ | (refine cX ?_ ?_ <;> intro h <;> try exact Ai h) | exact ⟨⟩ | fail
    refine JA (ih (i + 1) ⟨by omega, by omega, gu⟩ (by omega)) ?_ (lA0 _)
    exact eE
  ·have bO : i = l.length := by omega
   subst bO
   have aO : Y6 l = l := by rw [Y6, lO, lB1]
   (refine rt Q108_ok ?_; try with_reducible exact ⟨⟩)
   rw [aO]; first | exact ⟨rfl, sp, rfl, hc⟩ | exact ⟨sp, rfl, hc⟩ | exact ⟨sp, hc⟩ | exact ⟨sp, c, rfl, rfl, hc⟩ | exact ⟨rfl, sp, c, rfl, rfl, hc⟩ | exact ⟨sp, c, rfl, hc⟩ | fail
end
section
variable {M : Aa}
theorem Uf (l : List (Bu M)) (hs : l.Pairwise (fun x y => ¬ Da y.xs x.xs < 0)) : ∀ n, n ≤ l.length →
  (K8 l n).Pairwise (fun x y => Da x.xs y.xs < 0) ∧ (∀ x, x ∈ (K8 l n).map Bu.xs ↔ x ∈ (l.take n).map Bu.xs) ∧ (0 < n → ∃ y, (K8 l n).getLast? = some y ∧ y.xs = (l[n - 1]!).xs)
 | 0, _ => ⟨List.Pairwise.nil, fun x => by simp [K8], fun h => absurd h (Nat.lt_irrefl _)⟩
 | n + 1, hn => by
  obtain ⟨h1, h2, h3⟩ := Uf l hs n (by omega)
  have jw : n < l.length := by omega
  have ht : l.take (n + 1) = l.take n ++ [l[n]] := lA7 jw
  rw [K8, Hq jw, ht, lEs, Hq jw]
  by_cases hc : n = 0 ∨ (l[n]).xs ≠ (l[n - 1]!).xs
  ·rw [if_pos hc]
   refine ⟨?_, fun x => ?_, fun _ => ⟨l[n], by simp, rfl⟩⟩
   ·rw [List.pairwise_append]
    refine ⟨h1, List.pairwise_singleton .., fun x hx y hy => ?_⟩
    rw [lAk] at hy
    subst hy
    have tf : x.xs ∈ (l.take n).map Bu.xs := (h2 _).1 (lAi.2 ⟨x, hx, rfl⟩)
    obtain ⟨x', eN, cE⟩ := lAi.1 tf
    obtain ⟨j, hj, rfl⟩ := lBf eN
    have ia : j < n := by simp at hj; omega
    rw [lEj] at cE
    have hne : n ≠ 0 := by omega
    have ja : (l[n]).xs ≠ (l[n - 1]!).xs := hc.resolve_left hne
    rw [Hq (show n - 1 < l.length by omega)] at ja
    rw [← cE]
    have hp := lBb.1 hs
    rcases Ej (l[j]'(by omega)).xs (l[n]).xs with h | h | h
    ·exact h
    ·exfalso
     have ha : ¬ Da (l[n]).xs (l[n - 1]'(by omega)).xs < 0 := hp (n - 1) n (by omega) jw (by omega)
     have hb : ¬ Da (l[n - 1]'(by omega)).xs (l[j]'(by omega)).xs < 0 := by
      by_cases tg : j = n - 1
      ·subst tg; rw [Cu]; omega
      ·exact hp j (n - 1) (by omega) (by omega) (by omega)
     rcases Ej (l[n]).xs (l[n - 1]'(by omega)).xs with k | k | k
     ·exact ha k
     ·exact ja k
     ·rw [← h] at k; exact hb k
    ·exact absurd h (hp j n (by omega) jw ia)
   ·rw [lAu, lAu, lBa, lBa, h2 x]
  ·rw [if_neg hc, lAa]
   have fT : 0 < n := by omega
   have ap : (l[n]).xs = (l[n - 1]!).xs := by
    apply lBc; intro h; exact hc (.inr h)
   refine ⟨h1, fun x => ?_, fun _ => ?_⟩
   ·rw [h2 x, lAu, lBa]
    constructor
    ·intro h; exact .inl h
    ·rintro (h | h)
     ·exact h
     ·simp only [lDx, lAk] at h
      rw [h, ap, Hq (show n - 1 < l.length by omega)]
      exact lAi.2 ⟨_, List.mem_take_iff_getElem.2 ⟨n - 1, by omega, rfl⟩, rfl⟩
   ·obtain ⟨y, hy, ti⟩ := h3 fT
    exact ⟨y, hy, by rw [ti, ap]⟩
theorem Af6 (l : List (Bu M)) (hs : l.Pairwise (fun x y => ¬ Da y.xs x.xs < 0)) :
  (Y6 l).Pairwise (fun x y => Da x.xs y.xs < 0) ∧ ∀ x, x ∈ (Y6 l).map Bu.xs ↔ x ∈ l.map Bu.xs := by
 obtain ⟨h1, h2, _⟩ := Uf l hs l.length (lA5 _)
 exact ⟨h1, fun x => by rw [← lB1 (l := l)]; simpa [Y6] using h2 x⟩
theorem Ku {b cap : Nat} {T : TypeId} {sp : List Value} (rs : List (Bu M)) (hl : rs.length < 1000000) (hc : cap = rs.length + sp.length) :
  Con Tryz.prog 36 #[.slice (some ⟨b, 0, none⟩) rs.length cap] M [(b, Cl T (rs.map Bu.v ++ sp))] fun v M' G' =>
   M' = M ∧ ∃ (ys : List (Bu M)) (sp' : List Value), v = .slice (some ⟨b, 0, none⟩) ys.length cap ∧ G' = [(b, Cl T (ys.map Bu.v ++ sp'))] ∧ cap = ys.length + sp'.length ∧
    ys.Pairwise (fun x y => Da x.xs y.xs < 0) ∧ ∀ x, x ∈ ys.map Bu.xs ↔ x ∈ rs.map Bu.xs := by
 refine Con.enter Q3_ok (args := [.slice (some ⟨b, 0, none⟩) rs.length cap]) (by simp [Q3]) fun w0 => ?_
 simp only [Q3, A9]
 repeat' first | refine st ?_ | refine rg ?_ | exact ⟨⟩ | fail
 refine Con.run (Af5 (b := b) (T := T) (rs := rs) (sp := sp) (c := cap) (by omega)) ?_
 rintro v M' G' hM ⟨rfl, rfl, ys, hp, hs, rfl⟩
 have pq := hp.length_eq
 repeat' first | refine st ?_ | refine rg ?_ | exact ⟨⟩ | fail
 rw [← pq]
 refine Con.run (Ue (b := b) (T := T) (l := ys) (sp := sp) (c := cap) (by omega) (by omega)) ?_
 rintro v M2 G2 bZ ⟨rfl, sp', rfl, rfl, cJ⟩
 repeat' first | fail
 (refine rt Q3_ok ?_; try with_reducible exact ⟨⟩)
 obtain ⟨k1, k2⟩ := Af6 ys hs
 exact ⟨Y6 ys, rfl, sp', rfl, cJ, k1, fun x => by rw [k2 x]; exact (hp.map Bu.xs).mem_iff⟩
theorem Pb (fv : Value) : Con Tryz.prog 89 #[.slice none 0 0, fv] M [] fun v M' G' => M' = M ∧ v = .slice none 0 0 ∧ G' = [] := by
 refine Con.enter Q108_ok (args := [.slice none 0 0, fv]) (by simp [Bd9]) fun w0 => ?_
 simp only [Bd9, A9]
 repeat' first | refine st ?_ | refine rg ?_ | (refine cX ?_ ?_ <;> intro h <;> try exact Ai h) | exact ⟨⟩ | fail
 (refine rt Q108_ok ?_; try with_reducible exact ⟨⟩)
theorem Nj : Con Tryz.prog 36 #[.slice none 0 0] M [] fun v M' G' => v = .slice none 0 0 ∧ G' = [] := by
 refine Con.enter Q3_ok (args := [.slice none 0 0]) (by simp [Q3]) fun w0 => ?_
 simp only [Q3, A9]
 repeat' first | refine st ?_ | refine rg ?_ | exact ⟨⟩ | fail
 refine Con.run (G := []) (Con.sortNone (P := Tryz.prog) (ρ := Tryz.sortRows_ren) (M := M) (by have L := Tryz.sortRows; exact { L with }) rfl none 0 _) ?_
 rintro v M' G' hM ⟨rfl, rfl⟩
 repeat' first | refine st ?_ | refine rg ?_ | exact ⟨⟩ | fail
 refine Con.run (Pb _) ?_
 rintro v M2 G2 bZ ⟨rfl, rfl, rfl⟩
 repeat' first | fail
 (refine rt Q3_ok ?_; try with_reducible exact ⟨⟩)
end
def Bu.up {M M' : Aa} (h : M.le M') (r : Bu M) : Bu M' := ⟨r.1, r.2.1.mono h, r.2.2⟩
theorem Bu.up_v {M M' : Aa} (h : M.le M') (l : List (Bu M)) : (l.map (Bu.up h)).map Bu.v = l.map Bu.v := by rw [lE2]; rfl
theorem Bu.up_xs {M M' : Aa} (h : M.le M') (l : List (Bu M)) : (l.map (Bu.up h)).map Bu.xs = l.map Bu.xs := by rw [lE2]; rfl
section
variable {M : Aa}
def Cz5 (p : List Ev) (bx : Nat) (os : List (List Int)) (M : Aa) (G : Own) : Prop :=
 ∃ (rs : List (Bu M)) (ov : Vec), G = (bx, Cl 26 [osv ov rs.length]) :: osg 34 ov (rs.map Bu.v) ∧ Eo 1 ov rs.length (rs.map Bu.v) ∧ rs.length ≤ 421875 ∧ (∀ x, x ∈ rs.map Bu.xs ↔ x ∈ os) ∧ ∀ x, x ∈ os → T9 p x
theorem Cz5.mono {p : List Ev} {bx : Nat} {os : List (List Int)} {M M' : Aa} {G : Own} (a8 : M.le M') (h : Cz5 p bx os M G) : Cz5 p bx os M' G := by
 obtain ⟨rs, ov, h1, h2, h3, h4⟩ := h
 refine ⟨rs.map (Bu.up a8), ov, ?_, ?_, by rw [lA1]; exact h3, by rw [Bu.up_xs]; exact h4.1, h4.2⟩
 ·rw [Bu.up_v, lA1]; exact h1
 ·rw [Bu.up_v, lA1]; exact h2
theorem Kv (ts : List (List OpV)) (s : Value) (hs : Ee M 5 Bb s ts) (hb : Sized ts) :
  Con Tryz.prog 11 #[.agg #[s]] M [] fun v M' _ => (A2 ts ≠ 0 ∧ v = .tuple #[.slice none 0 0, vi (A2 ts)]) ∨ (A2 ts = 0 ∧ ∃ s' outs, v = .tuple #[s', vi 0] ∧ Z4 (Ad ts) outs ∧ D4 M' 1 ei s' outs) := by
 have aK := hs
 obtain ⟨a, c, vs, rfl, hl, aH, hk⟩ := hs
 refine Con.enter Q2_ok (args := [.agg #[.slice a ts.length c]]) (by simp [Q2]) fun w0 => ?_
 simp only [Q2, A9]
 repeat' first | refine st ?_ | refine rg ?_ | ((first | with_reducible intro b | refine xrA rfl ?_ | fail); try refine nx ?_) | exact ⟨⟩ | fail
 refine Con.callS (G1 := []) (Ad6 ts _ aK hb) ?_
 rintro v M1 G1 bw ⟨rfl, (⟨hne, rfl⟩ | ⟨aM, s', rfl, bm⟩)⟩
 ·simp only [wpS, wpA, J2, push_cast, lBd, reduceIte, Nat.reduceEqDiff, reduceCtorEq, Nat.reduceAdd, Nat.reduceSub, Nat.reduceMul, Int.reduceToNat, Nat.reduceLeDiff]
  repeat' first | refine st ?_ | (refine EV.reg ?_; (conv => (arg 2; whnf)); (repeat first | refine nx ?_ | simp only [hne])) | (refine cX ?_ ?_ <;> intro h <;> try exact Ai h) | (with_reducible intro b; (repeat first | refine nx ?_ | simp only [hne])) | (refine xw ?_; (repeat first | refine nx ?_ | simp only [hne])) | fail
  (refine rt Q2_ok ?_; try with_reducible exact ⟨⟩)
  first | exact .inl ⟨hne, rfl⟩ | exact .inl hne | exact hne | simp [hne] | fail
 ·have hp := Ho aM
  have iH := bm
  obtain ⟨pa, pc, rfl, aw⟩ := iH
  (refine nx ?_; try with_reducible exact ⟨⟩)
  repeat' first | refine st ?_ | refine rg ?_ | (refine cX ?_ ?_ <;> intro h <;> try exact Ai h) | ((first | with_reducible intro b | refine xsA rfl ?_ | fail); try refine nx ?_) | (refine xw ?_; refine nx ?_) | exact ⟨⟩ | fail
  refine Con.callS (G1 := []) (Rg _ hp bm) ?_
  rintro v M2 G2 bZ ⟨g2, caps2, rfl, gq⟩
  repeat' first | refine su ?_ | fail
  rename_i lb pb
  obtain ⟨ab, rfl⟩ : ∃ ab, ab = b := ⟨_, rfl⟩
  refine JG [(ab, Cl 26 [.slice none 0 0])] ?_
  generalize hR : M2.add _ = N
  have aB : M2.le N := hR ▸ JB _ _
  have iu : rd N pb 0 1 [.slice pa (Ad ts).length pc] := hR ▸ B3 (T := 74) (cs := [.slice pa (Ad ts).length pc]) (by simp) rfl (by simp)
  clear hR
  have pu := bm.mono (Aa.le_trans bZ aB)
  have pw := gq.mono aB
  refine JD (ρ' := [(4, pv pb 0), (6, pv ab 0), (17, .func (.func g2) #[] caps2)]) (G' := [(ab, Cl 26 [.slice none 0 0])]) ?_ ?env1
  case env1 =>
   exact eE
  refine EV.overM rfl rfl rfl pw (fun d es M G' => ∃ G0, G'.Perm ((d, Obj.deferred (some [])) :: G0) ∧ Cz5 (Ad ts) ab (es.map (Ar (Ad ts))) M G0)
   (fun d c M G' => False) ?_ ?_ ?_ ?_ ?_ ?_
  ·rintro d es M4 M5 G4 a8 ⟨G0, h1, h2⟩
   exact ⟨G0, h1, h2.mono a8⟩
  ·rintro d c M4 M5 G4 a8 h
   exact h
  ·intro d
   exact ⟨_, lAe _, [], none, rfl, ⟨rfl, rfl⟩, lA8 _, fun x => by simp, fun x h => nomatch h⟩
  ·intro l d r aR aW es e v M4 G4 w1 F he cO ⟨G0, dI, rs, ov, dR, aL, aG, aI, jb⟩ d4
   subst dR
   refine JF ?_ (lCh _ dI)
   have hx := execsP_ok hp he
   have gm : IsX M4 v e := d4
   obtain ⟨xf, xd, xo, xn, rfl, ⟨fa, fc, rfl, _⟩, ⟨da, dc, rfl, _⟩, ⟨oa, oc, ovs, rfl, _, _, _⟩, ⟨na, nc, rfl, _⟩⟩ := d4
   repeat' first | refine rg ?_ | (with_reducible intro b; try refine nx ?_) | (refine xw ?_; refine nx ?_) | exact ⟨⟩ | fail
   refine EV.frz [(b, Cl 45 [.slice fa e.frm.length fc, .slice da e.dn.length dc, .slice oa e.ord.length oc, .slice na e.fen.length nc])] ?_
   generalize hR : M4.add _ = N4
   have cY : M4.le N4 := hR ▸ JB _ _
   have c7 : rd N4 b 0 4 [.slice fa e.frm.length fc, .slice da e.dn.length dc, .slice oa e.ord.length oc, .slice na e.fen.length nc] := hR ▸ Ap 0 rfl rfl (by simp)
   clear hR
   refine JP aR ?_
   refine EV.block (EV.seq ?_)
   have tj := iu.mono (Aa.le_trans cO cY)
   have tk := pu.mono (Aa.le_trans cO cY)
   have aa := fun G => T7 (M := N4.add G) (Ad ts) _ (tk.mono (JB _ _)) hp e _ (gm.mono (Aa.le_trans cY (JB _ _))) hx
   refine EV.any (t := Fe4) [(ab, Cl 26 [osv ov rs.length])] (lAp _ (lAp _ (lAf _ (lAh _)))) ?_
   simp only [An, Aq, Al, Au, reduceIte, Nat.reduceEqDiff]
   repeat' first | ((first | refine zo (fun lq aD => ?_) | refine zl ?_ | fail); try refine nz ?_) | refine zq (fun lq tq aD aA => ?_) | ((with_reducible refine JK (aa _) ?_) ;  rintro v1 M1 G1 ⟨o1, rfl, bQ, rfl⟩; try refine nz ?_) | (refine ZA (fun tq aA => ?_) (fun tq aA => ?_) <;> try refine nz ?_) | (refine ZB (fun tq aA => ?_) (fun tq aA => ?_) <;> try refine nz ?_) | exact zn | ((first | with_reducible intro b | refine xm ?_ | refine xn ?_ | refine xsA rfl ?_ | refine lAd (Aa.le_refl _) (lAd (Ay ?_) ?_); focus ((repeat' first | exact lA0 _ | exact lAh _ | exact lAj _ _ | refine lAf _ ?_ | refine lAo ?_ _ | refine lAb ?_ | refine lAp _ ?_); done) | fail); try refine nz ?_) | exact ⟨⟩ | fail
   refine ⟨[osv o1 (Ar (Ad ts) e).length], Or.inr ⟨_, 0, rfl, B3 (T := 34) (cs := [osv o1 (Ar (Ad ts) e).length]) (by simp) rfl (by simp)⟩, by simp [Bp, Cb, Value.oneCell'], Or.inl ⟨ov, _, rfl, _, aL, _, PullL.p, by simp only [maxLen]; omega, by omega, fun o2 an uu => ?_⟩⟩
   repeat' first | (refine zl ?_; try refine nz ?_) | refine zq (fun lq tq aD aA => ?_) | (refine ZB (fun tq aA => ?_) (fun tq aA => ?_) <;> try refine nz ?_) | exact zn | refine zf ?_ | (refine xw ?_; try refine nz ?_) | exact ⟨⟩ | fail
   refine JG ((l, Obj.loop { r with state := .busy }) :: (d, Obj.deferred (some [])) :: (ab, Cl 26 [osv o2 (rs.length + 1)]) :: osg 34 o2 (rs.map Bu.v ++ [osv o1 (Ar (Ad ts) e).length])) ?_
   generalize hR : N4.add _ = N5
   have kd : N4.le N5 := hR ▸ JB _ _
   have cI : SlC N5 1 ei (osv o1 (Ar (Ad ts) e).length) (Ar (Ad ts) e) := hR ▸ Gf (T := 3) bQ rfl (fun q hq => by simp [hq])
   clear hR
   have bC : (Ar (Ad ts) e).length < 1000000 := by
    have h1 := Cf (Ad ts) (Aw (Ad ts) e.frm) (Ad ts).length
    have h2 := hp.len
    have h3 := hx.ol
    unfold Ar
    rw [lA4, lA1]; omega
   have px := Aa.le_trans cY kd
   obtain ⟨rs5, iv⟩ : ∃ rs5 : List (Bu N5), rs5 = rs.map (Bu.up px) ++ [⟨(osv o1 (Ar (Ad ts) e).length, Ar (Ad ts) e), cI, bC⟩] := ⟨_, rfl⟩
   have tm : rs.map Bu.v ++ [osv o1 (Ar (Ad ts) e).length] = rs5.map Bu.v := by rw [iv, lAu, Bu.up_v]; rfl
   have oE : rs5.map Bu.xs = rs.map Bu.xs ++ [Ar (Ad ts) e] := by rw [iv, lAu, Bu.up_xs]; rfl
   have ny : rs5.length = rs.length + 1 := by rw [iv, lA4, lA1]; rfl
   have py : ∀ x, x ∈ rs5.map Bu.xs ↔ x ∈ (es ++ [e]).map (Ar (Ad ts)) := by
    intro x
    rw [oE, lBa, aI, lAu, lBa]; rfl
   rw [tm, ← ny] at an ⊢
   clear cI iv
   have gv : ∀ x, x ∈ (es ++ [e]).map (Ar (Ad ts)) → T9 (Ad ts) x := by
    intro x h
    rw [lAu, lBa] at h
    rcases h with h | h
    ·exact jb x h
    ·simp only [lDx, lAk] at h
     exact ⟨e, he, h.symm⟩
   repeat' first | refine st ?_ | refine rg ?_ | (refine cX ?_ ?_ <;> intro h <;> try exact Ai h) | (refine xsA rfl ?_; try refine nx ?_) | exact ⟨⟩ | fail
   ·rcases o2 with _ | ⟨rb, cap, sp⟩
    ·obtain ⟨h0, _⟩ := an
     omega
    ·obtain ⟨_, cP, _, pz⟩ := an
     simp only [osg, Ft, Et]
     refine Con.callS (G1 := [(rb, Cl 34 (rs5.map Bu.v ++ sp))]) (Ku rs5 (by omega) (by rw [lA4, lA1] at cP; omega)) ?_
     rintro v M6 G6 fN ⟨rfl, ys, sp', rfl, rfl, cJ, jp, lP⟩
     simp only [lAl, lAg]
     repeat' first | refine su ?_ | (refine xw ?_; refine nx ?_) | exact ⟨⟩ | fail
     have pq : ys.length ≤ 421875 := by
      rw [← lA1 (f := Bu.xs)]
      refine Ss hp (Ks ts) (Sr aM) ?_ fun x hx => gv x ((py x).1 ((lP x).1 hx))
      rw [lBt, lDn]
      exact jp.imp fun {a b} h e => by rw [e, Cu] at h; omega
     refine JI (G' := (l, Obj.loop { r with state := .busy }) :: (d, Obj.deferred (some [])) :: (ab, Cl 26 [.slice (some ⟨rb, 0, none⟩) ys.length cap]) :: [(rb, Cl 34 (ys.map Bu.v ++ sp'))]) ?_
     refine JL aR aW (lAe _) ⟨_, lAe _, ys, some (rb, cap, sp'), rfl, ?_, pq, fun x => (lP x).trans (py x), gv⟩
     refine ⟨by rw [lA1]; omega, by rw [lA4, lA1]; omega, by omega, pz⟩
   ·refine JL aR aW (lAe _) ⟨_, lAe _, rs5, o2, rfl, an, by omega, py, gv⟩
  ·rintro d M4 G4 cO ⟨G0, dI, rs, ov, rfl, aL, aG, aI, jb⟩
   refine JF ?_ dI
   repeat' first | refine st ?_ | refine rg ?_ | (refine xsA rfl ?_; try refine nx ?_) | exact ⟨⟩ | fail
   have bJ : ∀ (ys : List (Bu M4)) (N : Aa), M4.le N → ∀ (s' : Value), (∃ a c, s' = .slice a ys.length c ∧ rdS N 1 a ys.length (ys.map Bu.v)) → ys.Pairwise (fun x y => Da x.xs y.xs < 0) → (∀ x, x ∈ ys.map Bu.xs ↔ x ∈ rs.map Bu.xs) →
     ∃ outs, Z4 (Ad ts) outs ∧ D4 N 1 ei s' outs := by
    rintro ys N hN s' ⟨a, c, rfl, aH⟩ kD nm
    refine ⟨ys.map Bu.xs, ⟨?_, fun x => (nm x).trans (aI x)⟩, a, c, ys.map Bu.v, by rw [lA1], by simp, by rw [lA1]; exact aH, fun i h1 h2 => ?_⟩
    ·rw [lDn]; exact kD
    ·simp only [lDm]
     exact (ys[i]'(by simpa using h1)).2.1.mono hN
   rcases ov with _ | ⟨rb, cap, sp⟩
   ·obtain ⟨h0, eP⟩ := aL
    have mH : rs = [] := lC2.1 h0
    subst mH
    refine Con.callS (G1 := []) Nj ?_
    rintro v M6 G6 fN ⟨rfl, rfl⟩
    repeat' first | fail
    obtain ⟨outs, bQ, an⟩ := bJ [] M6 fN (.slice none 0 0) ⟨none, 0, rfl, .inl ⟨rfl, rfl⟩⟩ List.Pairwise.nil (fun x => Iff.rfl)
    refine JU Q2_ok (ms := [d]) (G1 := [(ab, Cl 26 [.slice none 0 0])]) (lAe _) ?_
    (repeat first | refine nx ?_ | simp only [Q2])
    exact .inr ⟨aM, _, rfl, outs, bQ, an⟩
   ·obtain ⟨_, cP, _, _⟩ := aL
    simp only [osg, Ft, Et]
    refine Con.callS (G1 := [(rb, Cl 34 (rs.map Bu.v ++ sp))]) (Ku rs (by omega) (by rw [lA4, lA1] at cP; omega)) ?_
    rintro v M6 G6 fN ⟨rfl, ys, sp', rfl, rfl, cJ, jp, lP⟩
    repeat' first | fail
    refine JG [(d, Obj.deferred (some [])), (ab, Cl 26 [osv (some (rb, cap, sp)) rs.length])] ?_
    generalize hR : M6.add _ = N5
    have kd : M6.le N5 := hR ▸ JB _ _
    obtain ⟨outs, bQ, an⟩ := bJ ys N5 kd (.slice (some ⟨rb, 0, none⟩) ys.length cap) ⟨_, _, rfl, hR ▸ .inr ⟨rb, 0, rfl, B3 (T := 34) (cs := ys.map Bu.v ++ sp') (by simp) (by rw [lBr, lAw, List.take_left' (by rw [lA1])]) (by simp)⟩⟩ jp lP
    clear hR
    refine JU Q2_ok (ms := [d]) (G1 := [(ab, Cl 26 [osv (some (rb, cap, sp)) rs.length])]) (lAe _) ?_
    (repeat first | refine nx ?_ | simp only [Q2])
    exact .inr ⟨aM, _, rfl, outs, bQ, an⟩
  ·intro d c M4 G4 cO h
   exact h.elim
end
section
variable {M : Aa}
theorem Pc (xs ys : List Int) (v w : Value) (hv : Sl M 1 ei v xs) (hw : Sl M 1 ei w ys) (hx : xs.length ≤ 281474976710656) (hy : ys.length ≤ 281474976710656) :
  As Tryz.prog 20 #[v, w] M (vb (decide (xs = ys))) := by
 obtain ⟨a, c, rfl, hr⟩ := hv
 obtain ⟨a2, c2, rfl, aW⟩ := hw
 refine Con.enter Q59_ok (args := [.slice a xs.length c, .slice a2 ys.length c2]) (by simp [Q59]) fun w0 => ?_
 simp only [Q59, A9]
 repeat' first | refine st ?_ | refine rg ?_ | (refine cX ?_ ?_ <;> intro h <;> try exact Ai h) | exact ⟨⟩ | fail
 ·have hne : decide (xs = ys) = false := decide_eq_false fun e => h (by rw [e])
  (refine rt Q59_ok ?_; try with_reducible exact ⟨⟩)
  rw [hne]
 ·have hl : xs.length = ys.length := by omega
  refine JC (fun i : Nat => ([(0, .slice a xs.length c), (1, .slice a2 ys.length c2), (5, vi i)], M, [])) (fun i => i ≤ xs.length ∧ xs.take i = ys.take i) (fun i => xs.length - i) 0 rfl ⟨lA8 _, rfl⟩ ?env1 (lA0 _) ?_
  case env1 =>
   exact eE
  rintro i ⟨hi, he⟩ ih
  dsimp only at hi he ih ⊢
  repeat' first | refine st ?_ | refine rg ?_ | (refine cX ?_ ?_ <;> intro h <;> try exact Ai h) | exact ⟨⟩ | fail
  ·have aC : i < xs.length := by omega
   have bT : i < ys.length := by omega
   obtain ⟨b, o, rfl, hat⟩ := Sl.at (sz := 1) (enc := ei) (fun _ => rfl) (by decide) hr (by omega)
   obtain ⟨b2, o2, rfl, aJ⟩ := Sl.at (sz := 1) (enc := ei) (fun _ => rfl) (by decide) aW (by omega)
   have q1 := hat i aC
   have q2 := aJ i bT
   simp only [lAw] at q1 q2
   repeat' first | refine st ?_ | ((first | refine EV.reg ?_ | refine EV.any _ (lA0 _) ?_ | fail); (conv => (arg 2; whnf)); refine nx ?_) | (refine cX ?_ ?_ <;> intro h <;> try exact Ai h) | refine ZF ?_ | (refine xm ?_; try refine nx ?_) | exact ⟨⟩ | fail
   ·have hne : decide (xs = ys) = false := decide_eq_false fun e => by subst e; exact h rfl
    (refine rt Q59_ok ?_; try with_reducible exact ⟨⟩)
    rw [hne]
   ·have cR : xs[i] = ys[i] := by simpa using h
    refine JA (ih (i + 1) ⟨by omega, by rw [lA7 aC, lA7 bT, he, cR]⟩ (by omega)) ?_ (lA0 _)
    exact eE
  ·have bO : i = xs.length := by omega
   subst bO
   have gH : decide (xs = ys) = true := decide_eq_true (by rwa [lB1, hl, lB1] at he)
   (refine rt Q59_ok ?_; try with_reducible exact ⟨⟩)
   rw [gH]
theorem Af7 : Con Tryz.prog 32 #[] M [] fun v M' _ => ∃ s, v = .agg #[s] ∧ Ee M' 5 Bb s Kt := by
 refine Con.enter Q55_ok (args := []) (by simp [Q55]) fun w0 => ?_
 simp only [Q55, A9]
 repeat' first | refine st ?_ | refine rg ?_ | (with_reducible intro b; try refine nx ?_) | (refine xw ?_; refine nx ?_) | exact ⟨⟩ | fail
 rename_i r0 b3 b6
 refine JG [(r0, Cl 24 [.slice (some ⟨b, 0, none⟩) 2 2])] ?_
 generalize hR : M.add _ = N
 have aB : M.le N := hR ▸ JB _ _
 have k7 : rd N b 0 2 [.slice (some ⟨b3, 0, none⟩) 2 2, .slice (some ⟨b6, 0, none⟩) 2 2] := hR ▸ Ap 0 rfl rfl (by simp)
 have k6 : rd N b6 0 10 (Bb ⟨1, 1, 1, 0, 0⟩ ++ Bb ⟨0, 0, 0, 0, 0⟩) := hR ▸ Ap 1 rfl rfl (by simp)
 have k3 : rd N b3 0 10 (Bb ⟨1, 0, 1, 0, 0⟩ ++ Bb ⟨0, 1, 0, 0, 0⟩) := hR ▸ Ap 2 rfl rfl (by simp)
 (refine rt Q55_ok ?_; try with_reducible exact ⟨⟩)
 refine ⟨_, Ap 0 rfl rfl (by simp), _, rfl, some ⟨b, 0, none⟩, 2, _, rfl, rfl, .inr ⟨b, 0, rfl, k7⟩, fun i h1 h2 => ?_⟩
 have hi : i = 0 ∨ i = 1 := by simp [Kt] at h2; omega
 rcases hi with rfl | rfl
 ·exact ⟨some ⟨b3, 0, none⟩, 2, rfl, .inr ⟨b3, 0, rfl, k3⟩⟩
 ·exact ⟨some ⟨b6, 0, none⟩, 2, rfl, .inr ⟨b6, 0, rfl, k6⟩⟩
theorem Bc6 : Con Tryz.prog 10 #[] M [] fun v _ _ => v = vb true := by
 refine Con.enter Q54_ok (args := []) (by simp [Q54]) fun w0 => ?_
 simp only [Q54, A9]
 repeat' first | refine st ?_ | refine rg ?_ | exact ⟨⟩ | fail
 refine Con.callS (G1 := []) Af7 ?_
 rintro v M1 G1 bw ⟨s, rfl, hs⟩
 repeat' first | fail
 refine Con.callS (G1 := []) (Kv Kt s hs ⟨by decide, by decide⟩) ?_
 rintro v M2 G2 bZ (⟨hne, _⟩ | ⟨_, s', outs, rfl, ho, aZ⟩)
 ·exact absurd buffers_ok hne
 have he := ho.eq
 rw [Uc] at he
 subst he
 obtain ⟨a, c, vs, rfl, hl, aH, hk⟩ := aZ.sl
 obtain ⟨ob, oo, rfl, hat⟩ := Ee.at aH hl hk (by decide)
 obtain ⟨a0, c0, aR, aW⟩ := hat 0 (by decide)
 have hq : ∀ (b : Nat) (G : Own), As Tryz.prog 20 #[.slice a0 5 c0, .slice (some ⟨b, 0, none⟩) 5 5] (M2.add ((b, Cl 3 [vi 0, vi 0, vi 1, vi 1, vi 0]) :: G)) (vb true) := fun b G =>
  Pc [0, 0, 1, 1, 0] [0, 0, 1, 1, 0] _ _ ⟨a0, c0, rfl, aW.mono (JB _ _)⟩ ⟨_, _, rfl, .inr ⟨b, 0, rfl, Ap 0 rfl rfl (by simp)⟩⟩ (by decide) (by decide)
 simp only [lAw, Nat.zero_mul, lDd, lAt, lB5, lC7, lBg, Nat.reduceAdd] at aR aW
 repeat' first | refine st ?_ | refine rg ?_ | (refine As.call (hq _ _) ?_; try refine nx ?_) | (refine A5.intro (fun hc => ?_) (fun hc => ?_) <;> try simp only [ne_eq, lBj, lBl, not_true_eq_false, not_false_eq_true, reduceCtorEq] at hc <;> try (exfalso; first | exact hc | omega | (simp at hc; done))) | (with_reducible intro b; try refine nx ?_) | refine ZF ?_ | (refine xn ?_; try refine nx ?_) | exact ⟨⟩ | fail
 (refine rt Q54_ok ?_; try with_reducible exact ⟨⟩)
 rfl
end
instance (priority := low) At.app {A G : Own} {b : Nat} {T : TypeId} {cs : List Value} [h : At G b T cs] : At (A ++ G) b T cs := ⟨lDj _ h.mem⟩
instance (priority := low) Split.app {A G : Own} {b : Nat} {T : TypeId} {cs : List Value} {Ga Gb : Own} [h : Split G b T cs Ga Gb] : Split (A ++ G) b T cs (A ++ Ga) Gb := ⟨by rw [h.eq, lAc]⟩
theorem Wg {ys : List Int} : Da [] ys < 0 ↔ ys ≠ [] := by
 cases ys <;> simp [Da]
theorem Wh {xs : List Int} : ¬ Da xs [] < 0 := by
 cases xs <;> simp [Da]
section
variable {M : Aa}
theorem Af8 (xs ys : List Int) (v w : Value) (hv : Sl M 1 ei v xs) (hw : Sl M 1 ei w ys) (hx : xs.length ≤ 281474976710656) (hy : ys.length ≤ 281474976710656) :
  As Tryz.prog 31 #[v, w] M (vb (decide (Da xs ys < 0))) := by
 obtain ⟨a, c, rfl, hr⟩ := hv
 obtain ⟨a2, c2, rfl, aW⟩ := hw
 refine Con.enter Q60_ok (args := [.slice a xs.length c, .slice a2 ys.length c2]) (by simp [Q60]) fun w0 => ?_
 simp only [Q60, A9]
 repeat' first | refine st ?_ | refine rg ?_ | exact ⟨⟩ | fail
 refine JC (fun i : Nat => ([(0, .slice a xs.length c), (1, .slice a2 ys.length c2), (5, vi i)], M, [])) (fun i => i ≤ xs.length ∧ i ≤ ys.length ∧ xs.take i = ys.take i) (fun i => xs.length - i) 0 rfl ⟨lA8 _, lA8 _, rfl⟩ ?env1 (lA0 _) ?_
 case env1 =>
  exact eE
 rintro i ⟨hi, bT, he⟩ ih
 dsimp only at hi bT he ih ⊢
 have iL := Ua he
 by_cases hb : i < xs.length ∧ i < ys.length
 ·obtain ⟨b1, b2⟩ := hb
  obtain ⟨b, o, rfl, hat⟩ := Sl.at (sz := 1) (enc := ei) (fun _ => rfl) (by decide) hr (by omega)
  obtain ⟨bb2, o2, rfl, aJ⟩ := Sl.at (sz := 1) (enc := ei) (fun _ => rfl) (by decide) aW (by omega)
  have q1 := hat i b1
  have q2 := aJ i b2
  simp only [lAw] at q1 q2
  rw [lBi b1, lBi b2] at iL
  have k1 : ((i : Int) < (xs.length : Int)) = True := eq_true (by omega)
  have k2 : ((i : Int) < (ys.length : Int)) = True := eq_true (by omega)
  repeat' first | refine st ?_ | ((first | refine EV.reg ?_ | refine EV.any _ (lA0 _) ?_ | fail); (conv => (arg 2; whnf)); (repeat first | refine nx ?_ | simp only [k1, k2, decide_true])) | with_reducible assumption | (refine JE ?_ (fun hc K' hK => ?_) ?_; rotate_left) | (refine cX ?_ ?_ <;> intro h <;> try exact Ai h) | refine ZF ?_ | (refine xm ?_; (repeat first | refine nx ?_ | simp only [k1, k2, decide_true])) | fail
  ·have hne : ¬ xs[i] = ys[i] := by simpa using h
   (refine rt Q60_ok ?_; try with_reducible exact ⟨⟩)
   rw [iL]
   have : (Da (xs[i] :: List.drop (i + 1) xs) (ys[i] :: List.drop (i + 1) ys) < 0) ↔ xs[i] < ys[i] := by
    rw [Fy]
    constructor
    ·rintro (h | ⟨h, _⟩)
     ·exact h
     ·exact absurd h hne
    ·exact .inl
   rw [decide_eq_decide.2 this]
  ·have cR : xs[i] = ys[i] := by simpa using h
   refine JA (ih (i + 1) ⟨by omega, by omega, by rw [lA7 b1, lA7 b2, he, cR]⟩ (by omega)) ?_ (lA0 _)
   exact eE
 ·have ck : (decide (Da xs ys < 0)) = decide ((xs.length : Int) < (ys.length : Int)) := by
   rw [decide_eq_decide, iL]
   by_cases h1 : i = xs.length
   ·subst h1
    rw [List.drop_length, Wg]
    by_cases h2 : xs.length < ys.length
    ·have : List.drop xs.length ys ≠ [] := by
      intro h; have := congrArg List.length h; simp at this; omega
     exact ⟨fun _ => by omega, fun _ => this⟩
    ·rw [lCs (by omega)]
     exact ⟨fun h => absurd rfl h, fun h => by omega⟩
   ·have : i = ys.length := by omega
    subst this
    rw [List.drop_length]
    exact ⟨fun h => absurd h Wh, fun h => by omega⟩
  rw [ck]
  by_cases h1 : i < xs.length
  ·have k1 : ((i : Int) < (xs.length : Int)) = True := eq_true (by omega)
   have k2 : ((i : Int) < (ys.length : Int)) = False := eq_false (by omega)
   repeat' first | refine st ?_ | (refine EV.reg ?_; (conv => (arg 2; whnf)); (repeat first | refine nx ?_ | simp only [k1, k2, decide_true, decide_false])) | with_reducible assumption | (refine JE ?_ (fun hc K' hK => ?_) ?_; rotate_left) | (refine cX ?_ ?_ <;> intro h <;> try exact Ai h) | fail
   (refine rt Q60_ok ?_; try with_reducible exact ⟨⟩)
  ·have k1 : ((i : Int) < (xs.length : Int)) = False := eq_false (by omega)
   repeat' first | refine st ?_ | (refine EV.reg ?_; (conv => (arg 2; whnf)); (repeat first | refine nx ?_ | simp only [k1, decide_false])) | with_reducible assumption | (refine JE ?_ (fun hc K' hK => ?_) ?_; rotate_left) | (refine cX ?_ ?_ <;> intro h <;> try exact Ai h) | fail
   (refine rt Q60_ok ?_; try with_reducible exact ⟨⟩)
theorem Il (xs : List Int) (v : Value) (hv : Sl M 1 ei v xs) (hx : xs.length < 1000000) : Con Tryz.prog 154 #[v] M [] fun u M' G' => M' = M ∧ ∃ b cap sp, u = Av b xs.length cap ∧ Eo 1 (some (b, cap, sp)) xs.length (xs.map vi) ∧ G' = [(b, Cl 3 (xs.map vi ++ sp))] := by
 obtain ⟨a, c, rfl, hr⟩ := hv
 refine Con.enter Q56_ok (args := [.slice a xs.length c]) (by simp [Q56]) fun w0 => ?_
 simp only [Q56, A9]
 repeat' first | refine st ?_ | refine rg ?_ | (with_reducible intro b; try refine nx ?_) | exact ⟨⟩ | fail
 rw [Ax] at hr
 refine ⟨_, Vz hr, Xf _, Or.inl ⟨some (b, 0, []), 0, rfl, [], ⟨rfl, rfl, lA5 _, by simp [maxLen]⟩, _, lAe _, by simp only [maxLen]; omega, by omega, fun o1 bQ hn => ?_⟩⟩
 simp only [lBg, lAg, lAl, lAc] at bQ ⊢
 rcases o1 with _ | ⟨b1, cap, sp⟩
 ·simp at hn
 repeat' first | fail
 (refine rt Q56_ok ?_; try with_reducible exact ⟨⟩)
 exact ⟨b1, cap, rfl, sp, bQ, rfl⟩
end
section
variable {M : Aa}
theorem Xv (xs : List Int) (n : Int) (v : Value) (hv : Sl M 1 ei v xs) (hx : xs.length ≤ 281474976710656) :
  As Tryz.prog 170 #[v, vi n] M (vb (decide (n ∈ xs))) := by
 obtain ⟨a, c, rfl, hr⟩ := hv
 refine Con.enter Q58_ok (args := [.slice a xs.length c, vi n]) (by simp [Q58]) fun w0 => ?_
 simp only [Q58, A9]
 repeat' first | refine st ?_ | refine rg ?_ | exact ⟨⟩ | fail
 refine JC (fun i : Nat => ([(0, .slice a xs.length c), (1, vi n), (5, vi i)], M, [])) (fun i => i ≤ xs.length ∧ n ∉ xs.take i) (fun i => xs.length - i) 0 rfl ⟨lA8 _, by simp⟩ ?env1 (lA0 _) ?_
 case env1 =>
  exact eE
 rintro i ⟨hi, he⟩ ih
 dsimp only at hi he ih ⊢
 repeat' first | refine st ?_ | refine rg ?_ | (refine cX ?_ ?_ <;> intro h <;> try exact Ai h) | exact ⟨⟩ | fail
 ·have aC : i < xs.length := by omega
  obtain ⟨b, o, rfl, hat⟩ := Sl.at (sz := 1) (enc := ei) (fun _ => rfl) (by decide) hr (by omega)
  have q1 := hat i aC
  simp only [lAw] at q1
  repeat' first | refine st ?_ | refine rg ?_ | (refine cX ?_ ?_ <;> intro h <;> try exact Ai h) | refine ZF ?_ | (refine xm ?_; try refine nx ?_) | exact ⟨⟩ | fail
  ·have dG : xs[i] = n := by simpa using h
   have gH : decide (n ∈ xs) = true := decide_eq_true (dG ▸ lAm aC)
   (refine rt Q58_ok ?_; try with_reducible exact ⟨⟩)
   rw [gH]
  ·have dG : ¬ xs[i] = n := by simpa using h
   refine JA (ih (i + 1) ⟨by omega, by
    rw [lA7 aC, lBa, lAk]
    rintro (k | k)
    ·exact he k
    ·exact dG k.symm⟩ (by omega)) ?_ (lA0 _)
   exact eE
 ·have bO : i = xs.length := by omega
  subst bO
  have gH : decide (n ∈ xs) = false := decide_eq_false (by rwa [lB1] at he)
  repeat' first | fail
  (refine rt Q58_ok ?_; try with_reducible exact ⟨⟩)
  rw [gH]
end
def Ag {α : Type} (f : Nat → α → α) : Nat → α → α
 | 0, r => r
 | i + 1, r => f i (Ag f i r)
theorem Bt {f : Nat → Rel → Rel} (h : ∀ i r, (f i r).length = r.length) : ∀ n r, (Ag f n r).length = r.length
 | 0, _ => rfl
 | n + 1, r => by rw [Ag, h, Bt h n r]
theorem Bx {f : Nat → Rel → Rel} {P : Nat → Prop} {L a b : Nat} (hl : ∀ i r, (f i r).length = r.length) {n : Nat} (h : ∀ i r, i < n → r.length = L → (A3 (f i r) a b = true ↔ A3 r a b = true ∨ P i)) : ∀ m r, m ≤ n → r.length = L → (A3 (Ag f m r) a b = true ↔ A3 r a b = true ∨ ∃ i, i < m ∧ P i)
 | 0, r, _, _ => by simp [Ag]
 | m + 1, r, hm, hr => by
  rw [Ag, h m _ (by omega) (by rw [Bt hl, hr]), Bx hl h m r (by omega) hr]
  constructor
  ·rintro ((h | ⟨i, h1, h2⟩) | h)
   ·exact .inl h
   ·exact .inr ⟨i, by omega, h2⟩
   ·exact .inr ⟨m, by omega, h⟩
  ·rintro (h | ⟨i, h1, h2⟩)
   ·exact .inl (.inl h)
   ·by_cases hi : i = m
    ·subst hi; exact .inr h2
    ·exact .inl (.inr ⟨i, by omega, h2⟩)
theorem loopN_ok {f : Nat → Rel → Rel} {n N : Nat} (h : ∀ i r, i < n → RelOk N r → RelOk N (f i r)) : ∀ m r, m ≤ n → RelOk N r → RelOk N (Ag f m r)
 | 0, _, _, h => h
 | m + 1, r, hm, hr => h m _ (by omega) (loopN_ok h m r (by omega) hr)
def Gx (c : Bool) (r : Rel) (a b : Nat) : Rel := if c then Ni r a b else r
theorem Im {c : Bool} {r : Rel} {a b : Nat} : (Gx c r a b).length = r.length := by
 unfold Gx; split
 ·exact Es
 ·rfl
theorem Kw {c : Bool} {r : Rel} {a b x y : Nat} : A3 (Gx c r a b) x y = true ↔ A3 r x y = true ∨ (c = true ∧ x = a ∧ a < r.length ∧ y = b) := by
 unfold Gx
 cases c with
 | true => rw [if_pos rfl, Fc]; simp
 | false => simp
theorem putIf_ok {N : Nat} {c : Bool} {r : Rel} (h : RelOk N r) (a : Nat) {b : Nat} (hb : b < N) : RelOk N (Gx c r a b) := by
 unfold Gx; split
 ·exact h.put a hb
 ·exact h
def By : Rel := List.replicate 16 0
theorem I3 {a b : Nat} : A3 By a b = false := Ot
def Ug (p : List Ev) (a : Nat) (d : Nat) (r : Rel) : Rel := Gx (decide ((evAt p a).th = (evAt p (a + 1 + d)).th)) r a (a + 1 + d)
def Ji (p : List Ev) (a : Nat) (r : Rel) : Rel := Ag (Ug p a) (p.length - (a + 1)) r
def Uh (p : List Ev) : Rel := Ag (Ji p) p.length By
theorem Ui (p : List Ev) (a : Nat) : ∀ d r, (Ug p a d r).length = r.length := fun _ _ => Im
theorem Rl (p : List Ev) : ∀ a r, (Ji p a r).length = r.length := fun a r => Bt (Ui p a) _ _
theorem Fz (p : List Ev) : (Uh p).length = 16 := by rw [Uh, Bt (Rl p)]; rfl
theorem Xw {p : List Ev} (hp : p.length ≤ 16) {x y : Nat} : A3 (Uh p) x y = true ↔ x < y ∧ y < p.length ∧ (evAt p x).th = (evAt p y).th := by
 have hin : ∀ a r, a < p.length → r.length = 16 → (A3 (Ji p a r) x y = true ↔ A3 r x y = true ∨ (x = a ∧ x < y ∧ y < p.length ∧ (evAt p x).th = (evAt p y).th)) := by
  intro a r ha hr
  rw [Ji, Bx (P := fun d => x = a ∧ y = a + 1 + d ∧ (evAt p a).th = (evAt p (a + 1 + d)).th) (n := p.length - (a + 1)) (Ui p a) (fun d r hd hr => ?_) _ r (lA5 _) hr]
  ·constructor
   ·rintro (h | ⟨d, h1, h2, h3, h4⟩)
    ·exact .inl h
    ·subst h2 h3; exact .inr ⟨rfl, by omega, by omega, h4⟩
   ·rintro (h | ⟨h1, h2, h3, h4⟩)
    ·exact .inl h
    ·subst h1
     exact .inr ⟨y - (x + 1), by omega, rfl, by omega, by rw [show x + 1 + (y - (x + 1)) = y by omega]; exact h4⟩
  ·rw [Ug, Kw, decide_eq_true_eq]
   constructor
   ·rintro (h | ⟨h1, h2, h3, h4⟩)
    ·exact .inl h
    ·exact .inr ⟨h2, h4, h1⟩
   ·rintro (h | ⟨h1, h2, h3⟩)
    ·exact .inl h
    ·exact .inr ⟨h3, h1, by omega, h2⟩
 rw [Uh, Bx (P := fun a => x = a ∧ x < y ∧ y < p.length ∧ (evAt p x).th = (evAt p y).th) (n := p.length) (Rl p) hin _ _ (lA5 _) rfl, I3]
 constructor
 ·rintro (h | ⟨a, h1, h2, h3⟩)
  ·cases h
  ·exact h3
 ·intro h
  exact .inr ⟨x, by omega, rfl, h⟩
def Jj (e : Exec) (a : Nat) (r : Rel) : Rel := Gx (decide (0 ≤ Af e a)) r (Af e a).toNat a
def Hr (p : List Ev) (e : Exec) : Rel := Ag (Jj e) p.length By
theorem Rm (e : Exec) : ∀ a r, (Jj e a r).length = r.length := fun _ _ => Im
theorem Ea (p : List Ev) (e : Exec) : (Hr p e).length = 16 := by rw [Hr, Bt (Rm e)]; rfl
theorem Uj {p : List Ev} {e : Exec} (hp : p.length ≤ 16) (hx : ∀ i, i < p.length → Af e i < p.length) {x y : Nat} : A3 (Hr p e) x y = true ↔ Rf e p.length x y := by
 rw [Hr, Bx (P := fun a => y = a ∧ Af e a = (x : Nat)) (L := 16) (n := p.length) (Rm e) (fun a r ha hr => ?_) _ _ (lA5 _) rfl, I3]
 ·unfold Rf
  constructor
  ·rintro (h | ⟨a, h1, rfl, h3⟩)
   ·cases h
   ·exact ⟨h1, h3⟩
  ·rintro ⟨h1, h2⟩; exact .inr ⟨y, h1, rfl, h2⟩
 ·have := hx a ha
  rw [Jj, Kw, decide_eq_true_eq]
  constructor
  ·rintro (h | ⟨h1, h2, h3, h4⟩)
   ·exact .inl h
   ·exact .inr ⟨h4, by omega⟩
  ·rintro (h | ⟨h1, h2⟩)
   ·exact .inl h
   ·exact .inr ⟨by omega, by omega, by omega, h1⟩
def Pd (fen : List Int) (i d : Nat) (r : Rel) : Rel := Ni r (Ae fen i).toNat (Ae fen (i + 1 + d)).toNat
def Gh (fen : List Int) (i : Nat) (r : Rel) : Rel := Ag (Pd fen i) (fen.length - (i + 1)) r
def F0 (fen : List Int) : Rel := Ag (Gh fen) fen.length By
theorem Rn (fen : List Int) (i : Nat) : ∀ d r, (Pd fen i d r).length = r.length := fun _ _ => Es
theorem Pe (fen : List Int) : ∀ i r, (Gh fen i r).length = r.length := fun i r => Bt (Rn fen i) _ _
theorem Gy (fen : List Int) : (F0 fen).length = 16 := by rw [F0, Bt (Pe fen)]; rfl
theorem Lp {fen : List Int} (hin : ∀ k, k < fen.length → 0 ≤ Ae fen k ∧ Ae fen k < 16) {x y : Nat} : A3 (F0 fen) x y = true ↔ Co1 fen x y := by
 have hi : ∀ i r, i < fen.length → r.length = 16 → (A3 (Gh fen i r) x y = true ↔ A3 r x y = true ∨ ∃ j, i < j ∧ j < fen.length ∧ Ae fen i = x ∧ Ae fen j = y) := by
  intro i r cG hr
  rw [Gh, Bx (P := fun d => Ae fen i = x ∧ Ae fen (i + 1 + d) = y) (n := fen.length - (i + 1)) (Rn fen i) (fun d r hd hr => ?_) _ r (lA5 _) hr]
  ·constructor
   ·rintro (h | ⟨d, h1, h2, h3⟩)
    ·exact .inl h
    ·exact .inr ⟨i + 1 + d, by omega, by omega, h2, h3⟩
   ·rintro (h | ⟨j, h1, h2, h3, h4⟩)
    ·exact .inl h
    ·exact .inr ⟨j - (i + 1), by omega, h3, by rw [show i + 1 + (j - (i + 1)) = j by omega]; exact h4⟩
  ·have q1 := hin i cG
   have q2 := hin (i + 1 + d) (by omega)
   rw [Pd, Fc]
   constructor
   ·rintro (h | ⟨h1, h2, h3⟩)
    ·exact .inl h
    ·exact .inr ⟨by omega, by omega⟩
   ·rintro (h | ⟨h1, h2⟩)
    ·exact .inl h
    ·exact .inr ⟨by omega, by omega, by omega⟩
 rw [F0, Bx (P := fun i => ∃ j, i < j ∧ j < fen.length ∧ Ae fen i = x ∧ Ae fen j = y) (n := fen.length) (Pe fen) hi _ _ (lA5 _) rfl, I3]
 unfold Co1
 constructor
 ·rintro (h | ⟨i, h1, j, h2, h3, h4, h5⟩)
  ·cases h
  ·exact ⟨i, j, h2, h3, h4, h5⟩
 ·rintro ⟨i, j, h2, h3, h4, h5⟩; exact .inr ⟨i, by omega, j, h2, h3, h4, h5⟩
def Hs (b : Rel) (i : Nat) (a : Rel) : Rel := a.set i (a[i]?.getD 0 ||| b[i]?.getD 0)
def C3 (a b : Rel) : Rel := Ag (Hs b) 16 a
theorem Pf (b : Rel) : ∀ i a, (Hs b i a).length = a.length := fun _ _ => by simp [Hs]
theorem Ek (a b : Rel) : (C3 a b).length = a.length := Bt (Pf b) _ _
theorem Bv {a b : Rel} (ha : a.length = 16) (hb : b.length = 16) {x y : Nat} : A3 (C3 a b) x y = true ↔ A3 a x y = true ∨ A3 b x y = true := by
 rw [C3, Bx (P := fun i => x = i ∧ A3 b i y = true) (L := 16) (n := 16) (Pf b) (fun i r hi hr => ?_) _ _ (lA5 _) ha]
 ·constructor
  ·rintro (h | ⟨i, h1, rfl, h3⟩)
   ·exact .inl h
   ·exact .inr h3
  ·rintro (h | h)
   ·exact .inl h
   ·by_cases hx : x < 16
    ·exact .inr ⟨x, hx, rfl, h⟩
    ·rw [Km (by omega)] at h; cases h
 ·have : Hs b i r = orR r i (b[i]?.getD 0) := rfl
  rw [this, Oq, lAq, lA6, decide_eq_true_eq]
  constructor
  ·rintro (h | ⟨⟨h1, h2⟩, h3⟩)
   ·exact .inl h
   ·exact .inr ⟨h1, h3⟩
  ·rintro (h | ⟨h1, h3⟩)
   ·exact .inl h
   ·exact .inr ⟨⟨h1, by omega⟩, h3⟩
def P9 (e : Exec) (k : Nat) (i : Nat) (a : Nat) (d : Nat) (r : Rel) : Rel := Ni r a (Ae (e.ord[k]?.getD []) (i + 1 + d)).toNat
def Ml (e : Exec) (k : Nat) (i : Nat) (a b : Nat) (d : Nat) (r : Rel) : Rel := Gx (decide (Af e b = a) && decide (Ae (e.ord[k]?.getD []) (i + 1 + d) ≠ b)) r b (Ae (e.ord[k]?.getD []) (i + 1 + d)).toNat
def Sx (p : List Ev) (e : Exec) (k : Nat) (i : Nat) (a : Nat) (b : Nat) (r : Rel) : Rel :=
 Ag (Ml e k i a b) ((e.ord[k]?.getD []).length - (i + 1)) (Gx (decide (Af e b = -1) && decide ((evAt p b).op.loc = (k : Int)) && decide (a ≠ b)) r b a)
def Sy (p : List Ev) (e : Exec) (k : Nat) (i : Nat) (r : Rel) : Rel :=
 Ag (Sx p e k i (Ae (e.ord[k]?.getD []) i).toNat) p.length (Ag (P9 e k i (Ae (e.ord[k]?.getD []) i).toNat) ((e.ord[k]?.getD []).length - (i + 1)) r)
def Qa (p : List Ev) (e : Exec) (k : Nat) (r : Rel) : Rel := Ag (Sy p e k) (e.ord[k]?.getD []).length r
def Xx (p : List Ev) (e : Exec) : Rel := Ag (Qa p e) 3 (Hr p e)
theorem Pg (e : Exec) (k i a : Nat) : ∀ d r, (P9 e k i a d r).length = r.length := fun _ _ => Es
theorem Ro (e : Exec) (k i a b : Nat) : ∀ d r, (Ml e k i a b d r).length = r.length := fun _ _ => Im
theorem Uk (p : List Ev) (e : Exec) (k i a : Nat) : ∀ b r, (Sx p e k i a b r).length = r.length := fun b r => by rw [Sx, Bt (Ro e k i a b), Im]
theorem Ul (p : List Ev) (e : Exec) (k : Nat) : ∀ i r, (Sy p e k i r).length = r.length := fun i r => by rw [Sy, Bt (Uk p e k i _), Bt (Pg e k i _)]
theorem Af9 (p : List Ev) (e : Exec) : ∀ k r, (Qa p e k r).length = r.length := fun k r => Bt (Ul p e k) _ _
def Am4 (p : List Ev) (e : Exec) (k : Nat) (l : List Int) (x y : Nat) : Prop :=
 Co1 l x y ∨ (x < p.length ∧ ∃ i, i < l.length ∧ ((Af e x = -1 ∧ (evAt p x).op.loc = (k : Int) ∧ Ae l i = y ∧ y ≠ x) ∨ (Af e x = Ae l i ∧ ∃ j, i < j ∧ j < l.length ∧ Ae l j = y ∧ y ≠ x)))
theorem Ag0 {p : List Ev} {e : Exec} (hp : p.length ≤ 16) {k : Nat} (hin : ∀ i, i < (e.ord[k]?.getD []).length → 0 ≤ Ae (e.ord[k]?.getD []) i ∧ Ae (e.ord[k]?.getD []) i < p.length) {x y : Nat} (r : Rel) (hr : r.length = 16) :
  A3 (Qa p e k r) x y = true ↔ A3 r x y = true ∨ Am4 p e k (e.ord[k]?.getD []) x y := by
 unfold Am4 Qa
 have hI : ∀ i r, i < (e.ord[k]?.getD []).length → r.length = 16 → (A3 (Sy p e k i r) x y = true ↔ A3 r x y = true ∨
   ((∃ j, i < j ∧ j < (e.ord[k]?.getD []).length ∧ Ae (e.ord[k]?.getD []) i = x ∧ Ae (e.ord[k]?.getD []) j = y) ∨
    (x < p.length ∧ ((Af e x = -1 ∧ (evAt p x).op.loc = (k : Int) ∧ Ae (e.ord[k]?.getD []) i = y ∧ y ≠ x) ∨ (Af e x = Ae (e.ord[k]?.getD []) i ∧ ∃ j, i < j ∧ j < (e.ord[k]?.getD []).length ∧ Ae (e.ord[k]?.getD []) j = y ∧ y ≠ x))))) := by
  intro i r hi hr
  have uv := hin i hi
  obtain ⟨a, ha⟩ : ∃ a : Nat, Ae (e.ord[k]?.getD []) i = a := ⟨(Ae (e.ord[k]?.getD []) i).toNat, by omega⟩
  have hat : (Ae (e.ord[k]?.getD []) i).toNat = a := by omega
  unfold Sy
  rw [hat, ha]
  have hJ : ∀ r : Rel, r.length = 16 → (A3 (Ag (P9 e k i a) ((e.ord[k]?.getD []).length - (i + 1)) r) x y = true ↔ A3 r x y = true ∨ ∃ j, i < j ∧ j < (e.ord[k]?.getD []).length ∧ x = a ∧ Ae (e.ord[k]?.getD []) j = y) := by
   intro r hr
   rw [Bx (P := fun d => x = a ∧ Ae (e.ord[k]?.getD []) (i + 1 + d) = y) (n := (e.ord[k]?.getD []).length - (i + 1)) (Pg e k i a) (fun d r hd hr => ?_) _ r (lA5 _) hr]
   ·constructor
    ·rintro (h | ⟨d, h1, h2, h3⟩)
     ·exact .inl h
     ·exact .inr ⟨i + 1 + d, by omega, by omega, h2, h3⟩
    ·rintro (h | ⟨j, h1, h2, h3, h4⟩)
     ·exact .inl h
     ·exact .inr ⟨j - (i + 1), by omega, h3, by rw [show i + 1 + (j - (i + 1)) = j by omega]; exact h4⟩
   ·have q2 := hin (i + 1 + d) (by omega)
    rw [P9, Fc]
    constructor
    ·rintro (h | ⟨h1, h2, h3⟩)
     ·exact .inl h
     ·exact .inr ⟨h1, by omega⟩
    ·rintro (h | ⟨h1, h2⟩)
     ·exact .inl h
     ·exact .inr ⟨h1, by omega, by omega⟩
  have hB : ∀ b r, b < p.length → r.length = 16 → (A3 (Sx p e k i a b r) x y = true ↔ A3 r x y = true ∨ (x = b ∧ ((Af e x = -1 ∧ (evAt p x).op.loc = (k : Int) ∧ y = a ∧ y ≠ x) ∨ (Af e x = a ∧ ∃ j, i < j ∧ j < (e.ord[k]?.getD []).length ∧ Ae (e.ord[k]?.getD []) j = y ∧ y ≠ x)))) := by
   intro b r hb hr
   unfold Sx
   rw [Bx (P := fun d => x = b ∧ Af e b = a ∧ Ae (e.ord[k]?.getD []) (i + 1 + d) = y ∧ y ≠ b) (n := (e.ord[k]?.getD []).length - (i + 1)) (L := 16) (Ro e k i a b) (fun d r hd hr => ?_) _ _ (lA5 _) (by rw [Im, hr]), Kw]
   ·simp only [lA6, decide_eq_true_eq]
    constructor
    ·rintro ((h | ⟨⟨⟨h1, h2⟩, h3⟩, h4, h5, h6⟩) | ⟨d, h1, h2, h3, h4, h5⟩)
     ·exact .inl h
     ·subst h4; exact .inr ⟨rfl, .inl ⟨h1, h2, h6, by omega⟩⟩
     ·subst h2; exact .inr ⟨rfl, .inr ⟨h3, i + 1 + d, by omega, by omega, h4, h5⟩⟩
    ·rintro (h | ⟨rfl, ⟨h1, h2, h3, h4⟩ | ⟨h1, j, h2, h3, h4, h5⟩⟩)
     ·exact .inl (.inl h)
     ·exact .inl (.inr ⟨⟨⟨h1, h2⟩, by omega⟩, rfl, by omega, h3⟩)
     ·exact .inr ⟨j - (i + 1), by omega, rfl, h1, by rw [show i + 1 + (j - (i + 1)) = j by omega]; exact h4, h5⟩
   ·have q2 := hin (i + 1 + d) (by omega)
    rw [Ml, Kw, lA6, decide_eq_true_eq, decide_eq_true_eq]
    constructor
    ·rintro (h | ⟨⟨h1, h2⟩, h3, h4, h5⟩)
     ·exact .inl h
     ·exact .inr ⟨h3, h1, by omega, by omega⟩
    ·rintro (h | ⟨h1, h2, h3, h4⟩)
     ·exact .inl h
     ·exact .inr ⟨⟨h2, by omega⟩, h1, by omega, by omega⟩
  rw [Bx (P := fun b => x = b ∧ ((Af e x = -1 ∧ (evAt p x).op.loc = (k : Int) ∧ y = a ∧ y ≠ x) ∨ (Af e x = a ∧ ∃ j, i < j ∧ j < (e.ord[k]?.getD []).length ∧ Ae (e.ord[k]?.getD []) j = y ∧ y ≠ x))) (n := p.length) (L := 16) (Uk p e k i a) hB _ _ (lA5 _) (by rw [Bt (Pg e k i a), hr]), hJ r hr]
  constructor
  ·rintro ((h | ⟨j, h1, h2, h3, h4⟩) | ⟨b, h1, rfl, h2⟩)
   ·exact .inl h
   ·exact .inr (.inl ⟨j, h1, h2, by omega, h4⟩)
   ·refine .inr (.inr ⟨h1, ?_⟩)
    rcases h2 with ⟨g1, g2, g3, g4⟩ | h2
    ·exact .inl ⟨g1, g2, by omega, g4⟩
    ·exact .inr h2
  ·rintro (h | ⟨j, h1, h2, h3, h4⟩ | ⟨h1, h2⟩)
   ·exact .inl (.inl h)
   ·exact .inl (.inr ⟨j, h1, h2, by omega, h4⟩)
   ·refine .inr ⟨x, h1, rfl, ?_⟩
    rcases h2 with ⟨g1, g2, g3, g4⟩ | h2
    ·exact .inl ⟨g1, g2, by omega, g4⟩
    ·exact .inr h2
 rw [Bx (n := (e.ord[k]?.getD []).length) (L := 16) (Ul p e k) hI _ r (lA5 _) hr]
 unfold Co1
 constructor
 ·rintro (h | ⟨i, h1, ⟨j, h2, h3, h4, h5⟩ | ⟨h2, h3⟩⟩)
  ·exact .inl h
  ·exact .inr (.inl ⟨i, j, h2, h3, h4, h5⟩)
  ·exact .inr (.inr ⟨h2, i, h1, h3⟩)
 ·rintro (h | ⟨i, j, h2, h3, h4, h5⟩ | ⟨h2, i, h1, h3⟩)
  ·exact .inl h
  ·exact .inr ⟨i, by omega, .inl ⟨j, h2, h3, h4, h5⟩⟩
  ·exact .inr ⟨i, h1, .inr ⟨h2, h3⟩⟩
theorem Y7 {p : List Ev} {e : Exec} (hl : p.length ≤ 16) (hp : POk p) (hs : Shape p e) {x y : Nat} : A3 (Xx p e) x y = true ↔ Cz3 p e x y := by
 have hx := hs.xok (.inr trivial)
 have hin : ∀ k, k < 3 → ∀ i, i < (e.ord[k]?.getD []).length → 0 ≤ Ae (e.ord[k]?.getD []) i ∧ Ae (e.ord[k]?.getD []) i < p.length := by
  intro k hk i hi
  have hm : e.ord[k]?.getD [] ∈ e.ord := by
   have : k < e.ord.length := by rw [hs.ol]; exact hk
   rw [lA2 this, lAr]; exact lAm _
  exact (hx.oin _ hm).1.num hi
 rw [Xx, Bx (P := fun k => Am4 p e k (e.ord[k]?.getD []) x y) (n := 3) (L := 16) (Af9 p e) (fun k r hk hr => Ag0 hl (hin k hk) r hr) _ _ (lA5 _) (Ea p e), Uj hl (fun i hi => (hx.fr i hi).1)]
 unfold Cz3 Am4
 have aH : ∀ {b : Nat} {a : Nat}, b < p.length → Af e b = a → (evAt p b).reads = true := by
  intro b a hb hf
  cases hr : (evAt p b).reads with
  | true => rfl
  | false => have := hs.out b hb hr; omega
 have eh : ∀ {b : Nat}, b < p.length → Af e b = -1 → (evAt p b).reads = true := by
  intro b hb hf
  cases hr : (evAt p b).reads with
  | true => rfl
  | false => have := hs.out b hb hr; omega
 have aI : ∀ k, k < 3 → e.ord[k]?.getD [] ∈ e.ord := by
  intro k hk
  have : k < e.ord.length := by rw [hs.ol]; exact hk
  rw [lA2 this, lAr]; exact lAm _
 have bY : ∀ {b : Nat} {k i : Nat}, b < p.length → k < 3 → i < (e.ord[k]?.getD []).length → Af e b = Ae (e.ord[k]?.getD []) i → (evAt p b).op.loc = (k : Int) := by
  intro b k i hb hk hi hf
  obtain ⟨w, w1, w2, w3, w4, w5⟩ := Bc.1 ((hs.ord k hk).mem_iff.1 (Gw.2 ⟨i, hi, rfl⟩))
  rcases hs.src b hb (aH hb (hf.trans w1)) with h | ⟨w', g1, g2, g3, g4⟩
  ·omega
  ·have : w' = w := by omega
   subst this; rw [← g4]; exact w5
 have hat : ∀ {b : Nat} {k : Nat}, (evAt p b).op.loc = (k : Int) → Ld p e b = e.ord[k]?.getD [] := by
  intro b k h; unfold Ld; rw [h, lB2]
 constructor
 ·rintro (h | ⟨k, hk, h | ⟨h1, i, hi, ⟨g1, g2, g3, g4⟩ | ⟨g1, j, g2, g3, g4, g5⟩⟩⟩)
  ·exact .inr (.inl ⟨aH h.1 h.2, h⟩)
  ·exact .inl ⟨_, aI k hk, h⟩
  ·refine .inr (.inr ⟨h1, eh h1 g1, g4, i, ?_, ?_, .inl g1⟩)
   ·rw [hat g2]; exact hi
   ·rw [hat g2]; exact g3
  ·have cW := bY h1 hk hi g1
   have h0 := hin k hk i hi
   obtain ⟨a, ha⟩ : ∃ a : Nat, Ae (e.ord[k]?.getD []) i = a := ⟨(Ae (e.ord[k]?.getD []) i).toNat, by omega⟩
   refine .inr (.inr ⟨h1, aH h1 (g1.trans ha), g5, j, ?_, ?_, .inr ⟨i, g2, ?_⟩⟩)
   ·rw [hat cW]; exact g3
   ·rw [hat cW]; exact g4
   ·rw [hat cW]; exact g1.symm
 ·rintro (⟨l, b8, h⟩ | ⟨_, h⟩ | ⟨h1, h2, h3, j, h4, h5, h6⟩)
  ·obtain ⟨k, hk, rfl⟩ := lBf b8
   have cD : k < 3 := by rw [← hs.ol]; exact hk
   refine .inr ⟨k, cD, .inl ?_⟩
   rw [lA2 hk, lAr]; exact h
  ·exact .inl h
  ·have cW := hp.loc x h1
   obtain ⟨k, hk⟩ : ∃ k : Nat, (evAt p x).op.loc = (k : Int) := ⟨(evAt p x).op.loc.toNat, by omega⟩
   rw [hat hk] at h4 h5 h6
   refine .inr ⟨k, by omega, .inr ⟨h1, ?_⟩⟩
   rcases h6 with h6 | ⟨i, i1, i2⟩
   ·exact ⟨j, h4, .inl ⟨h6, hk, h5, h3⟩⟩
   ·exact ⟨i, by omega, .inr ⟨i2.symm, j, i1, h4, h5, h3⟩⟩
theorem Ph {f : Nat → Nat → Nat} {P : Nat → Prop} {c : Nat} {n : Nat} (h : ∀ i s, i < n → ((f i s).testBit c = true ↔ s.testBit c = true ∨ P i)) : ∀ m s, m ≤ n → ((Ag f m s).testBit c = true ↔ s.testBit c = true ∨ ∃ i, i < m ∧ P i)
 | 0, s, _ => by simp [Ag]
 | m + 1, s, hm => by
  rw [Ag, h m _ (by omega), Ph h m s (by omega)]
  constructor
  ·rintro ((h | ⟨i, h1, h2⟩) | h)
   ·exact .inl h
   ·exact .inr ⟨i, by omega, h2⟩
   ·exact .inr ⟨m, by omega, h⟩
  ·rintro (h | ⟨i, h1, h2⟩)
   ·exact .inl (.inl h)
   ·by_cases hi : i = m
    ·subst hi; exact .inr h2
    ·exact .inl (.inr ⟨i, by omega, h2⟩)
theorem Kx {f : Nat → Nat → Nat} {n N : Nat} (h : ∀ i s, i < n → s < 2 ^ N → f i s < 2 ^ N) : ∀ m s, m ≤ n → s < 2 ^ N → Ag f m s < 2 ^ N
 | 0, _, _, h => h
 | m + 1, s, hm, hs => h m _ (by omega) (Kx h m s (by omega) hs)
def Fs (c : Bool) (s a : Nat) : Nat := if c then s ||| 2 ^ a else s
theorem Ip {c : Bool} {s a x : Nat} : (Fs c s a).testBit x = true ↔ s.testBit x = true ∨ (c = true ∧ x = a) := by
 unfold Fs
 cases c with
 | true =>
  rw [if_pos rfl, lCz, lAq, lCi, decide_eq_true_eq]
  constructor
  ·rintro (h | h)
   ·exact .inl h
   ·exact .inr ⟨rfl, h.symm⟩
  ·rintro (h | ⟨_, h⟩)
   ·exact .inl h
   ·exact .inr h.symm
 | false => simp
theorem Nr {c : Bool} {s a N : Nat} (h : s < 2 ^ N) (ha : a < N) : Fs c s a < 2 ^ N := by
 unfold Fs; split
 ·exact lCn h (lBe (by decide) ha)
 ·exact h
def chS (e : Exec) (a c : Nat) : Nat := Fs (Ci e.dn a && decide (0 ≤ Af e a) && c.testBit (Af e a).toNat) c a
def Cw3 (p : List Ev) (e : Exec) (c : Nat) : Nat := Ag (chS e) p.length c
def chN (p : List Ev) (e : Exec) (k w : Nat) : Nat := Ag (fun _ c => Cw3 p e c) k (2 ^ w)
def chW (p : List Ev) (e : Exec) (w : Nat) : Nat := chN p e p.length w
section
variable {p : List Ev} {e : Exec}
theorem Aq6 {a c x : Nat} (h : c.testBit x = true) : (chS e a c).testBit x = true := Ip.2 (.inl h)
theorem Sz {c x : Nat} : ∀ m, c.testBit x = true → (Ag (chS e) m c).testBit x = true
 | 0, h => h
 | m + 1, h => Aq6 (Sz m h)
theorem Rp {c x : Nat} {b : Nat} (hd : Ci e.dn x = true) (hf : Af e x = (b : Nat)) (hb : c.testBit b = true) : ∀ m, x < m → (Ag (chS e) m c).testBit x = true
 | 0, h => by omega
 | m + 1, h => by
  by_cases hx : x = m
  ·subst hx
   refine Ip.2 (.inr ⟨?_, rfl⟩)
   have h0 : (0 : Int) ≤ Af e x := by omega
   have ht : (Af e x).toNat = b := by omega
   rw [hd, ht, Sz x hb, decide_eq_true h0]; rfl
  ·exact Aq6 (Rp hd hf hb m (by omega))
theorem Fe0 {p : List Ev} {e : Exec} (hs : Shape p e) {a b : Nat} (ha : a < p.length) (hd : Ci e.dn a = true) (hf : Af e a = (b : Nat)) : Ex1 p e a b := by
 refine ⟨?_, hf⟩
 unfold Oh
 have hr : (evAt p a).reads = true := by
  cases hr : (evAt p a).reads with
  | true => rfl
  | false => have := hs.out a ha hr; omega
 rw [hr, lC1]; exact hd
theorem Pi (hs : Shape p e) {w c : Nat} (hc : ∀ x, c.testBit x = true → x < p.length ∧ Back p e x w) : ∀ m, m ≤ p.length → ∀ x, (Ag (chS e) m c).testBit x = true → x < p.length ∧ Back p e x w
 | 0, _, x, h => hc x h
 | m + 1, hm, x, h => by
  have ih := Pi hs hc m (by omega)
  rcases Ip.1 h with h | ⟨h1, rfl⟩
  ·exact ih x h
  ·simp only [lA6, decide_eq_true_eq] at h1
   obtain ⟨⟨h1, h2⟩, h3⟩ := h1
   exact ⟨by omega, .on (Fe0 hs (by omega) h1 (by omega : Af e x = ((Af e x).toNat : Nat))) (ih _ h3).2⟩
theorem Um (hs : Shape p e) {w : Nat} (hw : w < p.length) : ∀ k x, (chN p e k w).testBit x = true → x < p.length ∧ Back p e x w
 | 0, x, h => by
  have : (2 ^ w).testBit x = true := h
  rw [lCi, decide_eq_true_eq] at this
  subst this; exact ⟨hw, .here⟩
 | k + 1, x, h => Pi hs (Um hs hw k) _ (lA5 _) x h
theorem Wi (hx : XOk p e) {w : Nat} : ∀ (m k x : Nat), m ≤ k → x < p.length → P8 p e m x w → (chN p e k w).testBit x = true
 | m, 0, x, hk, _, hb => by
  have : m = 0 := by omega
  subst this
  have dz : x = w := hb
  subst dz
  show (2 ^ x).testBit x = true
  simp
 | 0, k + 1, x, hk, hl, hb => Sz _ (Wi hx 0 k x (by omega) hl hb)
 | m + 1, k + 1, x, hk, hl, ⟨v, h1, h2⟩ => by
  have hv : v < p.length := by
   have := (hx.fr x hl).1
   have := h1.2
   unfold Af at this; omega
  have hd : Ci e.dn x = true := by
   have := h1.1
   unfold Oh at this
   simp only [lA6] at this
   exact this.2
  exact Rp hd h1.2 (Wi hx m k v (by omega) hv h2) _ hl
theorem Ag1 (hs : Shape p e) (al : Tz p e) {w x : Nat} (hw : w < p.length) : (chW p e w).testBit x = true ↔ x < p.length ∧ Back p e x w := by
 have hx := hs.xok (.inr trivial)
 refine ⟨Um hs hw _ x, fun ⟨h1, h2⟩ => ?_⟩
 obtain ⟨m, hm⟩ := h2.n
 refine Wi hx m _ x ?_ h1 hm
 obtain ⟨f, q1, q2, q3⟩ := hm.way
 have := Si (R := fun a b => Rf e p.length b a) (f := f) (m := m) (n := p.length) (fun a ha => al a ?_) (fun i hi => ?_) (fun i hi => ?_)
 ·omega
 ·have key : ∀ a b, TG (fun a b => Rf e p.length b a) a b → TG (Rf e p.length) b a := by
   intro a b h
   induction h with
   | one h => exact .one h
   | more h _ ih => exact ih.trans (.one h)
  exact key a a ha
 ·have := q3 i hi
  exact ⟨Lk hx this.1, this.2⟩
 ·by_cases h0 : i = 0
  ·subst h0; rw [q1]; exact h1
  ·have := q3 (i - 1) (by omega)
   rw [show i - 1 + 1 = i by omega] at this
   have h1 := (hx.fr _ (Lk hx this.1)).1
   have h2 := this.2
   unfold Af at h2; omega
end
def gI (p : List Ev) (w a : Nat) : Bool := (evAt p a).rel && (decide (a = w) || (decide ((evAt p a).op.kind = 5) && decide ((evAt p a).th = (evAt p w).th) && decide (a < w)))
def tlC (p : List Ev) (b a : Nat) : Bool := (evAt p a).acq && (decide (a = b) || (decide ((evAt p a).op.kind = 5) && decide ((evAt p a).th = (evAt p b).th) && decide (a > b)))
def iw (p : List Ev) (w : Nat) : Nat := Ag (fun a s => Fs (gI p w a) s a) p.length 0
def tlW (p : List Ev) (b : Nat) : Nat := Ag (fun a s => Fs (tlC p b a) s a) p.length 0
theorem Ag2 {p : List Ev} {w a : Nat} : gI p w a = true ↔ Ty p w a := by
 unfold gI Ty
 simp only [lA6, lAq, decide_eq_true_eq]
 constructor
 ·rintro ⟨h1, h2 | ⟨⟨h2, h3⟩, h4⟩⟩
  ·exact ⟨h1, .inl h2⟩
  ·exact ⟨h1, .inr ⟨h4, h3, h2⟩⟩
 ·rintro ⟨h1, h2 | ⟨h4, h3, h2⟩⟩
  ·exact ⟨h1, .inl h2⟩
  ·exact ⟨h1, .inr ⟨⟨h2, h3⟩, h4⟩⟩
theorem Ag3 {p : List Ev} {w x : Nat} (hw : w < p.length) : (iw p w).testBit x = true ↔ Ty p w x := by
 rw [iw, Ph (P := fun a => gI p w a = true ∧ x = a) (n := p.length) (fun i s _ => Ip) _ _ (lA5 _)]
 simp only [Nat.zero_testBit, lC5, false_or]
 constructor
 ·rintro ⟨i, _, h, rfl⟩; exact Ag2.1 h
 ·intro h; exact ⟨x, h.lt hw, Ag2.2 h, rfl⟩
theorem Bc7 {p : List Ev} {b x : Nat} (hb : b < p.length) : (tlW p b).testBit x = true ↔ Aj7 p b x := by
 rw [tlW, Ph (P := fun a => tlC p b a = true ∧ x = a) (n := p.length) (fun i s _ => Ip) _ _ (lA5 _)]
 simp only [Nat.zero_testBit, lC5, false_or]
 unfold tlC Aj7
 simp only [lA6, lAq, decide_eq_true_eq]
 constructor
 ·rintro ⟨i, h0, ⟨h1, h2 | ⟨⟨h2, h3⟩, h4⟩⟩, rfl⟩
  ·exact ⟨h1, .inl h2⟩
  ·exact ⟨h1, .inr ⟨h4, h0, h3, h2⟩⟩
 ·rintro ⟨h1, h2 | ⟨h4, h0, h3, h2⟩⟩
  ·exact ⟨x, by omega, ⟨h1, .inl h2⟩, rfl⟩
  ·exact ⟨x, h0, ⟨h1, .inr ⟨⟨h2, h3⟩, h4⟩⟩, rfl⟩
def mtA (p : List Ev) (w b a : Nat) (r : Rel) : Rel := if (iw p w).testBit a then orR r a (tlW p b) else r
def mtB (p : List Ev) (e : Exec) (w b : Nat) (r : Rel) : Rel := if decide (Af e b < 0) || !(chW p e w).testBit (Af e b).toNat then r else Ag (mtA p w b) p.length r
def mtW (p : List Ev) (e : Exec) (w : Nat) (r : Rel) : Rel := if Ci e.dn w then Ag (mtB p e w) p.length r else r
def Ky (p : List Ev) (e : Exec) : Rel := Ag (mtW p e) p.length By
theorem Ag4 (p : List Ev) (w b : Nat) : ∀ a r, (mtA p w b a r).length = r.length := fun a r => by unfold mtA; split; exact Sh; rfl
theorem Ag5 (p : List Ev) (e : Exec) (w : Nat) : ∀ b r, (mtB p e w b r).length = r.length := fun b r => by unfold mtB; split; rfl; exact Bt (Ag4 p w b) _ _
theorem Ag6 (p : List Ev) (e : Exec) : ∀ w r, (mtW p e w r).length = r.length := fun w r => by unfold mtW; split; exact Bt (Ag5 p e w) _ _; rfl
theorem Em (p : List Ev) (e : Exec) : (Ky p e).length = 16 := Bt (Ag6 p e) _ _
theorem Y8 {p : List Ev} {e : Exec} (hl : p.length ≤ 16) (hs : Shape p e) (al : Tz p e) {x y : Nat} : A3 (Ky p e) x y = true ↔ Sw p e x y := by
 have hx := hs.xok (.inr trivial)
 have hA : ∀ w b a r, w < p.length → b < p.length → a < p.length → r.length = 16 → (A3 (mtA p w b a r) x y = true ↔ A3 r x y = true ∨ (x = a ∧ Ty p w x ∧ Aj7 p b y)) := by
  intro w b a r hw hb ha hr
  unfold mtA
  split
  ·rename_i h
   rw [Oq, lAq, lA6, decide_eq_true_eq, Bc7 hb]
   rw [Ag3 hw] at h
   constructor
   ·rintro (h1 | ⟨⟨h1, h2⟩, h3⟩)
    ·exact .inl h1
    ·subst h1; exact .inr ⟨rfl, h, h3⟩
   ·rintro (h1 | ⟨h1, h2, h3⟩)
    ·exact .inl h1
    ·exact .inr ⟨⟨h1, by omega⟩, h3⟩
  ·rename_i h
   rw [Ag3 hw] at h
   constructor
   ·exact .inl
   ·rintro (h1 | ⟨h1, h2, _⟩)
    ·exact h1
    ·subst h1; exact absurd h2 h
 have hB : ∀ w b r, w < p.length → b < p.length → r.length = 16 → (A3 (mtB p e w b r) x y = true ↔ A3 r x y = true ∨ (∃ v : Nat, Af e b = v ∧ Back p e v w) ∧ Ty p w x ∧ Aj7 p b y) := by
  intro w b r hw hb hr
  unfold mtB
  have qA := (hx.fr b hb).1
  split
  ·rename_i h
   constructor
   ·exact .inl
   ·rintro (h1 | ⟨⟨v, h1, h2⟩, _⟩)
    ·exact h1
    ·exfalso
     simp only [lAq, decide_eq_true_eq, lB8] at h
     rcases h with h | h
     ·omega
     ·have hv : (Af e b).toNat = v := by omega
      rw [hv, (Ag1 hs al hw).2 ⟨by unfold Af at h1; omega, h2⟩] at h
      cases h
  ·rename_i h
   simp only [lAq, decide_eq_true_eq, lB8, not_or, Bool.not_eq_false] at h
   obtain ⟨h1, h2⟩ := h
   have tn := ((Ag1 hs al hw).1 h2).2
   rw [Bx (P := fun a => x = a ∧ Ty p w x ∧ Aj7 p b y) (n := p.length) (L := 16) (Ag4 p w b) (fun a r ha hr => hA w b a r hw hb ha hr) _ r (lA5 _) hr]
   constructor
   ·rintro (g | ⟨a, _, _, g⟩)
    ·exact .inl g
    ·exact .inr ⟨⟨(Af e b).toNat, by omega, tn⟩, g⟩
   ·rintro (g | ⟨_, g⟩)
    ·exact .inl g
    ·exact .inr ⟨x, g.1.lt hw, rfl, g⟩
 have hW : ∀ w r, w < p.length → r.length = 16 → (A3 (mtW p e w r) x y = true ↔ A3 r x y = true ∨ (Ci e.dn w = true ∧ ∃ b, b < p.length ∧ (∃ v : Nat, Af e b = v ∧ Back p e v w) ∧ Ty p w x ∧ Aj7 p b y)) := by
  intro w r hw hr
  unfold mtW
  split
  ·rename_i h
   rw [Bx (n := p.length) (L := 16) (Ag5 p e w) (fun b r hb hr => hB w b r hw hb hr) _ r (lA5 _) hr]
   constructor
   ·rintro (g | ⟨b, hb, g⟩)
    ·exact .inl g
    ·exact .inr ⟨h, b, hb, g⟩
   ·rintro (g | ⟨_, b, hb, g⟩)
    ·exact .inl g
    ·exact .inr ⟨b, hb, g⟩
  ·rename_i h
   constructor
   ·exact .inl
   ·rintro (g | ⟨g, _⟩)
    ·exact g
    ·exact absurd g h
 rw [Ky, Bx (n := p.length) (L := 16) (Ag6 p e) hW _ _ (lA5 _) rfl, I3]
 unfold Sw
 constructor
 ·rintro (h | ⟨w, hw, _, b, hb, ⟨v, h1, h2⟩, h3, h4⟩)
  ·cases h
  ·have hr : (evAt p b).reads = true := by
    cases hr : (evAt p b).reads with
    | true => rfl
    | false => have := hs.out b hb hr; omega
   exact ⟨b, v, w, hb, hr, h1, h2, h3, h4⟩
 ·rintro ⟨r, w, v, h1, h2, h3, h4, h5, h6⟩
  have ke : w < p.length ∧ Ci e.dn w = true := by
   rcases hs.src r h1 h2 with h | ⟨w', g1, g2, g3, _⟩
   ·omega
   ·have : w' = w := by omega
    subst this; exact ⟨g2, g3⟩
  have sB : v < p.length ∧ Ci e.dn v = true := by
   clear h5 h3
   induction h4 with
   | here => exact ke
   | @on w u v h _ ih =>
    refine ih ?_
    have hl := Lk hx h.1
    have hr : (evAt p w).reads = true := by
     have := h.1; unfold Oh at this; simp only [lA6] at this; exact this.1
    rcases hs.src w hl hr with g | ⟨w', g1, g2, g3, _⟩
    ·have := h.2; omega
    ·have : w' = u := by have := h.2; omega
     subst this; exact ⟨g2, g3⟩
  exact .inr ⟨v, sB.1, sB.2, r, h1, ⟨w, h3, h4⟩, h5, h6⟩
theorem zero16_ok : RelOk 16 By := RelOk.zero 16
theorem thrR_ok {p : List Ev} (hp : p.length ≤ 16) : RelOk 16 (Uh p) :=
 loopN_ok (n := p.length) (fun a r ha hr => loopN_ok (n := p.length - (a + 1)) (fun d r hd hr => putIf_ok hr a (by omega)) _ r (lA5 _) hr) _ _ (lA5 _) zero16_ok
theorem fromR_ok {p : List Ev} {e : Exec} (hp : p.length ≤ 16) : RelOk 16 (Hr p e) :=
 loopN_ok (n := p.length) (fun a r ha hr => putIf_ok hr _ (by omega)) _ _ (lA5 _) zero16_ok
theorem turnsR_ok {fen : List Int} (hin : ∀ k, k < fen.length → 0 ≤ Ae fen k ∧ Ae fen k < 16) : RelOk 16 (F0 fen) :=
 loopN_ok (n := fen.length) (fun i r hi hr => loopN_ok (n := fen.length - (i + 1)) (fun d r hd hr => by have := hin (i + 1 + d) (by omega); exact hr.put _ (by omega)) _ r (lA5 _) hr) _ _ (lA5 _) zero16_ok
theorem unionR_ok {a b : Rel} (ha : RelOk 16 a) (hb : RelOk 16 b) : RelOk 16 (C3 a b) :=
 loopN_ok (n := 16) (fun i r hi hr => hr.or i (hb.lt i)) _ _ (lA5 _) ha
theorem Ag7 {p : List Ev} (hp : p.length ≤ 16) (b : Nat) : tlW p b < 2 ^ 16 := Kx (n := p.length) (fun i s hi hs => Nr hs (by omega)) _ _ (lA5 _) (by decide)
theorem meetsR_ok {p : List Ev} {e : Exec} (hp : p.length ≤ 16) : RelOk 16 (Ky p e) := by
 refine loopN_ok (n := p.length) (fun w r hw hr => ?_) _ _ (lA5 _) zero16_ok
 unfold mtW; split
 ·refine loopN_ok (n := p.length) (fun b r hb hr => ?_) _ _ (lA5 _) hr
  unfold mtB; split
  ·exact hr
  ·refine loopN_ok (n := p.length) (fun a r ha hr => ?_) _ _ (lA5 _) hr
   unfold mtA; split
   ·exact hr.or a (Ag7 hp b)
   ·exact hr
 ·exact hr
theorem seenR0_ok {p : List Ev} {e : Exec} (hp : p.length ≤ 16) (hin : ∀ k, k < 3 → ∀ i, i < (e.ord[k]?.getD []).length → 0 ≤ Ae (e.ord[k]?.getD []) i ∧ Ae (e.ord[k]?.getD []) i < p.length) : RelOk 16 (Xx p e) := by
 refine loopN_ok (n := 3) (fun k r hk hr => ?_) _ _ (lA5 _) (fromR_ok hp)
 refine loopN_ok (n := (e.ord[k]?.getD []).length) (fun i r hi hr => ?_) _ _ (lA5 _) hr
 refine loopN_ok (n := p.length) (fun b r hb hr => ?_) _ _ (lA5 _) (loopN_ok (n := (e.ord[k]?.getD []).length - (i + 1)) (fun d r hd hr => ?_) _ _ (lA5 _) hr)
 ·have h1 := hin k hk i hi
  refine loopN_ok (n := (e.ord[k]?.getD []).length - (i + 1)) (fun d r hd hr => ?_) _ _ (lA5 _) (putIf_ok hr _ (by omega))
  have h2 := hin k hk (i + 1 + d) (by omega)
  exact putIf_ok hr _ (by omega)
 ·have h2 := hin k hk (i + 1 + d) (by omega)
  exact hr.put _ (by omega)
def Ns (p : List Ev) (e : Exec) : Rel := B8 (C3 (Uh p) (C3 (Ky p e) (F0 e.fen)))
def Gl (p : List Ev) (e : Exec) : Rel := B8 (Xx p e)
def Am5 (p : List Ev) (e : Exec) : Rel := B8 (C3 (Uh p) (C3 (Hr p e) (F0 e.fen)))
def Gz (hb eco : Rel) : Bool := Bi hb || (List.range 16).any fun a => (List.range 16).any fun b => A3 hb a b && A3 eco b a
theorem S0 {p : List Ev} (hm : Nn p) {x y : Nat} (h1 : x < y) (h2 : y < p.length) (h3 : (evAt p x).th = (evAt p y).th) : TG (Sb1 p) x y := by
 have key : ∀ (d a : Nat), a + d + 1 < p.length → (evAt p a).th = (evAt p (a + d + 1)).th → TG (Sb1 p) a (a + d + 1) := by
  intro d
  induction d with
  | zero => intro a h ht; exact .one ⟨rfl, h, ht.symm⟩
  | succ d ih =>
   intro a h ht
   have h1 := hm.between (a := a) (b := a + (d + 1) + 1) (x := a + d + 1) h (by omega) (by omega) ht
   exact (ih a (by omega) (by rw [h1]; exact ht)).trans (.one ⟨by omega, h, h1.symm⟩)
 have := key (y - x - 1) x (by omega) (by rw [show x + (y - x - 1) + 1 = y by omega]; exact h3)
 rwa [show x + (y - x - 1) + 1 = y by omega] at this
theorem S1 {l : List Int} (hp : ∀ k, k < l.length → 0 ≤ Ae l k) {x y : Nat} (h : Co1 l x y) : TG (Fo1 l) x y := by
 obtain ⟨i, j, fV, hj, h1, h2⟩ := h
 have key : ∀ (d j a b : Nat), j + d + 1 < l.length → Ae l j = a → Ae l (j + d + 1) = b → TG (Fo1 l) a b := by
  intro d
  induction d with
  | zero => intro j a b h ha hb; exact .one ⟨j, h, ha, hb⟩
  | succ d ih =>
   intro j a b h ha hb
   have h1 := hp (j + d + 1) (by omega)
   obtain ⟨c, hc⟩ : ∃ c : Nat, Ae l (j + d + 1) = c := ⟨(Ae l (j + d + 1)).toNat, by omega⟩
   exact (ih j a c (by omega) ha hc).trans (.one ⟨j + d + 1, by omega, hc, by rw [← hb]; congr 1⟩)
 exact key (j - i - 1) i x y (by omega) h1 (by rw [show i + (j - i - 1) + 1 = j by omega]; exact h2)
theorem Aq7 {l : List Int} {x y : Nat} (h : Fo1 l x y) : Co1 l x y := by
 obtain ⟨j, h1, h2, h3⟩ := h; exact ⟨j, j + 1, by omega, h1, h2, h3⟩
theorem Aq8 {p : List Ev} {x y : Nat} (h : Sb1 p x y) : x < y ∧ y < p.length ∧ (evAt p x).th = (evAt p y).th := ⟨by have := h.1; omega, h.2.1, h.2.2.symm⟩
section
variable {p : List Ev} {e : Exec} (hl : p.length ≤ 16) (hm : Nn p) (hs : Shape p e)
include hl hm hs
theorem Xy : ∀ k, k < e.fen.length → 0 ≤ Ae e.fen k ∧ Ae e.fen k < 16 := fun k hk => by
 have := ((hs.xok (.inr trivial)).fin.1).num hk; omega
theorem Am6 {x y : Nat} : A3 (Am5 p e) x y = true ↔ TG (fun a b => Sb1 p a b ∨ Fo1 e.fen a b ∨ Rf e p.length a b) x y := by
 have hx := hs.xok (.inr trivial)
 have hf := Xy hl hm hs
 rw [Am5, Dk (unionR_ok (thrR_ok hl) (unionR_ok (fromR_ok hl) (turnsR_ok hf)))]
 have cp : ∀ a b, A3 (C3 (Uh p) (C3 (Hr p e) (F0 e.fen))) a b = true ↔ (a < b ∧ b < p.length ∧ (evAt p a).th = (evAt p b).th) ∨ Rf e p.length a b ∨ Co1 e.fen a b := fun a b => by
  rw [Bv (Fz p) (by rw [Ek, Ea]), Xw hl, Bv (Ea p e) (Gy _), Uj hl (fun i hi => (hx.fr i hi).1), Lp hf]
 refine TG.iff (fun a b h => ?_) (fun a b h => .one ((cp a b).2 ?_))
 ·rcases (cp a b).1 h with ⟨h1, h2, h3⟩ | h | h
  ·exact (S0 hm h1 h2 h3).mono fun _ _ k => .inl k
  ·exact .one (.inr (.inr h))
  ·exact (S1 (fun k hk => (hf k hk).1) h).mono fun _ _ k => .inr (.inl k)
 ·rcases h with h | h | h
  ·exact .inl (Aq8 h)
  ·exact .inr (.inr (Aq7 h))
  ·exact .inr (.inl h)
theorem S2 (al : Tz p e) {x y : Nat} : A3 (Ns p e) x y = true ↔ Hb p e x y := by
 have hf := Xy hl hm hs
 rw [Ns, Dk (unionR_ok (thrR_ok hl) (unionR_ok (meetsR_ok hl) (turnsR_ok hf)))]
 have cp : ∀ a b, A3 (C3 (Uh p) (C3 (Ky p e) (F0 e.fen))) a b = true ↔ (a < b ∧ b < p.length ∧ (evAt p a).th = (evAt p b).th) ∨ Sw p e a b ∨ Co1 e.fen a b := fun a b => by
  rw [Bv (Fz p) (by rw [Ek, Em]), Xw hl, Bv (Em p e) (Gy _), Y8 hl hs al, Lp hf]
 refine TG.iff (fun a b h => ?_) (fun a b h => .one ((cp a b).2 ?_))
 ·rcases (cp a b).1 h with ⟨h1, h2, h3⟩ | h | h
  ·exact (S0 hm h1 h2 h3).mono fun _ _ k => .inl k
  ·exact .one (.inr (.inr h))
  ·exact (S1 (fun k hk => (hf k hk).1) h).mono fun _ _ k => .inr (.inl k)
 ·rcases h with h | h | h
  ·exact .inl (Aq8 h)
  ·exact .inr (.inr (Aq7 h))
  ·exact .inr (.inl h)
theorem Ag8 : ∀ k, k < 3 → ∀ i, i < (e.ord[k]?.getD []).length → 0 ≤ Ae (e.ord[k]?.getD []) i ∧ Ae (e.ord[k]?.getD []) i < p.length := by
 intro k hk i hi
 have hm : e.ord[k]?.getD [] ∈ e.ord := by
  have : k < e.ord.length := by rw [hs.ol]; exact hk
  rw [lA2 this, lAr]; exact lAm _
 exact ((hs.xok (.inr trivial)).oin _ hm).1.num hi
theorem Un (hp : POk p) {x y : Nat} : A3 (Gl p e) x y = true ↔ Eco p e x y := by
 rw [Gl, Dk (seenR0_ok hl (Ag8 hl hm hs))]
 exact TG.congr fun a b => Y7 hl hp hs
theorem Uo (hp : POk p) (al : Tz p e) : Gz (Ns p e) (Gl p e) = true ↔ Sn p e := by
 unfold Gz Sn
 rw [lAq, Ct]
 refine or_congr (exists_congr fun a => S2 hl hm hs al) ?_
 simp only [lCc, lAn, lA6]
 have ae : RelOk 16 (Ns p e) := (unionR_ok (thrR_ok hl) (unionR_ok (meetsR_ok hl) (turnsR_ok (Xy hl hm hs)))).close
 constructor
 ·rintro ⟨a, _, b, _, h1, h2⟩
  exact ⟨a, b, (S2 hl hm hs al).1 h1, (Un hl hm hs hp).1 h2⟩
 ·rintro ⟨a, b, h1, h2⟩
  have dF := (S2 hl hm hs al).2 h1
  have := ae.has dF
  exact ⟨a, this.1, b, this.2, dF, (Un hl hm hs hp).2 h2⟩
theorem Lq : Bi (Am5 p e) = true ↔ Jt p e := by
 rw [Ct]; exact exists_congr fun a => Am6 hl hm hs
end
inductive Kn (p : List Ev) (f : List Int) : Nat → Int → Prop
 | init {i : Nat} (hi : i < p.length) (hr : (evAt p i).reads = true) (h : B0 f i = -1) : Kn p f i 0
 | store {i w : Nat} (hi : i < p.length) (hr : (evAt p i).reads = true) (h : B0 f i = w) (hk : (evAt p w).op.kind = 1) : Kn p f i (evAt p w).op.v
 | cas {i w : Nat} (hi : i < p.length) (hr : (evAt p i).reads = true) (h : B0 f i = w) (hk : (evAt p w).op.kind = 3 ∨ (evAt p w).op.kind = 4) : Kn p f i (evAt p w).op.w
 | add {i w : Nat} {x : Int} (hi : i < p.length) (hr : (evAt p i).reads = true) (h : B0 f i = w) (hk : (evAt p w).op.kind = 2) (hw : Kn p f w x) : Kn p f i (IntKind.i64.wrap (x + (evAt p w).op.v))
theorem Kn.lt {p : List Ev} {f : List Int} {i : Nat} {x : Int} (h : Kn p f i x) : i < p.length ∧ (evAt p i).reads = true := by cases h <;> exact ⟨by assumption, by assumption⟩
theorem Kn.uniq {p : List Ev} {f : List Int} {i : Nat} {x y : Int} (h : Kn p f i x) (k : Kn p f i y) : x = y := by
 induction h generalizing y with
 | init hi hr h => cases k with
  | init => rfl
  | store _ _ h' => omega
  | cas _ _ h' => omega
  | add _ _ h' => omega
 | @store i w hi hr h hk => cases k with
  | init _ _ h' => omega
  | @store _ w' _ _ h' ak =>
   have : w' = w := by omega
   subst this; rfl
  | @cas _ w' _ _ h' ak =>
   have : w' = w := by omega
   subst this; omega
  | @add _ w' _ _ _ h' ak =>
   have : w' = w := by omega
   subst this; omega
 | @cas i w hi hr h hk => cases k with
  | init _ _ h' => omega
  | @store _ w' _ _ h' ak =>
   have : w' = w := by omega
   subst this; omega
  | @cas _ w' _ _ h' ak =>
   have : w' = w := by omega
   subst this; rfl
  | @add _ w' _ _ _ h' ak =>
   have : w' = w := by omega
   subst this; omega
 | @add i w x hi hr h hk hw ih => cases k with
  | init _ _ h' => omega
  | @store _ w' _ _ h' ak =>
   have : w' = w := by omega
   subst this; omega
  | @cas _ w' _ _ h' ak =>
   have : w' = w := by omega
   subst this; omega
  | @add _ w' y _ _ h' ak fY =>
   have : w' = w := by omega
   subst this; rw [ih fY]
theorem Kn.ends {p : List Ev} {f : List Int} {i : Nat} {x : Int} (h : Kn p f i x) (g : Nat → Nat) (h0 : g 0 = i) (hg : ∀ j, B0 f (g j) = (g (j + 1) : Nat) ∧ (evAt p (g (j + 1))).op.kind = 2) : False := by
 induction h generalizing g with
 | init hi hr h => have := (hg 0).1; rw [h0] at this; omega
 | @store i w hi hr h hk =>
  have h1 := hg 0
  rw [h0, lBg] at h1
  have : w = g 1 := by omega
  rw [this] at hk; omega
 | @cas i w hi hr h hk =>
  have h1 := hg 0
  rw [h0, lBg] at h1
  have : w = g 1 := by omega
  rw [this] at hk; omega
 | @add i w x hi hr h hk hw ih =>
  have h1 := hg 0
  rw [h0, lBg] at h1
  exact ih (fun j => g (j + 1)) (by show g 1 = w; omega) (fun j => hg (j + 1))
theorem Up {n m : Nat} {g : Nat → Nat} {F : Nat → Int} {Q : Nat → Prop} (hm : n ≤ m) (hl : ∀ j, j ≤ m → g j < n) (hg : ∀ j, j < m → F (g j) = (g (j + 1) : Nat) ∧ Q (g (j + 1))) : ∃ G : Nat → Nat, G 0 = g 0 ∧ ∀ j, F (G j) = (G (j + 1) : Nat) ∧ Q (G (j + 1)) := by
 have qB : ∃ a b, a < b ∧ b ≤ m ∧ g a = g b := by
  apply lCo
  intro aP
  have hnd : ((List.range (m + 1)).map g).Nodup := by
   rw [lBt, lDn, lBb]
   intro i j hi hj fV he
   rw [lE1] at hi hj
   simp only [lDk] at he
   exact aP ⟨i, j, fV, by omega, he⟩
  have := Ow n _ hnd (fun x hx => by
   obtain ⟨i, hi, rfl⟩ := lAi.1 hx
   rw [lAn] at hi
   exact hl i (by omega))
  simp at this
  omega
 obtain ⟨a, b, fq, sC, he⟩ := qB
 let red : Nat → Nat := fun j => if j < b then j else a + (j - a) % (b - a)
 have mm : ∀ j, red j < b := by
  intro j
  show (if j < b then j else a + (j - a) % (b - a)) < b
  split
  ·assumption
  ·have := Nat.mod_lt (j - a) (show 0 < b - a by omega); omega
 refine ⟨fun j => g (red j), by show g (red 0) = g 0; congr 1; show (if 0 < b then 0 else _) = 0; rw [if_pos (by omega)], fun j => ?_⟩
 have h1 := hg (red j) (by have := mm j; omega)
 have hs : g (red j + 1) = g (red (j + 1)) := by
  have hr := mm j
  by_cases hj : j + 1 < b
  ·have e1 : red j = j := by show (if j < b then j else _) = j; rw [if_pos (by omega)]
   have e2 : red (j + 1) = j + 1 := by show (if j + 1 < b then j + 1 else _) = j + 1; rw [if_pos hj]
   rw [e1, e2]
  ·have e2 : red (j + 1) = a + (j + 1 - a) % (b - a) := by show (if j + 1 < b then j + 1 else _) = _; rw [if_neg hj]
   have e1 : red j = a + (j - a) % (b - a) := by
    show (if j < b then j else _) = _
    split
    ·rw [lCg (by omega)]; omega
    ·rfl
   rw [e1, e2]
   have eM := Nat.mod_lt (j - a) (show 0 < b - a by omega)
   have qC : (j + 1 - a) % (b - a) = if (j - a) % (b - a) + 1 = b - a then 0 else (j - a) % (b - a) + 1 := by
    have e3 : j + 1 - a = (j - a) + 1 := by omega
    rw [e3]
    split
    ·rename_i h
     rw [Nat.add_mod, ← h]
     rw [h]
     by_cases h1 : b - a = 1
     ·rw [h1]; omega
     ·rw [lCg (show 1 < b - a by omega), h, Nat.mod_self]
    ·rename_i h
     rw [Nat.add_mod]
     by_cases h1 : b - a = 1
     ·rw [h1] at h eM; omega
     ·rw [lCg (show 1 < b - a by omega), lCg (by omega)]
   rw [qC]
   split
   ·rename_i h
    have : a + (j - a) % (b - a) + 1 = b := by omega
    rw [this, lDd]; exact he.symm
   ·rfl
 rw [hs] at h1
 exact h1
section
variable {p : List Ev} {f : List Int}
structure Wd.Knows (p : List Ev) (f : List Int) (s : Wd) : Prop where
 k : ∀ i, s.K i = true → Kn p f i (s.R i)
 t : ∀ i, s.T i = true → ((evAt p i).op.kind = 1 ∧ s.W i = (evAt p i).op.v) ∨ ((evAt p i).op.kind = 2 ∧ ∃ x, Kn p f i x ∧ s.W i = IntKind.i64.wrap (x + (evAt p i).op.v)) ∨ (((evAt p i).op.kind = 3 ∨ (evAt p i).op.kind = 4) ∧ s.W i = (evAt p i).op.w)
theorem Wd.Knows.read {s : Wd} (h : s.Knows p f) {i w : Nat} (hi : i < p.length) (hr : (evAt p i).reads = true) (hw : B0 f i = w) (ht : s.T w = true) : Kn p f i (s.W w) := by
 rcases h.t w ht with ⟨h1, h2⟩ | ⟨h1, x, h2, h3⟩ | ⟨h1, h2⟩
 ·rw [h2]; exact .store hi hr hw h1
 ·rw [h3]; exact .add hi hr hw h1 h2
 ·rw [h2]; exact .cas hi hr hw h1
theorem Uq (hf : C9 p f) {s : Wd} {i : Nat} (hi : i < p.length) (bc : s.Inv p f) (h : s.Knows p f) : (Ce p f s i).Knows p f := by
 have hl := bc.len
 have d7 : i < s.k.length := by rw [hl.k]; exact hi
 have io : i < s.r.length := by rw [hl.r]; exact hi
 unfold Ce
 split
 ·rename_i hc
  simp only [lA6, decide_eq_true_eq] at hc
  have hK : ∀ j, ({ s with k := s.k.set i true } : Wd).K j = if j = i then true else s.K j := fun j => Be d7
  refine ⟨fun j hj => ?_, h.t⟩
  rw [hK] at hj
  by_cases ay : j = i
  ·subst ay
   show Kn p f j (s.R j)
   cases hk : s.K j with
   | true => exact h.k j hk
   | false => rw [bc.n j hk]; exact .init hi hc.1 hc.2
  ·rw [if_neg ay] at hj; exact h.k j hj
 ·split
  ·rename_i hc dS
   simp only [lA6, decide_eq_true_eq, not_and] at hc dS
   have hne : B0 f i ≠ -1 := hc dS.1
   obtain ⟨w, hw⟩ : ∃ w : Nat, B0 f i = w := by
    rcases hf.2 i hi dS.1 with h1 | ⟨h1, _⟩
    ·exact absurd h1 hne
    ·exact ⟨(B0 f i).toNat, by unfold B0; omega⟩
   have gb : (f[i]?.getD 0).toNat = w := by unfold B0 at hw; omega
   rw [gb] at dS
   rw [gb]
   have hK : ∀ j, ({ s with r := s.r.set i (s.w[w]?.getD 0), k := s.k.set i true } : Wd).K j = if j = i then true else s.K j := fun j => Be d7
   have hR : ∀ j, ({ s with r := s.r.set i (s.w[w]?.getD 0), k := s.k.set i true } : Wd).R j = if j = i then s.W w else s.R j := fun j => Be io
   refine ⟨fun j hj => ?_, h.t⟩
   rw [hK] at hj
   rw [hR]
   by_cases ay : j = i
   ·subst ay; rw [if_pos rfl]; exact h.read hi dS.1 hw dS.2
   ·rw [if_neg ay] at hj ⊢; exact h.k j hj
  ·exact h
theorem S3 {s : Wd} {i : Nat} (hi : i < p.length) (hl : s.Len p.length) (h : s.Knows p f) : (Cs p s i).Knows p f := by
 have lN : i < s.w.length := by rw [hl.w]; exact hi
 have cy : i < s.t.length := by rw [hl.t]; exact hi
 have key : ∀ (x : Int) (b : Bool), (b = true → ((evAt p i).op.kind = 1 ∧ x = (evAt p i).op.v) ∨ ((evAt p i).op.kind = 2 ∧ ∃ y, Kn p f i y ∧ x = IntKind.i64.wrap (y + (evAt p i).op.v)) ∨ (((evAt p i).op.kind = 3 ∨ (evAt p i).op.kind = 4) ∧ x = (evAt p i).op.w)) →
   ({ s with w := s.w.set i x, t := s.t.set i b } : Wd).Knows p f := by
  intro x b h2
  have hT : ∀ j, ({ s with w := s.w.set i x, t := s.t.set i b } : Wd).T j = if j = i then b else s.T j := fun j => Be cy
  have hW : ∀ j, ({ s with w := s.w.set i x, t := s.t.set i b } : Wd).W j = if j = i then x else s.W j := fun j => Be lN
  refine ⟨h.k, fun j hj => ?_⟩
  rw [hT] at hj
  rw [hW]
  by_cases ay : j = i
  ·subst ay; rw [if_pos rfl] at hj ⊢; exact h2 hj
  ·rw [if_neg ay] at hj ⊢; exact h.t j hj
 unfold Cs
 split
 ·rename_i hk; exact key _ _ fun _ => .inl ⟨hk, rfl⟩
 ·split
  ·rename_i hk; exact key _ _ fun hb => .inr (.inl ⟨hk, _, h.k i hb, rfl⟩)
  ·split
   ·rename_i hk; exact key _ _ fun _ => .inr (.inr ⟨hk, rfl⟩)
   ·exact h
theorem Pj (hf : C9 p f) {s : Wd} (bc : s.Inv p f) (h : s.Knows p f) : ∀ m, m ≤ p.length → (C8 p f s m).Knows p f
 | 0, _ => h
 | m + 1, hm => by
  have ih := Pj hf bc h m (by omega)
  have hi := (Ez hf bc m (by omega)).1
  exact S3 (by omega) (Re hf (i := m) (by omega) hi).1.len (Uq hf (by omega) hi ih)
theorem Mm (hf : C9 p f) : ∀ k, (Bk p f k).Knows p f
 | 0 => by
  have hT : ∀ i, (wd0 p.length).T i = false := fun i => by simp only [Wd.T, wd0, lBv]; split <;> rfl
  have hK : ∀ i, (wd0 p.length).K i = false := fun i => by simp only [Wd.K, wd0, lBv]; split <;> rfl
  exact ⟨fun i h => absurd ((hK i).symm.trans h) (by decide), fun i h => absurd ((hT i).symm.trans h) (by decide)⟩
 | k + 1 => Pj hf (Dl hf k) (Mm hf k) _ (lA5 _)
theorem Mn (hf : C9 p f) (hs : Ll p f) : ∀ (m i : Nat), i < p.length → (evAt p i).reads = true → (Bk p f (m + 1)).K i = false →
  ∃ g : Nat → Nat, g 0 = i ∧ (∀ j, j ≤ m → g j < p.length) ∧ ∀ j, j < m → B0 f (g j) = (g (j + 1) : Nat) ∧ (evAt p (g (j + 1))).op.kind = 2
 | 0, i, hi, _, _ => ⟨fun _ => i, rfl, fun _ _ => hi, fun j hj => by omega⟩
 | m + 1, i, hi, hr, hk => by
  obtain ⟨_, _, h3, _, _⟩ := Ez hf (Dl hf (m + 1)) p.length (lA5 _)
  obtain ⟨_, _, _, k4, _⟩ := Ez hf (Dl hf m) p.length (lA5 _)
  have hn : B0 f i ≠ -1 := fun e => by
   have := h3 i hi ⟨hr, .inl e⟩
   rw [show C8 p f (Bk p f (m + 1)) p.length = Bk p f (m + 1 + 1) from rfl, hk] at this; cases this
  obtain ⟨w, hw⟩ : ∃ w : Nat, B0 f i = w := by
   rcases hf.2 i hi hr with h1 | ⟨h1, _⟩
   ·exact absurd h1 hn
   ·exact ⟨(B0 f i).toNat, by unfold B0; omega⟩
  obtain ⟨cF, bs, tU⟩ := hs i w hi hr hw
  have hT : (Bk p f (m + 1)).T w = false := by
   cases ht : (Bk p f (m + 1)).T w with
   | false => rfl
   | true =>
    have := h3 i hi ⟨hr, .inr ⟨w, hw, ht⟩⟩
    rw [show C8 p f (Bk p f (m + 1)) p.length = Bk p f (m + 1 + 1) from rfl, hk] at this; cases this
  have bh : (evAt p w).op.kind = 2 := by
   apply lBc; intro h2
   have := k4 w cF (by omega)
   rw [show C8 p f (Bk p f m) p.length = Bk p f (m + 1) from rfl, hT] at this; cases this
  have j7 : (Bk p f (m + 1)).K w = false := by
   cases ht : (Bk p f (m + 1)).K w with
   | false => rfl
   | true =>
    have := k4 w cF (.inr (.inl ⟨bh, ht⟩))
    rw [show C8 p f (Bk p f m) p.length = Bk p f (m + 1) from rfl, hT] at this; cases this
  obtain ⟨g, g1, g2, g3⟩ := Mn hf hs m w cF (by simp [Ev.reads, bh]) j7
  refine ⟨fun j => if j = 0 then i else g (j - 1), rfl, fun j hj => ?_, fun j hj => ?_⟩
  ·by_cases h0 : j = 0
   ·simp [h0, hi]
   ·simp only [h0, if_false]; exact g2 _ (by omega)
  ·by_cases h0 : j = 0
   ·subst h0; simpa [g1] using ⟨hw, bh⟩
   ·have := g3 (j - 1) (by omega)
    rw [show j - 1 + 1 = j by omega] at this
    simpa [h0] using this
theorem Wj (hf : C9 p f) (hs : Ll p f) {i : Nat} (hi : i < p.length) (hr : (evAt p i).reads = true) : ((Aw p f).K i = true ↔ ∃ x, Kn p f i x) ∧ ∀ x, Kn p f i x → (Aw p f).R i = x := by
 have hk := Mm hf (p.length + 1)
 have hall : ∀ x, Kn p f i x → (Aw p f).K i = true := by
  intro x hx
  cases h : (Aw p f).K i with
  | true => rfl
  | false =>
   exfalso
   obtain ⟨g, g1, g2, g3⟩ := Mn hf hs p.length i hi hr h
   obtain ⟨G, e1, e2⟩ := Up (F := B0 f) (Q := fun w => (evAt p w).op.kind = 2) (lA5 _) g2 g3
   exact hx.ends G (e1.trans g1) e2
 refine ⟨⟨fun h => ⟨_, hk.k i h⟩, fun ⟨x, hx⟩ => hall x hx⟩, fun x hx => (hk.k i (hall x hx)).uniq hx⟩
end
def Am7 (p : List Ev) (e : Exec) : Prop := ∀ i x, Kn p e.frm i x →
 ((evAt p i).op.kind = 3 → (Ci e.dn i = true ↔ x = (evAt p i).op.v)) ∧ ((evAt p i).op.kind = 4 → Ci e.dn i = true → x = (evAt p i).op.v)
theorem Rq {p : List Ev} {e : Exec} (hs : Shape p e) (al : Tz p e) {i : Nat} (hi : i < p.length) (hr : (evAt p i).reads = true) : Kn p e.frm i ((Aw p e.frm).R i) := by
 have h := Hn hs.fromOk hs.srcOk al hi hr
 obtain ⟨x, hx⟩ := (Wj hs.fromOk hs.srcOk hi hr).1.1 h
 rw [(Wj hs.fromOk hs.srcOk hi hr).2 x hx]; exact hx
theorem Ur {p : List Ev} {e : Exec} (hs : Shape p e) (al : Tz p e) : Am7 p e ↔ T6 p e := by
 constructor
 ·intro h i hi
  refine ⟨fun k3 => ?_, fun k4 => ?_⟩
  ·exact (h i _ (Rq hs al hi (by simp [Ev.reads, k3]))).1 k3
  ·exact (h i _ (Rq hs al hi (by simp [Ev.reads, k4]))).2 k4
 ·intro h i x hx
  obtain ⟨hi, hr⟩ := hx.lt
  have := (Wj hs.fromOk hs.srcOk hi hr).2 x hx
  rw [← this]; exact h i hi
open Classical in
noncomputable def Us (p : List Ev) (e : Exec) : Int :=
 if Shape p e ∧ Am7 p e then (if Jt p e then 2 else if Sn p e then 3 else if O2 p e then 0 else 4) else 1
theorem Y9 {p : List Ev} (hp : POk p) (hm : Nn p) {e : Exec} : Us p e = 0 ↔ e ∈ Ca p := by
 rw [Np hp hm]
 unfold Us
 constructor
 ·intro h
  split at h
  ·rename_i hs
   split at h
   ·cases h
   ·rename_i hr
    split at h
    ·cases h
    ·rename_i hc
     split at h
     ·rename_i hn
      exact ⟨hs.1, (Ur hs.1 (JQ hr)).1 hs.2, ⟨hr, hc, hn⟩⟩
     ·cases h
  ·cases h
 ·rintro ⟨hs, hw, hc⟩
  rw [if_pos ⟨hs, (Ur hs (JQ hc.round)).2 hw⟩, if_neg hc.round, if_neg hc.cross, if_pos hc.next]
end Go.EV
