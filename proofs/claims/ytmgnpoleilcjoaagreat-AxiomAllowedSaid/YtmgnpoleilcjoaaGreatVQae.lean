/- Part of the proof of a statement about executions of litmus programs: walks and laws. -/
import Derived.Test.YtmgnpoleilcjoaaGreatVQad
import Derived.Test.YtmgnpoleilcjoaaGreatVQac
set_option maxHeartbeats 8000000
set_option maxRecDepth 8000
set_option linter.unusedSimpArgs false
set_option linter.unusedVariables false
set_option linter.unusedSectionVars false
namespace Go.EV
open Go.Proofs
structure Rk where
 r : List Int
 l : List Int
 k : List Bool
 f : List Bool
def Rk.R (s : Rk) (i : Nat) : Int := s.r[i]?.getD 0
def Rk.L (s : Rk) (i : Nat) : Int := s.l[i]?.getD 0
def Rk.K (s : Rk) (i : Nat) : Bool := s.k[i]?.getD false
def Rk.F (s : Rk) (i : Nat) : Bool := s.f[i]?.getD false
structure Rk.Len (s : Rk) (n : Nat) : Prop where
 r : s.r.length = n
 l : s.l.length = n
 k : s.k.length = n
 f : s.f.length = n
def Sa (p : List Ev) (i : Nat) (s : Rk) : Rk :=
 { s with f := s.f.set i (decide ((evAt p i).op.kind ≠ 2)), l := if (evAt p i).op.kind = 1 then s.l.set i (evAt p i).op.v else if (evAt p i).op.kind = 3 ∨ (evAt p i).op.kind = 4 then s.l.set i (evAt p i).op.w else s.l }
def rk0 (p : List Ev) : Rk := Ag (Sa p) p.length ⟨List.replicate p.length 0, List.replicate p.length 0, List.replicate p.length false, List.replicate p.length false⟩
def B5 (f : List Int) (i : Nat) (s : Rk) : Rk := { s with k := s.k.set i true, r := if 0 ≤ B4 f i then s.r.set i (s.l[(B4 f i).toNat]?.getD 0) else s.r }
def Hg (p : List Ev) (i : Nat) (s : Rk) : Rk := if (evAt p i).op.kind = 2 then { s with l := s.l.set i (IntKind.i64.wrap (s.r[i]?.getD 0 + (evAt p i).op.v)), f := s.f.set i true } else s
def C8 (p : List Ev) (f : List Int) (i : Nat) (s : Rk) : Rk :=
 if s.K i || (decide (0 ≤ B4 f i) && !s.F (B4 f i).toNat) then s else Hg p i (B5 f i s)
def Jx (p : List Ev) (f : List Int) (s : Rk) : Rk := Ag (C8 p f) p.length s
def Bh (p : List Ev) (f : List Int) : Rk := Ag (fun _ s => Jx p f s) (p.length + 1) (rk0 p)
section
variable {p : List Ev} {f : List Int}
structure Rk.Ok (p : List Ev) (f : List Int) (s : Rk) : Prop where
 len : s.Len p.length
 out : ∀ i, i < p.length → (evAt p i).reads = false → s.R i = 0
 kn : ∀ i, i < p.length → (evAt p i).reads = true → s.K i = true → Kn p f i (s.R i)
 no : ∀ i, s.K i = false → s.R i = 0
 st : ∀ i, i < p.length → (evAt p i).op.kind = 1 → s.F i = true ∧ s.L i = (evAt p i).op.v
 cs : ∀ i, i < p.length → ((evAt p i).op.kind = 3 ∨ (evAt p i).op.kind = 4) → s.F i = true ∧ s.L i = (evAt p i).op.w
 ad : ∀ i, i < p.length → (evAt p i).op.kind = 2 → (s.F i = true ↔ s.K i = true) ∧ (s.K i = true → s.L i = IntKind.i64.wrap (s.R i + (evAt p i).op.v))
theorem Y2 (p : List Ev) : ∀ m, m ≤ p.length → (Ag (Sa p) m ⟨List.replicate p.length 0, List.replicate p.length 0, List.replicate p.length false, List.replicate p.length false⟩).Len p.length ∧
  (∀ i, (Ag (Sa p) m ⟨List.replicate p.length 0, List.replicate p.length 0, List.replicate p.length false, List.replicate p.length false⟩).R i = 0) ∧
  (∀ i, (Ag (Sa p) m ⟨List.replicate p.length 0, List.replicate p.length 0, List.replicate p.length false, List.replicate p.length false⟩).K i = false) ∧
  (∀ i, (Ag (Sa p) m ⟨List.replicate p.length 0, List.replicate p.length 0, List.replicate p.length false, List.replicate p.length false⟩).F i = (decide (i < m) && decide ((evAt p i).op.kind ≠ 2))) ∧
  (∀ i, i < m → ((evAt p i).op.kind = 1 → (Ag (Sa p) m ⟨List.replicate p.length 0, List.replicate p.length 0, List.replicate p.length false, List.replicate p.length false⟩).L i = (evAt p i).op.v) ∧
   (((evAt p i).op.kind = 3 ∨ (evAt p i).op.kind = 4) → (Ag (Sa p) m ⟨List.replicate p.length 0, List.replicate p.length 0, List.replicate p.length false, List.replicate p.length false⟩).L i = (evAt p i).op.w))
 | 0, _ => by
  refine ⟨⟨by simp [Ag], by simp [Ag], by simp [Ag], by simp [Ag]⟩, fun i => ?_, fun i => ?_, fun i => ?_, fun i h => by omega⟩
  ·simp only [Ag, Rk.R, lBy]; split <;> rfl
  ·simp only [Ag, Rk.K, lBy]; split <;> rfl
  ·simp only [Ag, Rk.F, lBy]
   have : decide (i < 0) = false := decide_eq_false (lBn _)
   rw [this, lCc]; split <;> rfl
 | m + 1, hm => by
  obtain ⟨hl, h1, h2, h3, h4⟩ := Y2 p m (by omega)
  rw [Ag]
  generalize Ag (Sa p) m ⟨List.replicate p.length 0, List.replicate p.length 0, List.replicate p.length false, List.replicate p.length false⟩ = s at hl h1 h2 h3 h4 ⊢
  have aj : m < s.f.length := by rw [hl.f]; omega
  have bL : m < s.l.length := by rw [hl.l]; omega
  refine ⟨⟨hl.r, ?_, hl.k, by simp [Sa, hl.f]⟩, h1, h2, fun i => ?_, fun i hi => ?_⟩
  ·unfold Sa; dsimp only; split
   ·simp [hl.l]
   ·split <;> simp [hl.l]
  ·show (s.f.set m (decide ((evAt p m).op.kind ≠ 2)))[i]?.getD false = _
   rw [Bg aj]
   by_cases gC : i = m
   ·subst gC; simp
   ·rw [if_neg gC]
    have : decide (i < m + 1) = decide (i < m) := by rw [decide_eq_decide]; omega
    rw [this]; exact h3 i
  ·have hL : (Sa p m s).L i = if i = m then (if (evAt p m).op.kind = 1 then (evAt p m).op.v else if (evAt p m).op.kind = 3 ∨ (evAt p m).op.kind = 4 then (evAt p m).op.w else s.L i) else s.L i := by
    unfold Sa Rk.L
    dsimp only
    split
    ·rw [Bg bL]
    ·split
     ·rw [Bg bL]
     ·split <;> rfl
   rw [hL]
   by_cases gC : i = m
   ·subst gC
    rw [if_pos rfl]
    refine ⟨fun hk => by rw [if_pos hk], fun hk => by rw [if_neg (by omega), if_pos hk]⟩
   ·rw [if_neg gC]; exact h4 i (by omega)
theorem rk0_ok (p : List Ev) (f : List Int) : (rk0 p).Ok p f := by
 obtain ⟨hl, h1, h2, h3, h4⟩ := Y2 p p.length (lA5 _)
 refine ⟨hl, fun i _ _ => h1 i, fun i _ _ h => ?_, fun i _ => h1 i, fun i hi hk => ⟨?_, (h4 i hi).1 hk⟩, fun i hi hk => ⟨?_, (h4 i hi).2 hk⟩, fun i hi hk => ⟨?_, fun h => ?_⟩⟩
 ·have := h2 i
  rw [show (rk0 p).K i = false from this] at h; cases h
 ·show (rk0 p).F i = true
  have := h3 i
  rw [show (rk0 p).F i = _ from this, decide_eq_true hi]; simp [hk]
 ·show (rk0 p).F i = true
  have := h3 i
  rw [show (rk0 p).F i = _ from this, decide_eq_true hi]; simp; omega
 ·have e1 : (rk0 p).K i = false := h2 i
  have e2 : (rk0 p).F i = _ := h3 i
  rw [e1, e2]; simp [hk]
 ·have e1 : (rk0 p).K i = false := h2 i
  rw [e1] at h; cases h
theorem rkStep_ok (hf : Df p f) (hs : L7 p f) (aZ : ∀ i, i < p.length → (evAt p i).reads = false → B4 f i < 0) {s : Rk} {i : Nat} (hi : i < p.length) (h : s.Ok p f) : (C8 p f i s).Ok p f := by
 unfold C8
 split
 ·exact h
 rename_i hc
 simp only [lAr, lA6, decide_eq_true_eq, lB6, not_or, not_and, lEr] at hc
 obtain ⟨kW, qn⟩ := hc
 have hl := h.len
 have eT : i < s.k.length := by rw [hl.k]; exact hi
 have jP : i < s.r.length := by rw [hl.r]; exact hi
 obtain ⟨x, hx, gn⟩ : ∃ x, (B5 f i s).r = (if 0 ≤ B4 f i then s.r.set i x else s.r) ∧ ((evAt p i).reads = true → Kn p f i (if 0 ≤ B4 f i then x else s.R i)) := by
  refine ⟨s.l[(B4 f i).toNat]?.getD 0, rfl, fun hr => ?_⟩
  rcases hf.2 i hi hr with h0 | ⟨h0, h1⟩
  ·have oz : B4 f i = -1 := h0
   rw [if_neg (by omega), h.no i kW]; exact .init hi hr oz
  ·have oz : 0 ≤ B4 f i := h0
   rw [if_pos oz]
   obtain ⟨w, hw⟩ : ∃ w : Nat, B4 f i = w := ⟨(B4 f i).toNat, by omega⟩
   have cl : (B4 f i).toNat = w := by omega
   obtain ⟨cY, k1, k4⟩ := hs i w hi hr hw
   have hF : s.F w = true := by
    have := qn oz
    rw [cl] at this
    simpa using this
   rw [cl]
   show Kn p f i (s.L w)
   by_cases q1 : (evAt p w).op.kind = 1
   ·rw [(h.st w cY q1).2]; exact .store hi hr hw q1
   ·by_cases q2 : (evAt p w).op.kind = 2
    ·obtain ⟨a1, a2⟩ := h.ad w cY q2
     have jr := a1.1 hF
     rw [a2 jr]; exact .add hi hr hw q2 (h.kn w cY (by simp [Ev.reads, q2]) jr)
    ·rw [(h.cs w cY (by omega)).2]; exact .cas hi hr hw (by omega)
 have qp : ∀ j, (B5 f i s).R j = if j = i ∧ 0 ≤ B4 f i then x else s.R j := by
  intro j
  unfold Rk.R
  rw [hx]
  by_cases h0 : 0 ≤ B4 f i
  ·rw [if_pos h0, Bg jP]
   by_cases bD : j = i
   ·rw [if_pos bD, if_pos ⟨bD, h0⟩]
   ·rw [if_neg bD, if_neg (fun h => bD h.1)]
  ·rw [if_neg h0, if_neg (fun h => h0 h.2)]
 have nU : ∀ j, (B5 f i s).K j = if j = i then true else s.K j := fun j => Bg eT
 have tG : (B5 f i s).l = s.l := rfl
 have tH : (B5 f i s).f = s.f := rfl
 have dE : (B5 f i s).Len p.length := ⟨by rw [hx]; split <;> simp [hl.r], hl.l, by simp [B5, hl.k], hl.f⟩
 have hne : ∀ j, j ≠ i → (B5 f i s).R j = s.R j := fun j hj => by rw [qp, if_neg (fun h => hj h.1)]
 have jy : ∀ j, j < p.length → (evAt p j).reads = false → (B5 f i s).R j = 0 := fun j hj hr => by
  rw [qp]
  split
  ·rename_i hc; have := aZ j hj hr; rw [hc.1] at this; omega
  ·exact h.out j hj hr
 have nV : ∀ j, j < p.length → (evAt p j).reads = true → (B5 f i s).K j = true → Kn p f j ((B5 f i s).R j) := fun j hj hr d9 => by
  by_cases bD : j = i
  ·subst bD
   have := gn hr
   rw [qp]
   by_cases h0 : 0 ≤ B4 f j
   ·rw [if_pos h0] at this; rw [if_pos ⟨rfl, h0⟩]; exact this
   ·rw [if_neg h0] at this; rw [if_neg (fun h => h0 h.2)]; exact this
  ·rw [hne j bD]; rw [nU, if_neg bD] at d9; exact h.kn j hj hr d9
 have nW : ∀ j, (B5 f i s).K j = false → (B5 f i s).R j = 0 := fun j d9 => by
  rw [nU] at d9
  by_cases bD : j = i
  ·rw [if_pos bD] at d9; cases d9
  ·rw [if_neg bD] at d9; rw [hne j bD]; exact h.no j d9
 unfold Hg
 split
 ·rename_i cU
  have cZ : i < (B5 f i s).l.length := by rw [dE.l]; exact hi
  have kz : i < (B5 f i s).f.length := by rw [dE.f]; exact hi
  generalize bz : B5 f i s = s1 at *
  have lP : ∀ j, ({ s1 with l := s1.l.set i (IntKind.i64.wrap (s1.r[i]?.getD 0 + (evAt p i).op.v)), f := s1.f.set i true } : Rk).L j = if j = i then IntKind.i64.wrap (s1.R i + (evAt p i).op.v) else s.L j := fun j => by
   show (s1.l.set i _)[j]?.getD 0 = _
   rw [Bg cZ]; split
   ·rfl
   ·show s1.l[j]?.getD 0 = _; rw [tG]; rfl
  have lQ : ∀ j, ({ s1 with l := s1.l.set i (IntKind.i64.wrap (s1.r[i]?.getD 0 + (evAt p i).op.v)), f := s1.f.set i true } : Rk).F j = if j = i then true else s.F j := fun j => by
   show (s1.f.set i true)[j]?.getD false = _
   rw [Bg kz]; split
   ·rfl
   ·show s1.f[j]?.getD false = _; rw [tH]; rfl
  refine ⟨⟨dE.r, by simp [dE.l], dE.k, by simp [dE.f]⟩, jy, nV, nW, fun j hj d9 => ?_, fun j hj d9 => ?_, fun j hj d9 => ?_⟩
  ·rw [lQ, lP, if_neg (fun e => by subst e; omega), if_neg (fun e => by subst e; omega)]; exact h.st j hj d9
  ·rw [lQ, lP, if_neg (fun e => by subst e; omega), if_neg (fun e => by subst e; omega)]; exact h.cs j hj d9
  ·rw [lQ, lP]
   show ((if j = i then true else s.F j) = true ↔ s1.K j = true) ∧ (s1.K j = true → _ = IntKind.i64.wrap (s1.R j + _))
   by_cases bD : j = i
   ·subst bD
    rw [if_pos rfl, if_pos rfl, nU, if_pos rfl]
    exact ⟨Iff.rfl, fun _ => rfl⟩
   ·rw [if_neg bD, if_neg bD, nU, if_neg bD, hne j bD]
    exact h.ad j hj d9
 ·rename_i cU
  have lP : ∀ j, (B5 f i s).L j = s.L j := fun j => by unfold Rk.L; rw [tG]
  have lQ : ∀ j, (B5 f i s).F j = s.F j := fun j => by unfold Rk.F; rw [tH]
  refine ⟨dE, jy, nV, nW, fun j hj d9 => ?_, fun j hj d9 => ?_, fun j hj d9 => ?_⟩
  ·rw [lQ, lP]; exact h.st j hj d9
  ·rw [lQ, lP]; exact h.cs j hj d9
  ·have bD : j ≠ i := fun e => by subst e; exact cU d9
   rw [lQ, lP, nU, if_neg bD, hne j bD]
   exact h.ad j hj d9
theorem Vg {s : Rk} {i x : Nat} (hl : i < s.k.length) (h : s.K x = true) : (C8 p f i s).K x = true := by
 unfold C8
 split
 ·exact h
 ·have h1 : (B5 f i s).K x = true := by
   show (s.k.set i true)[x]?.getD false = true
   rw [Bg hl]; split
   ·rfl
   ·exact h
  unfold Hg
  split
  ·exact h1
  ·exact h1
theorem Xj {s : Rk} {i : Nat} (hl : i < s.k.length) (h : B4 f i < 0 ∨ s.F (B4 f i).toNat = true) : (C8 p f i s).K i = true := by
 unfold C8
 split
 ·rename_i hc
  simp only [lAr, lA6, decide_eq_true_eq, lB6] at hc
  rcases hc with hc | ⟨h0, h1⟩
  ·exact hc
  ·rcases h with h | h
   ·omega
   ·rw [h] at h1; cases h1
 ·have h1 : (B5 f i s).K i = true := by
   show (s.k.set i true)[i]?.getD false = true
   rw [Bg hl, if_pos rfl]
  unfold Hg
  split
  ·exact h1
  ·exact h1
theorem Ab9 {s : Rk} {i x : Nat} (hl : i < s.f.length) (h : s.F x = true) : (C8 p f i s).F x = true := by
 unfold C8
 split
 ·exact h
 ·have h1 : (B5 f i s).F x = true := h
  unfold Hg
  split
  ·show ((B5 f i s).f.set i true)[x]?.getD false = true
   rw [Bg (by exact hl)]; split
   ·rfl
   ·exact h1
  ·exact h1
theorem Od (hf : Df p f) (hs : L7 p f) (aZ : ∀ i, i < p.length → (evAt p i).reads = false → B4 f i < 0) {s : Rk} (h : s.Ok p f) : ∀ m, m ≤ p.length → (Ag (C8 p f) m s).Ok p f ∧
  (∀ x, s.K x = true → (Ag (C8 p f) m s).K x = true) ∧ (∀ x, s.F x = true → (Ag (C8 p f) m s).F x = true) ∧
  (∀ i, i < m → (B4 f i < 0 ∨ s.F (B4 f i).toNat = true) → (Ag (C8 p f) m s).K i = true)
 | 0, _ => ⟨h, fun _ h => h, fun _ h => h, fun i hi => by omega⟩
 | m + 1, hm => by
  obtain ⟨h1, h2, h3, h4⟩ := Od hf hs aZ h m (by omega)
  have hk : m < (Ag (C8 p f) m s).k.length := by rw [h1.len.k]; omega
  have tI : m < (Ag (C8 p f) m s).f.length := by rw [h1.len.f]; omega
  refine ⟨rkStep_ok hf hs aZ (by omega) h1, fun x hx => Vg hk (h2 x hx), fun x hx => Ab9 tI (h3 x hx), fun i hi hx => ?_⟩
  by_cases gC : i = m
  ·subst gC
   exact Xj hk (hx.imp id (h3 _))
  ·exact Vg hk (h4 i (by omega) hx)
theorem rkAll_ok (hf : Df p f) (hs : L7 p f) (aZ : ∀ i, i < p.length → (evAt p i).reads = false → B4 f i < 0) : ∀ k, (Ag (fun _ s => Jx p f s) k (rk0 p)).Ok p f
 | 0 => rk0_ok p f
 | k + 1 => (Od hf hs aZ (rkAll_ok hf hs aZ k) _ (lA5 _)).1
theorem Sb (hf : Df p f) (hs : L7 p f) (aZ : ∀ i, i < p.length → (evAt p i).reads = false → B4 f i < 0) : ∀ (m i : Nat), i < p.length → (evAt p i).reads = true → (Ag (fun _ s => Jx p f s) (m + 1) (rk0 p)).K i = false →
  ∃ g : Nat → Nat, g 0 = i ∧ (∀ j, j ≤ m → g j < p.length) ∧ ∀ j, j < m → B4 f (g j) = (g (j + 1) : Nat) ∧ (evAt p (g (j + 1))).op.kind = 2
 | 0, i, hi, _, _ => ⟨fun _ => i, rfl, fun _ _ => hi, fun j hj => by omega⟩
 | m + 1, i, hi, hr, hk => by
  have ai := rkAll_ok hf hs aZ (m + 1)
  obtain ⟨_, _, _, h4⟩ := Od hf hs aZ ai _ (lA5 _)
  have aI : ¬ (B4 f i < 0 ∨ (Ag (fun _ s => Jx p f s) (m + 1) (rk0 p)).F (B4 f i).toNat = true) := fun h => by
   have : (Ag (fun _ s => Jx p f s) (m + 1 + 1) (rk0 p)).K i = true := h4 i hi h
   rw [hk] at this; cases this
  have h0 : ¬ B4 f i < 0 := fun h => aI (.inl h)
  obtain ⟨w, hw⟩ : ∃ w : Nat, B4 f i = w := ⟨(B4 f i).toNat, by omega⟩
  have cl : (B4 f i).toNat = w := by omega
  have hF : ¬ (Ag (fun _ s => Jx p f s) (m + 1) (rk0 p)).F w = true := fun h => aI (.inr (by rw [cl]; exact h))
  obtain ⟨cY, k1, k4⟩ := hs i w hi hr hw
  have cU : (evAt p w).op.kind = 2 := by
   apply lBe; intro h2
   by_cases q1 : (evAt p w).op.kind = 1
   ·exact hF (ai.st w cY q1).1
   ·exact hF (ai.cs w cY (by omega)).1
  have jr : (Ag (fun _ s => Jx p f s) (m + 1) (rk0 p)).K w = false := by
   cases hq : (Ag (fun _ s => Jx p f s) (m + 1) (rk0 p)).K w with
   | false => rfl
   | true => exact absurd ((ai.ad w cY cU).1.2 hq) hF
  obtain ⟨g, g1, g2, g3⟩ := Sb hf hs aZ m w cY (by simp [Ev.reads, cU]) jr
  refine ⟨fun j => if j = 0 then i else g (j - 1), rfl, fun j hj => ?_, fun j hj => ?_⟩
  ·by_cases h0 : j = 0
   ·simp [h0, hi]
   ·simp only [h0, if_false]; exact g2 _ (by omega)
  ·by_cases h0 : j = 0
   ·subst h0; simpa [g1] using ⟨hw, cU⟩
   ·have := g3 (j - 1) (by omega)
    rw [show j - 1 + 1 = j by omega] at this
    simpa [h0] using this
theorem Bj1 (hf : Df p f) (hs : L7 p f) (aZ : ∀ i, i < p.length → (evAt p i).reads = false → B4 f i < 0) {i : Nat} (hi : i < p.length) (hr : (evAt p i).reads = true) : ((Bh p f).K i = true ↔ ∃ x, Kn p f i x) ∧ ∀ x, Kn p f i x → (Bh p f).R i = x := by
 have ai := rkAll_ok hf hs aZ (p.length + 1)
 have hall : ∀ x, Kn p f i x → (Bh p f).K i = true := by
  intro x hx
  cases h : (Bh p f).K i with
  | true => rfl
  | false =>
   exfalso
   obtain ⟨g, g1, g2, g3⟩ := Sb hf hs aZ p.length i hi hr h
   obtain ⟨G, e1, e2⟩ := Vd (F := B4 f) (Q := fun w => (evAt p w).op.kind = 2) (lA5 _) g2 g3
   exact hx.ends G (e1.trans g1) e2
 exact ⟨⟨fun h => ⟨_, ai.kn i hi hr h⟩, fun ⟨x, hx⟩ => hall x hx⟩, fun x hx => (ai.kn i hi hr (hall x hx)).uniq hx⟩
theorem Ak5 (hf : Df p f) (hs : L7 p f) (aZ : ∀ i, i < p.length → (evAt p i).reads = false → B4 f i < 0) {i : Nat} (hi : i < p.length) (hr : (evAt p i).reads = false) : (Bh p f).K i = true :=
 (Od hf hs aZ (rkAll_ok hf hs aZ p.length) _ (lA5 _)).2.2.2 i hi (.inl (aZ i hi hr))
end
theorem Shape.outLt {p : List Ev} {e : Exec} (h : Shape p e) : ∀ i, i < p.length → (evAt p i).reads = false → B4 e.frm i < 0 := fun i hi hr => by
 have : B4 e.frm i = -2 := h.out i hi hr
 omega
theorem Ap8 {p : List Ev} {e : Exec} (hs : Shape p e) (ap : T8 p e) : ∀ i, i < p.length → (Bh p e.frm).R i = (Aw p e.frm).R i ∧ (1 ≤ (evAt p i).op.kind → (evAt p i).op.kind ≤ 4 → (Bh p e.frm).L i = (Aw p e.frm).W i) := by
 intro i hi
 have ai := rkAll_ok hs.fromOk hs.srcOk hs.outLt (p.length + 1)
 have hw := hs.words ap
 have hR : (Bh p e.frm).R i = (Aw p e.frm).R i := by
  cases hr : (evAt p i).reads with
  | false => rw [hw.out i hi hr]; exact ai.out i hi hr
  | true => exact (Bj1 hs.fromOk hs.srcOk hs.outLt hi hr).2 _ (Pz hs ap hi hr)
 refine ⟨hR, fun h1 h4 => ?_⟩
 by_cases k1 : (evAt p i).op.kind = 1
 ·rw [hw.store i hi k1]; exact (ai.st i hi k1).2
 ·by_cases k2 : (evAt p i).op.kind = 2
  ·have hr : (evAt p i).reads = true := by simp [Ev.reads, k2]
   have hK := (Bj1 hs.fromOk hs.srcOk hs.outLt hi hr).1.2 ⟨_, Pz hs ap hi hr⟩
   rw [hw.add i hi k2, ← hR]; exact (ai.ad i hi k2).2 hK
  ·rw [hw.cas i hi (by omega)]; exact (ai.cs i hi (by omega)).2
theorem P0 {l m : List Int} (hl : l.Nodup) (hm : m.Nodup) (h : ∀ x, x ∈ l ↔ x ∈ m) : l.Perm m := (List.perm_ext_iff_of_nodup hl hm).2 h
structure Emb (p q : List Ev) (ι j : Nat → Nat) (σ : Int → Int) : Prop where
 lt : ∀ a, a < p.length → ι a < q.length
 inv : ∀ a, a < p.length → j (ι a) = a
 back : ∀ b, b < q.length → (evAt q b).op.kind ≠ 5 → j b < p.length ∧ ι (j b) = b
 sb : ∀ a b, a < b → b < p.length → (evAt p a).th = (evAt p b).th → ι a < ι b ∧ (evAt q (ι a)).th = (evAt q (ι b)).th
 kind : ∀ a, a < p.length → (evAt q (ι a)).op.kind = (evAt p a).op.kind
 v : ∀ a, a < p.length → (evAt q (ι a)).op.v = (evAt p a).op.v
 w : ∀ a, a < p.length → (evAt q (ι a)).op.w = (evAt p a).op.w
 loc : ∀ a, a < p.length → (evAt p a).op.kind ≠ 5 → (evAt q (ι a)).op.loc = σ (evAt p a).op.loc
 rel : ∀ a, a < p.length → (evAt p a).rel = true → (evAt q (ι a)).rel = true
 acq : ∀ a, a < p.length → (evAt p a).acq = true → (evAt q (ι a)).acq = true
 strong : ∀ a, a < p.length → (evAt p a).strong = true → (evAt q (ι a)).strong = true
 σ3 : ∀ k, 0 ≤ k → k < 3 → 0 ≤ σ k ∧ σ k < 3
 σi : ∀ k k', 0 ≤ k → k < 3 → 0 ≤ k' → k' < 3 → σ k = σ k' → k = k'
theorem Gc {p : List Ev} {x : Int} : x ∈ A5 p ↔ ∃ i : Nat, x = i ∧ i < p.length ∧ (evAt p i).strong = true := by
 rw [A5, B9]
 constructor
 ·rintro ⟨i, h1, h2, h3⟩; exact ⟨i, h3, h1, h2⟩
 ·rintro ⟨i, h3, h1, h2⟩; exact ⟨i, h1, h2, h3⟩
section
variable {p q : List Ev} {ι j : Nat → Nat} {σ : Int → Int} {e : Exec}
section
variable (H : Emb p q ι j σ) (hp : POk p) (hq : POk q) (qq : L5 q) (hs : Shape q e)
include H hs
include hp in
include hp in
omit hs in
omit hs in
omit hs in
include qq in
omit H hs in
include hp in
include hp qq in
include hp in
include hp hq qq in
omit H hs in
include hp in
end
end
theorem Cs {α β : Type} {f : α → List β} : ∀ {l : List α}, l.Nodup → (∀ x ∈ l, (f x).Nodup) → (∀ x ∈ l, ∀ y ∈ l, x ≠ y → ∀ z, z ∈ f x → z ∉ f y) → (l.flatMap f).Nodup
 | [], _, _, _ => lCf
 | x :: l, h1, h2, h3 => by
  obtain ⟨a, b⟩ := lCu.1 h1
  rw [lC2, lBo]
  refine ⟨h2 x (lB1 ..), Cs b (fun y hy => h2 y (lBa _ hy)) (fun y hy z hz => h3 y (lBa _ hy) z (lBa _ hz)), ?_⟩
  intro u hu v hv e
  subst e
  obtain ⟨y, hy, hv⟩ := lB4.1 hv
  exact h3 x (lB1 ..) y (lBa _ hy) (fun e => a (e ▸ hy)) u hu hv
theorem Hu {α β : Type} {f : α → β} {l : List α} (h : l.Nodup) (hi : ∀ x ∈ l, ∀ y ∈ l, f x = f y → x = y) : (l.map f).Nodup := by
 rw [lBv, lDp]
 exact List.Pairwise.imp_of_mem (fun {a b} ha hb hne he => hne (hi a ha b hb he)) (lBv.1 h)
theorem Nl (n : Nat) : (List.range n).Nodup := List.nodup_range
theorem Vh (p : List Ev) : (Hn p).Nodup := by
 refine Hu (Nl _) fun a ha b hb he => ?_
 rw [lAl] at ha hb
 refine Nat.eq_of_testBit_eq fun j => ?_
 by_cases hj : j < (Bo p).length
 ·have hin : Ae (Bo p) j ∈ Bo p := Hp.2 ⟨j, hj, rfl⟩
  obtain ⟨w, aV, _, dO⟩ := B9.1 hin
  have h1 := (La p a w aV _ (lA5 _)).1 j hj dO
  have h2 := (La p b w aV _ (lA5 _)).1 j hj dO
  unfold I1 at he
  rw [← h1, ← h2, he]
 ·rw [lF2 (lAx ha (lCg (by decide) (by omega))), lF2 (lAx hb (lCg (by decide) (by omega)))]
theorem Lk {p : List Ev} : ∀ (n : Nat) (l : List Int), l.length = n → l.Pairwise (· < ·) → (Bz p n l).Nodup
 | 0, _, _, _ => by simp [Bz]
 | n + 1, l, hl, ha => by
  refine Cs (Nl _) (fun i hi => ?_) (fun i hi j hj hne z hz gt => ?_)
  ·rw [lAl] at hi
   split
   ·exact lCf
   ·refine Hu (Lk n _ (by rw [lD8 (by omega)]; omega) (ha.sublist (lFa ..))) fun x _ y _ e => ?_
    simpa using e
  ·rw [lAl] at hi hj
   have key : ∀ i, z ∈ (if Ef p l i = true then [] else (Bz p n (l.eraseIdx i)).map (Ae l i :: ·)) → z.head? = some (Ae l i) := by
    intro i h
    split at h
    ·exact absurd h lB5
    ·obtain ⟨m, _, rfl⟩ := lAk.1 h; rfl
   have h1 := key i hz
   have h2 := key j gt
   rw [h1] at h2
   exact hne (Ai5 ha (by omega) (by omega) (Option.some.inj h2))
theorem Ll {p : List Ev} {l : List Int} (h : l.Pairwise (· < ·)) : (Ct p l).Nodup := Lk _ l rfl h
theorem Lm {p : List Ev} {dn : List Bool} : ∀ (k : Nat) (loc : Int), (Bt p dn k loc).Nodup
 | 0, _ => by simp [Bt]
 | k + 1, loc => by
  refine Cs (Ll (Es _ _ _)) (fun x _ => Hu (Lm k (loc + 1)) fun a _ b _ e => by simpa using e) (fun x _ y _ hne z hz gt => ?_)
  obtain ⟨a, _, rfl⟩ := lAk.1 hz
  obtain ⟨b, _, e⟩ := lAk.1 gt
  simp only [List.cons.injEq] at e
  exact hne e.1.symm
theorem Nm {p : List Ev} {dn : List Bool} {ord : List (List Int)} (hc : ∀ i, (Bf p dn ord i).Nodup) : ∀ (k i : Nat), (Ce p dn ord k i).Nodup
 | 0, _ => by simp [Ce]
 | k + 1, i => by
  refine Cs (hc i) (fun x _ => Hu (Nm hc k (i + 1)) fun a _ b _ e => by simpa using e) (fun x _ y _ hne z hz gt => ?_)
  obtain ⟨a, _, rfl⟩ := lAk.1 hz
  obtain ⟨b, _, e⟩ := lAk.1 gt
  simp only [List.cons.injEq] at e
  exact hne e.1.symm
theorem To {p : List Ev} {dn : List Bool} {ord : List (List Int)} (ho : ord ∈ O6 p dn) (i : Nat) : (Bf p dn ord i).Nodup := by
 unfold Bf
 split
 ·simp
 ·split
  ·simp
  ·unfold Iq
   rcases hq : ord[(evAt p i).op.loc.toNat]? with _ | l
   ·simp
   ·rw [lAn]
    obtain ⟨hk, rfl⟩ := lCv.1 hq
    obtain ⟨h1, h2⟩ := (F7 3 0 ord).1 ho
    have hm := h2 (evAt p i).op.loc.toNat (by omega)
    rw [hq, lAn] at hm
    have hp := E7 hm
    refine lCu.2 ⟨fun h => ?_, (hp.nodup_iff).2 (F8 (Es _ _ _))⟩
    obtain ⟨w, hw, _⟩ := Bb.1 (hp.mem_iff.1 h)
    omega
theorem Vi (p : List Ev) : (Cf p).Nodup := by
 have hF : ∀ dn ord frm z, z ∈ F5 p dn ord frm → z.dn = dn ∧ z.ord = ord ∧ z.frm = frm := by
  intro dn ord frm z h
  unfold F5 at h
  split at h
  ·obtain ⟨h, _⟩ := lCm.1 h
   obtain ⟨f, _, rfl⟩ := lAk.1 h
   exact ⟨rfl, rfl, rfl⟩
  ·exact absurd h lB5
 have hO : ∀ dn ord z, z ∈ Mw p dn ord → z.dn = dn ∧ z.ord = ord := by
  intro dn ord z h
  obtain ⟨f, _, h⟩ := lB4.1 h
  have := hF _ _ _ _ h; exact ⟨this.1, this.2.1⟩
 have hD : ∀ dn z, z ∈ J2 p dn → z.dn = dn := by
  intro dn z h
  obtain ⟨o, _, h⟩ := lB4.1 h
  exact (hO _ _ _ h).1
 refine Cs (Vh p) (fun dn _ => ?_) (fun x _ y _ hne z h1 h2 => hne ((hD _ _ h1).symm.trans (hD _ _ h2)))
 refine Cs (Lm 3 0) (fun ord ho => ?_) (fun x _ y _ hne z h1 h2 => hne ((hO _ _ _ h1).2.symm.trans (hO _ _ _ h2).2))
 refine Cs (Nm (To ho) _ _) (fun frm _ => ?_) (fun x _ y _ hne z h1 h2 => hne ((hF _ _ _ _ h1).2.2.symm.trans (hF _ _ _ _ h2).2.2))
 unfold F5
 split
 ·refine List.Nodup.sublist List.filter_sublist (Hu (Ll (Ji p)) fun a _ b _ e => ?_)
  simpa using e
 ·exact lCf
abbrev vw (n : Nat) : Value := .int .u64 n
theorem Y3 {x : Nat} (h : x < 2 ^ 64) : BitVec.ofInt IntKind.u64.bits (x : Int) = (BitVec.ofNat 64 x : BitVec IntKind.u64.bits) := lFe 64 x
theorem Bp {x : Nat} (h : x < 2 ^ 64) : IntKind.u64.wrap (x : Int) = x := by
 have e : (2 : Int) ^ IntKind.u64.bits = 18446744073709551616 := rfl
 have e3 : IntKind.u64.signed = false := rfl
 have h' : x < 18446744073709551616 := h
 simp only [IntKind.wrap, e, e3, lCc]
 simp only [lC8, if_false]
 omega
theorem Y4 {x y : Nat} (hx : x < 2 ^ 64) (hy : y < 2 ^ 64) : IntKind.u64.wrap ((BitVec.ofInt IntKind.u64.bits (x : Int) ||| BitVec.ofInt IntKind.u64.bits (y : Int)).toNat : Int) = ((x ||| y : Nat) : Int) := by
 rw [Y3 hx, Y3 hy]
 have e : (BitVec.ofNat 64 x ||| BitVec.ofNat 64 y).toNat = x ||| y := by
  rw [BitVec.toNat_or, lD5, lD5, lCh hx, lCh hy]
 show IntKind.u64.wrap ((BitVec.ofNat 64 x ||| BitVec.ofNat 64 y).toNat : Int) = _
 rw [e]
 exact Bp (lCo hx hy)
theorem Ib {b : Nat} (hb : b < 64) : IntKind.u64.wrap (1 * 2 ^ min b IntKind.u64.bits) = ((2 ^ b : Nat) : Int) := by
 rw [show IntKind.u64.bits = 64 from rfl, lC0 (by omega), Int.one_mul]
 rw [show ((2 : Int) ^ b) = ((2 ^ b : Nat) : Int) from by simp]
 exact Bp (lBk (by decide) hb)
theorem Ic {x b : Nat} (hx : x < 2 ^ 64) (hb : b < 64) : IntKind.u64.wrap ((BitVec.ofInt IntKind.u64.bits (x : Int) ||| BitVec.ofInt IntKind.u64.bits (2 ^ b)).toNat : Int) = ((x ||| 2 ^ b : Nat) : Int) := by
 have := Y4 (y := 2 ^ b) hx (lBk (by decide) hb)
 rwa [show ((2 ^ b : Nat) : Int) = 2 ^ b from by simp] at this
theorem Ke {x b : Nat} (hx : x < 2 ^ 64) (hb : b < 64) : decide (IntKind.u64.wrap ((BitVec.ofInt IntKind.u64.bits ((x : Int).fdiv (2 ^ min b IntKind.u64.bits)) &&& BitVec.ofInt IntKind.u64.bits 1).toNat : Int) = 1) = x.testBit b := by
 have e0 : min b IntKind.u64.bits = b := lC0 (show b ≤ 64 by omega)
 rw [e0]
 have e1 : (x : Int).fdiv (2 ^ b) = ((x / 2 ^ b : Nat) : Int) := by
  rw [lDs _ (by exact_mod_cast lA8 _)]; simp
 have hd : x / 2 ^ b < 2 ^ 64 := lEg (lFi _ _) hx
 rw [e1, Y3 hd]
 have e : (BitVec.ofNat 64 (x / 2 ^ b) &&& BitVec.ofInt 64 1).toNat = (x / 2 ^ b) % 2 := by
  rw [lFc, lD5, lCh hd]
  show (x / 2 ^ b) &&& 1 = _
  exact lEx _
 show decide (IntKind.u64.wrap ((BitVec.ofNat 64 (x / 2 ^ b) &&& BitVec.ofInt 64 1).toNat : Int) = 1) = _
 rw [e, Bp (by omega)]
 rw [lE2]
 simp only [decide_eq_decide]
 omega
abbrev E9 (r : Rel) : Value := .agg (r.map vw).toArray
section
variable {M : Aa}
theorem Gs (r : Rel) (hr : RelOk 16 r) : Aq Tryz.prog 46 #[E9 r] M (vb (Be r)) := by
 refine Con.enter Q86_ok (args := [E9 r]) (by simp [Q86]) fun w0 => ?_
 simp only [Q86, A9]
 have nX : (r.map vw).length = 16 := by rw [lA1, hr.len]
 have ay := hr.len
 repeat' first | refine st ?_ | refine rg ?_ | (with_reducible intro b; try refine nx ?_) | exact ⟨⟩ | fail
 refine JC (fun i : Nat => ([(1, pv b 0), (3, vi i)], M, [(b, Cl 95 (r.map vw))])) (fun i => i ≤ 16 ∧ ∀ a, a < i → A6 r a a = false) (fun i => 16 - i) 0 rfl ⟨lA8 _, fun a ha => absurd ha (lBn _)⟩ ?env1 (lA0 _) ?_
 case env1 =>
  exact eE
 rintro i ⟨hi, aI⟩ ih
 dsimp only at hi aI ih ⊢
 repeat' first | refine st ?_ | refine rg ?_ | (refine cX ?_ ?_ <;> intro h <;> try exact Ah h) | refine ZF ?_ | exact ⟨⟩ | fail
 ·have aC : i < 16 := by omega
  obtain ⟨cZ, ei⟩ := hr.get aC
  have tJ := hr.at (show 16 ≤ 32 by omega) i
  rw [ei] at tJ
  have qr : r[i] < 2 ^ 64 := lAx tJ (by decide)
  have lx : IntKind.u64.wrap (i : Int) = (i : Int) := Bp (by omega)
  have hin : ¬ ((i : Int) < 0) := by omega
  have az := Ke (b := i) qr (by omega)
  have hh : A6 r i i = r[i].testBit i := by simp only [A6, ei]
  repeat' first | refine st ?_ | (refine EV.reg ?_; (conv => (arg 2; whnf)); (repeat first | refine nx ?_ | simp only [lx, hin])) | (refine lAb _ (lAd (Cg (f := vw) cZ) ?_); (repeat first | refine nx ?_ | simp only [lx, hin])) | (refine cX ?_ ?_ <;> intro h <;> try exact Ah h) | fail
  ·have ht : r[i].testBit i = true := by rw [← az]; exact decide_eq_true h
   have : Be r = true := by
    simp only [Be, lBx, lAl]
    exact ⟨i, cZ, by rw [hh, ht]⟩
   (refine rt Q86_ok ?_; try with_reducible exact ⟨⟩)
   rw [this]
  ·have ht : r[i].testBit i = false := by rw [← az]; exact decide_eq_false h
   refine JA (ih (i + 1) ⟨by omega, fun a ha => ?_⟩ (by omega)) ?_ (lA0 _)
   ·by_cases e : a = i
    ·subst e; rw [hh, ht]
    ·exact aI a (by omega)
   ·exact eE
 ·have : Be r = false := Ul (i := i) aI (by omega)
  (refine rt Q86_ok ?_; try with_reducible exact ⟨⟩)
  rw [this]
theorem Dn (r t : Rel) (hr : RelOk 16 r) (ht : RelOk 16 t) : Con Tryz.prog 48 #[E9 r, E9 t] M [] fun v _ _ => v = E9 (Cu r t) := by
 refine Con.enter Q99_ok (args := [E9 r, E9 t]) (by simp [Q99]) fun w0 => ?_
 simp only [Q99, A9]
 have ay := hr.len
 have aU := ht.len
 repeat' first | refine st ?_ | refine rg ?_ | (with_reducible intro b; try refine nx ?_) | exact ⟨⟩ | fail
 obtain ⟨b3, rfl⟩ : ∃ x, x = b := ⟨_, rfl⟩
 rename_i b1
 obtain ⟨b2, rfl⟩ : ∃ x, x = b := ⟨_, rfl⟩
 obtain ⟨zs, hzs⟩ : ∃ zs : List Value, zs = [vw 0, vw 0, vw 0, vw 0, vw 0, vw 0, vw 0, vw 0, vw 0, vw 0, vw 0, vw 0, vw 0, vw 0, vw 0, vw 0] := ⟨_, rfl⟩
 have aa : ∀ i, i ≤ 16 → RelOk 16 (Ag (Ia t) i r) := fun i hi => loopN_ok (n := 16) (fun i q hi hq => hq.or i (ht.lt i)) i r hi hr
 refine JC (fun i : Nat => ([(2, pv b1 0), (3, pv b2 0), (4, pv b3 0), (5, vi i)], M, [(b3, Cl 95 zs), (b2, Cl 95 (t.map vw)), (b1, Cl 95 ((Ag (Ia t) i r).map vw))])) (fun i => i ≤ 16) (fun i => 16 - i) 0 rfl (lA8 _) ?env1 (by subst hzs; exact lA0 _) ?_
 case env1 =>
  exact eE
 intro i hi ih
 dsimp only at hi ih ⊢
 repeat' first | refine st ?_ | refine rg ?_ | (refine cX ?_ ?_ <;> intro h <;> try exact Ah h) | exact ⟨⟩ | fail
 ·have aC : i < 16 := by omega
  have hq := aa i (by omega)
  obtain ⟨cZ, e1⟩ := hq.get aC
  obtain ⟨mT, e2⟩ := ht.get aC
  have bK := hq.at (show 16 ≤ 32 by omega) i
  have bk := ht.at (show 16 ≤ 32 by omega) i
  rw [e1] at bK
  rw [e2] at bk
  have ih2 := ih (i + 1) (by omega) (by omega)
  simp only [Ag, Ia] at ih2
  generalize Ag (Ia t) i r = q at *
  have am := Y4 (show q[i] < 2 ^ 64 from lAx bK (by decide)) (show t[i] < 2 ^ 64 from lAx bk (by decide))
  refine EV.any (t := By1) [(b2, Cl 95 (t.map vw)), (b1, Cl 95 (q.map vw))] (lAq _ (lA0 _)) ?_
  simp only [Aj, As, Ak, Au, reduceIte, Nat.reduceEqDiff]
  repeat' first | ((first | refine zo (fun lq aD => ?_) | refine zl ?_ | refine lAb _ (lAd (Cg (f := vw) cZ) ?_) | refine lAb _ (lAd (Cg (f := vw) mT) ?_) | fail); (repeat first | refine nz ?_ | simp only [am])) | (refine ZB (fun tq aB => ?_) (fun tq aB => ?_) <;> (repeat first | refine nz ?_ | simp only [am])) | exact zn | refine ZF ?_ | (refine xw ?_; (repeat first | refine nz ?_ | simp only [am])) | fail
  refine ⟨by rw [lA1, hq.len]; omega, ?_⟩
  rw [Ap vw q cZ]
  repeat' first | (refine zl ?_; try refine nz ?_) | refine zq (fun lq tq aD aB => ?_) | refine zf ?_ | exact ⟨⟩ | fail
  repeat' first | refine su ?_ | refine rg ?_ | exact ⟨⟩ | fail
  rw [e1, e2] at ih2
  refine JA ih2 ?_ (lA0 _)
  exact eE
 ·have bO : i = 16 := by omega
  subst bO
  have bN : (Ag (Ia t) 16 r).length = 16 := (aa 16 (lA5 _)).len
  refine ⟨_, Gl (f := vw) bN, _, zs, [], _, rfl, by subst hzs; simp, by rw [lA1, bN], fun v hv => by obtain ⟨x, _, rfl⟩ := lAk.1 hv; rfl, ?_⟩
  rw [lA1, bN, show zs.drop 16 = [] by subst hzs; rfl, lAa, lAj]
  (refine rt Q99_ok ?_; try with_reducible exact ⟨⟩)
  exact ⟨_, Gl (f := vw) bN, rfl⟩
theorem Fa (r : Rel) (hr : RelOk 16 r) : Con Tryz.prog 47 #[E9 r] M [] fun v _ _ => v = E9 (Ca r) := by
 refine Con.enter Q87_ok (args := [E9 r]) (by simp [Q87]) fun w0 => ?_
 simp only [Q87, A9]
 have ay := hr.len
 repeat' first | refine st ?_ | refine rg ?_ | (with_reducible intro b; try refine nx ?_) | exact ⟨⟩ | fail
 obtain ⟨b3, rfl⟩ : ∃ x, x = b := ⟨_, rfl⟩
 obtain ⟨b1, rfl⟩ : ∃ x, x = b := ⟨_, rfl⟩
 obtain ⟨zs, hzs⟩ : ∃ zs : List Value, zs = [vw 0, vw 0, vw 0, vw 0, vw 0, vw 0, vw 0, vw 0, vw 0, vw 0, vw 0, vw 0, vw 0, vw 0, vw 0, vw 0] := ⟨_, rfl⟩
 refine JC (fun k : Nat => ([(1, pv b1 0), (2, pv b3 0), (3, vi k)], M, [(b3, Cl 95 zs), (b1, Cl 95 ((closeGo r k).map vw))])) (fun k => k ≤ 16) (fun k => 16 - k) 0 rfl (lA8 _) ?env1 (by subst hzs; exact lA0 _) ?_
 case env1 =>
  exact eE
 intro k hk ih
 dsimp only at hk ih ⊢
 have hgo := hr.closeGo k
 repeat' first | refine st ?_ | refine rg ?_ | (refine cX ?_ ?_ <;> intro h <;> try exact Ah h) | exact ⟨⟩ | fail
 ·have af : k < 16 := by omega
  have ihk := ih (k + 1) (by omega) (by omega)
  have cQ := fun a => hgo.closeRow k a
  simp only [closeGo, ay] at ihk
  generalize closeGo r k = g at *
  refine JC (fun a : Nat => ([(1, pv b1 0), (2, pv b3 0), (3, vi k), (4, vi a)], M, [(b3, Cl 95 zs), (b1, Cl 95 ((closeRow g k a).map vw))])) (fun a => a ≤ 16) (fun a => 16 - a) 0 rfl (lA8 _) ?env2 (lA0 _) ?_
  case env2 =>
   exact eE
  intro a ha ih2
  dsimp only at ha ih2 ⊢
  repeat' first | refine st ?_ | refine rg ?_ | (refine cX ?_ ?_ <;> intro h <;> try exact Ah h) | refine ZF ?_ | exact ⟨⟩ | fail
  ·have aW : a < 16 := by omega
   have hq := cQ a
   obtain ⟨dA, e1⟩ := hq.get aW
   obtain ⟨gm, e2⟩ := hq.get af
   have bK := hq.at (show 16 ≤ 32 by omega) a
   have bk := hq.at (show 16 ≤ 32 by omega) k
   rw [e1] at bK
   rw [e2] at bk
   have ih3 := ih2 (a + 1) (by omega) (by omega)
   simp only [closeRow] at ih3
   generalize closeRow g k a = q at *
   have dQ : q[a] < 2 ^ 64 := lAx bK (by decide)
   have eP : q[k] < 2 ^ 64 := lAx bk (by decide)
   have am := Y4 dQ eP
   have az := Ke (b := k) dQ (by omega)
   have tK : IntKind.u64.wrap (k : Int) = (k : Int) := Bp (by omega)
   have hkn : ¬ ((k : Int) < 0) := by omega
   repeat' first | refine su ?_ | (refine EV.reg ?_; (conv => (arg 2; whnf)); (repeat first | refine nx ?_ | simp only [tK, hkn])) | (refine lAb _ (lAd (Cg (f := vw) dA) ?_); (repeat first | refine nx ?_ | simp only [tK, hkn])) | (refine cX ?_ ?_ <;> intro h <;> try exact Ah h) | fail
   ·have ht : q[a].testBit k = true := by rw [← az]; exact decide_eq_true h
    refine EV.any (t := Bx8) [(b1, Cl 95 (q.map vw))] (lAq _ (lA0 _)) ?_
    simp only [Aj, As, Ak, Au, reduceIte, Nat.reduceEqDiff]
    repeat' first | ((first | refine zo (fun lq aD => ?_) | refine zl ?_ | refine lAb _ (lAd (Cg (f := vw) dA) ?_) | refine lAb _ (lAd (Cg (f := vw) gm) ?_) | fail); (repeat first | refine nz ?_ | simp only [am])) | (refine ZB (fun tq aB => ?_) (fun tq aB => ?_) <;> (repeat first | refine nz ?_ | simp only [am])) | exact zn | refine ZF ?_ | (refine xw ?_; (repeat first | refine nz ?_ | simp only [am])) | fail
    refine ⟨by rw [lA1, hq.len]; omega, ?_⟩
    rw [Ap vw q dA]
    repeat' first | (refine zl ?_; try refine nz ?_) | refine zq (fun lq tq aD aB => ?_) | refine zf ?_ | exact ⟨⟩ | fail
    repeat' first | refine su ?_ | refine rg ?_ | exact ⟨⟩ | fail
    rw [if_pos (show A6 q a k = true by simp only [A6, e1]; exact ht), orR, e1, e2] at ih3
    refine JA ih3 ?_ (lA0 _)
    exact eE
   ·have ht : q[a].testBit k = false := by rw [← az]; exact decide_eq_false h
    rw [if_neg (show ¬ A6 q a k = true by simp only [A6, e1]; rw [ht]; decide)] at ih3
    refine JA ih3 ?_ (lA0 _)
    exact eE
  ·have dd : a = 16 := by omega
   subst dd
   refine JA ihk ?_ (lA0 _)
   exact eE
 ·have eH : k = 16 := by omega
  subst eH
  have aS : Ca r = closeGo r 16 := by rw [Ca, ay]
  rw [aS]
  refine ⟨_, Gl (f := vw) hgo.len, _, zs, [], _, rfl, by subst hzs; simp, by rw [lA1, hgo.len], fun v hv => by obtain ⟨x, _, rfl⟩ := lAk.1 hv; rfl, ?_⟩
  rw [lA1, hgo.len, show zs.drop 16 = [] by subst hzs; rfl, lAa, lAj]
  (refine rt Q87_ok ?_; try with_reducible exact ⟨⟩)
  exact ⟨_, Gl (f := vw) hgo.len, rfl⟩
end
abbrev Fq (e : Ev) : List Value := [vi e.th, vi e.op.kind, vi e.op.loc, vi e.op.v, vi e.op.w, vi e.op.ord]
def Bx (o : OpV) : Bool := decide (o.kind = 0) || (decide (2 ≤ o.kind) && decide (o.kind ≤ 4))
def Ay (o : OpV) : Bool := decide (1 ≤ o.kind) && decide (o.kind ≤ 4)
def Nn (o : OpV) : Bool := decide (o.kind = 5) && decide (o.ord = 4)
theorem Dg {e : Ev} (h : 0 ≤ e.op.kind ∧ e.op.kind ≤ 5) : Bx e.op = e.reads := by
 unfold Bx Ev.reads
 rw [lEz]
 simp only [lAr, lA6, decide_eq_true_eq]
 omega
theorem Vj {e : Ev} : Nn e.op = e.strong := rfl
section
variable {M : Aa}
theorem Gd (o : OpV) : Aq Tryz.prog 56 #[vop o] M (vb (Bx o)) := by
 refine Con.enter Q93_ok (args := [vop o]) (by simp [Q93]) fun w0 => ?_
 simp only [Q93, A9]
 repeat' first | refine st ?_ | refine rg ?_ | with_reducible assumption | (refine JD ?_ (fun hc K' hK => ?_) ?_; rotate_left) | refine rt Q93_ok ?_ | ((first | with_reducible intro b | refine xiA rfl ?_ | fail); try refine nx ?_) | exact ⟨⟩ | fail
 all_goals simp_all [Bx]
theorem Fb (o : OpV) : Aq Tryz.prog 93 #[vop o] M (vb (Ay o)) := by
 refine Con.enter Q101_ok (args := [vop o]) (by simp [Dj7]) fun w0 => ?_
 simp only [Dj7, A9]
 repeat' first | refine st ?_ | refine rg ?_ | with_reducible assumption | (refine JD ?_ (fun hc K' hK => ?_) ?_; rotate_left) | refine rt Q101_ok ?_ | ((first | with_reducible intro b | refine xiA rfl ?_ | fail); try refine nx ?_) | exact ⟨⟩ | fail
 all_goals simp_all [Ay]
theorem Ie (o : OpV) : Aq Tryz.prog 94 #[vop o] M (vb (Nn o)) := by
 refine Con.enter Q89_ok (args := [vop o]) (by simp [Q89]) fun w0 => ?_
 simp only [Q89, A9]
 repeat' first | refine st ?_ | refine rg ?_ | with_reducible assumption | (refine JD ?_ (fun hc K' hK => ?_) ?_; rotate_left) | refine rt Q89_ok ?_ | ((first | with_reducible intro b | refine xiA rfl ?_ | fail); try refine nx ?_) | exact ⟨⟩ | fail
 all_goals simp_all [Nn]
theorem thrIn_ok {p : List Ev} {a d : Nat} {r : Rel} (h : RelOk 16 r) (hd : a + 1 + d < 16) : RelOk 16 (U5 p a d r) := putIf_ok h a hd
theorem Fr (p : List Ev) (s : Value) (hs : Sl M 6 Fq s p) (hp : p.length ≤ 16) : Con Tryz.prog 49 #[s] M [] fun v _ _ => v = E9 (T9 p) := by
 obtain ⟨pa, pc, rfl, an⟩ := hs
 refine Con.enter Q97_ok (args := [.slice pa p.length pc]) (by simp [Q97]) fun w0 => ?_
 simp only [Q97, A9]
 repeat' first | refine st ?_ | refine rg ?_ | (with_reducible intro b; try refine nx ?_) | exact ⟨⟩ | fail
 obtain ⟨b3, rfl⟩ : ∃ x, x = b := ⟨_, rfl⟩
 obtain ⟨b2, rfl⟩ : ∃ x, x = b := ⟨_, rfl⟩
 obtain ⟨zs, hzs⟩ : ∃ zs : List Value, zs = [vw 0, vw 0, vw 0, vw 0, vw 0, vw 0, vw 0, vw 0, vw 0, vw 0, vw 0, vw 0, vw 0, vw 0, vw 0, vw 0] := ⟨_, rfl⟩
 have ug : RelOk 16 B1 := ⟨rfl, fun a => by simp only [B1, lBy]; split <;> simp⟩
 have aZ : ∀ a, a ≤ p.length → RelOk 16 (Ag (J3 p) a B1) := fun a ha => loopN_ok (n := p.length) (fun i q hi hq => loopN_ok (n := p.length - (i + 1)) (fun d q hd hq => thrIn_ok hq (by omega)) _ _ (lA5 _) hq) a _ ha ug
 refine JC (fun a : Nat => ([(0, .slice pa p.length pc), (2, pv b2 0), (3, pv b3 0), (4, vi a)], M, [(b3, Cl 95 ((Ag (J3 p) a B1).map vw)), (b2, Cl 95 zs)])) (fun a => a ≤ p.length) (fun a => p.length - a) 0 rfl (lA8 _) ?env1 (by subst hzs; exact lA0 _) ?_
 case env1 =>
  exact eE
 intro a ha ih
 dsimp only at ha ih ⊢
 repeat' first | refine st ?_ | refine rg ?_ | (refine cX ?_ ?_ <;> intro h <;> try exact Ah h) | exact ⟨⟩ | fail
 ·have aW : a < p.length := by omega
  have lR := aZ a ha
  have ihk := ih (a + 1) (by omega) (by omega)
  simp only [Ag] at ihk
  obtain ⟨pb, po, rfl, hat⟩ := Sl.at (sz := 6) (enc := Fq) (fun _ => rfl) (by decide) an (by omega)
  have ez := hat a aW
  rw [← Dc aW] at ez
  have ke := ez.pt 0 1 (by omega) rfl
  generalize Ag (J3 p) a B1 = q0 at *
  refine JC (fun d : Nat => ([(0, .slice (some ⟨pb, po, none⟩) p.length pc), (2, pv b2 0), (3, pv b3 0), (4, vi a), (5, vi (a + 1 + d : Nat))], M, [(b3, Cl 95 ((Ag (U5 p a) d q0).map vw)), (b2, Cl 95 zs)])) (fun d => d ≤ p.length - (a + 1)) (fun d => p.length - (a + 1) - d) 0 rfl (lA8 _) ?env2 (lA0 _) ?_
  case env2 =>
   exact eE
  intro d hd ih2
  dsimp only at hd ih2 ⊢
  obtain ⟨x, hx⟩ : ∃ x, x = a + 1 + d := ⟨_, rfl⟩
  rw [← hx]
  repeat' first | refine st ?_ | refine rg ?_ | (refine cX ?_ ?_ <;> intro h <;> try exact Ah h) | exact ⟨⟩ | fail
  ·have fY : x < p.length := by omega
   have hq : RelOk 16 (Ag (U5 p a) d q0) := loopN_ok (n := p.length - (a + 1)) (fun d q hd hq => thrIn_ok hq (by omega)) d _ hd lR
   have ih3 := ih2 (d + 1) (by omega) (by omega)
   simp only [Ag, U5] at ih3
   generalize Ag (U5 p a) d q0 = q at *
   rw [← hx, show a + 1 + (d + 1) = x + 1 by omega] at ih3
   have tL := hat x fY
   rw [← Dc fY] at tL
   have qt := tL.pt 0 1 (by omega) rfl
   simp only [lDc] at ke qt
   obtain ⟨dA, e1⟩ := hq.get (show a < 16 by omega)
   have bK := hq.at (show 16 ≤ 32 by omega) a
   rw [e1] at bK
   have dQ : q[a] < 2 ^ 64 := lAx bK (by decide)
   have fF : IntKind.u64.wrap (x : Int) = (x : Int) := Bp (by omega)
   have d5 : ¬ ((x : Int) < 0) := by omega
   have bM := Ib (show x < 64 by omega)
   have am := Ic (b := x) dQ (by omega)
   refine EV.any (t := By3) [] (lAe _) ?_
   simp only [Aj, As, Ak, Au, reduceIte, Nat.reduceEqDiff]
   repeat' first | ((first | refine zo (fun lq aD => ?_) | refine zl ?_ | fail); try refine nz ?_) | refine zf ?_ | refine ZF ?_ | (refine xm ?_; try refine nz ?_) | exact ⟨⟩ | fail
   repeat' first | refine su ?_ | (refine EV.reg ?_; (conv => (arg 2; whnf)); (repeat first | refine nx ?_ | simp only [fF, d5, bM, am])) | (refine lAb _ (lAd (Cg (f := vw) dA) ?_); (repeat first | refine nx ?_ | simp only [fF, d5, bM, am])) | (refine cX ?_ ?_ <;> intro h <;> try exact Ah h) | refine ZF ?_ | (refine xw ?_; (repeat first | refine nx ?_ | simp only [fF, d5, bM, am])) | fail
   ·refine ⟨by rw [lA1, hq.len]; omega, ?_⟩
    rw [Ap vw q dA]
    repeat' first | refine su ?_ | refine rg ?_ | exact ⟨⟩ | fail
    rw [Hq, if_pos (decide_eq_true h), N0, orR, e1] at ih3
    refine JA ih3 ?_ (lA0 _)
    exact eE
   ·rw [Hq, if_neg (by rw [decide_eq_false h]; decide)] at ih3
    refine JA ih3 ?_ (lA0 _)
    exact eE
  ·have jz : d = p.length - (a + 1) := by omega
   subst jz
   refine JA ihk ?_ (lA0 _)
   exact eE
 ·have dd : a = p.length := by omega
  subst dd
  have bN := (aZ p.length (lA5 _)).len
  have aS : T9 p = Ag (J3 p) p.length B1 := rfl
  rw [aS]
  refine ⟨_, Gl (f := vw) bN, _, zs, [(b3, Cl 95 ((Ag (J3 p) p.length B1).map vw))], _, rfl, by subst hzs; simp, by rw [lA1, bN], fun v hv => by obtain ⟨x, _, rfl⟩ := lAk.1 hv; rfl, ?_⟩
  rw [lA1, bN, show zs.drop 16 = [] by subst hzs; rfl, lAa]
  simp only [lAp, lAj]
  (refine rt Q97_ok ?_; try with_reducible exact ⟨⟩)
  exact ⟨_, Bm (T := 95) (cs := (Ag (J3 p) p.length B1).map vw) (by simp) (by rw [lBr, lAw (by rw [lA1, bN]; exact lA5 _)]) (by rw [lA1, bN]; exact lA5 _), rfl⟩
end
structure EvR (p : List Ev) (e : Exec) (a : Nat) : Prop where
 out : Bx (evAt p a).op = false → Af e a = -2
 src : Bx (evAt p a).op = true → -1 ≤ Af e a ∧ Af e a < p.length
 do1 : (evAt p a).op.kind = 1 ∨ (evAt p a).op.kind = 2 → B7 e.dn a = true
 do0 : Ay (evAt p a).op = false → B7 e.dn a = false
 src2 : Bx (evAt p a).op = true → 0 ≤ Af e a → B7 e.dn (Af e a).toNat = true ∧ (evAt p (Af e a).toNat).op.loc = (evAt p a).op.loc ∧ Ay (evAt p (Af e a).toNat).op = true
theorem Cd {o : OpV} : Ay o = true ↔ 1 ≤ o.kind ∧ o.kind ≤ 4 := by simp [Ay]
theorem Shape.evR {p : List Ev} {e : Exec} (hk : ∀ i, i < p.length → 0 ≤ (evAt p i).op.kind ∧ (evAt p i).op.kind ≤ 5) (h : Shape p e) {a : Nat} (ha : a < p.length) : EvR p e a := by
 have hr := Dg (e := evAt p a) (hk a ha)
 refine ⟨fun h1 => h.out a ha (by rw [← hr]; exact h1), fun h1 => ?_, h.dn1 a ha, fun h1 => ?_, fun h1 h0 => ?_⟩
 ·rcases h.src a ha (by rw [← hr]; exact h1) with h2 | ⟨w, h2, h3, _⟩
  ·omega
  ·omega
 ·cases hd : B7 e.dn a with
  | false => rfl
  | true => rw [Cd.2 (h.dn0 a ha hd)] at h1; cases h1
 ·rcases h.src a ha (by rw [← hr]; exact h1) with h2 | ⟨w, h2, h3, h4, h5⟩
  ·omega
  ·rw [h2, lAy]
   exact ⟨h4, h5, Cd.2 (h.dn0 w h3 h4)⟩
theorem Vk {e : Exec} (h : e.ord.length = 3) : ∃ a b c, e.ord = [a, b, c] := by
 match hq : e.ord, h with
 | [a, b, c], _ => exact ⟨a, b, c, rfl⟩
theorem Ej (p : List Ev) : (A5 p).Nodup := F8 (Ji p)
theorem E2 (p : List Ev) (dn : List Bool) (k : Int) : (Az p dn k).Nodup := F8 (Es p dn k)
theorem Shape.nodup {p : List Ev} {e : Exec} (h : Shape p e) : (e.fen ++ e.ord.flatten).Nodup := by
 obtain ⟨a, b, c, he⟩ := Vk h.ol
 have ha := h.ord 0 (by decide)
 have hb := h.ord 1 (by decide)
 have hc := h.ord 2 (by decide)
 have hf := h.fen
 rw [he] at ha hb hc ⊢
 simp only [lE9, lEu, lAn] at ha hb hc
 have da := ha.nodup_iff.2 (E2 _ _ _)
 have db := hb.nodup_iff.2 (E2 _ _ _)
 have dc := hc.nodup_iff.2 (E2 _ _ _)
 have df := hf.nodup_iff.2 (Ej _)
 have jU : ∀ i, (evAt p i).strong = true → (evAt p i).op.kind = 5 := fun i hi => by
  simp only [Ev.strong, lA6, decide_eq_true_eq] at hi; exact hi.1
 have hd : ∀ (k l : Int) (x : Int), x ∈ Az p e.dn k → x ∈ Az p e.dn l → k = l := by
  intro k l x h1 h2
  obtain ⟨i, rfl, _, _, _, e1⟩ := Bb.1 h1
  obtain ⟨j, e2, _, _, _, e3⟩ := Bb.1 h2
  have : i = j := by omega
  subst this
  rw [← e1, ← e3]
 have jV : ∀ (k : Int) (x : Int), x ∈ A5 p → x ∈ Az p e.dn k → False := by
  intro k x h1 h2
  obtain ⟨i, rfl, _, e0⟩ := Gc.1 h1
  obtain ⟨j, e2, _, e4, _, _⟩ := Bb.1 h2
  have : i = j := by omega
  subst this
  exact e4 (jU i e0)
 simp only [lD0, lEp, lAa, lBo]
 refine ⟨df, ⟨da, ⟨db, dc, fun x h1 y h2 e1 => ?_⟩, fun x h1 y h2 e1 => ?_⟩, fun x h1 y h2 e1 => ?_⟩
 ·subst e1
  have := hd _ _ _ (hb.mem_iff.1 h1) (hc.mem_iff.1 h2); omega
 ·subst e1
  rcases lB7.1 h2 with h2 | h2
  ·have := hd _ _ _ (ha.mem_iff.1 h1) (hb.mem_iff.1 h2); omega
  ·have := hd _ _ _ (ha.mem_iff.1 h1) (hc.mem_iff.1 h2); omega
 ·subst e1
  have h1 := hf.mem_iff.1 h1
  rcases lB7.1 h2 with h2 | h2
  ·exact jV _ _ h1 (ha.mem_iff.1 h2)
  ·rcases lB7.1 h2 with h2 | h2
   ·exact jV _ _ h1 (hb.mem_iff.1 h2)
   ·exact jV _ _ h1 (hc.mem_iff.1 h2)
theorem P1 {l m : List Int} (hl : l.Nodup) (hm : m.Nodup) (hs : ∀ x ∈ l, x ∈ m) (hn : m.length ≤ l.length) : l.Perm m :=
 P0 hl hm fun x => ⟨hs x, fun hx => lBe fun aI => by
  have := Bw (l := x :: l) (m := m) (lCu.2 ⟨aI, hl⟩) (by
   intro y hy
   rcases lBp.1 hy with rfl | hy
   ·exact hx
   ·exact hs y hy)
  simp only [lB3] at this
  omega⟩
theorem Xk {n : Nat} {f g : Nat → Bool} (h : ∀ i, i < n → f i = g i) : Cq n f = Cq n g := by
 unfold Cq
 congr 1
 exact List.filter_congr fun i hi => h i (lAl.1 hi)
def Ir (p : List Ev) (dn : List Bool) (k : Int) (n : Nat) : List Int := Cq n fun i => B7 dn i && decide ((evAt p i).op.loc = k)
theorem Tq {p : List Ev} {e : Exec} (h : ∀ a, a < p.length → EvR p e a) (k : Int) : Ir p e.dn k p.length = Az p e.dn k := by
 refine Xk fun i hi => ?_
 have h0 := (h i hi).do0
 show (B7 e.dn i && _) = (decide ((evAt p i).op.kind ≠ 5) && B7 e.dn i && _)
 cases hd : B7 e.dn i with
 | false => simp
 | true =>
  cases hw : Ay (evAt p i).op with
  | false => rw [h0 hw] at hd; cases hd
  | true =>
   have := Cd.1 hw
   rw [decide_eq_true (show (evAt p i).op.kind ≠ 5 by omega)]; rfl
theorem Ap9 {p : List Ev} {e : Exec} (hk : ∀ i, i < p.length → 0 ≤ (evAt p i).op.kind ∧ (evAt p i).op.kind ≤ 5) (aj : e.frm.length = p.length) (ax : e.dn.length = p.length) (ar : e.ord.length = 3)
  (dF : ∀ a, a < p.length → EvR p e a) (hn : (e.fen ++ e.ord.flatten).Nodup) (bu : e.fen.length = (A5 p).length) (jh : ∀ x ∈ e.fen, x ∈ A5 p)
  (qu : ∀ k : Nat, k < 3 → (e.ord[k]?.getD []).length = (Ir p e.dn k p.length).length) (fN : ∀ k : Nat, k < 3 → ∀ x ∈ e.ord[k]?.getD [], x ∈ Az p e.dn k) : Shape p e := by
 refine ⟨aj, ax, ar, fun i hi => (dF i hi).do1, fun i hi hd => ?_, fun i hi hr => ?_, fun i hi hr => ?_, fun k cH => ?_, ?_⟩
 ·cases hw : Ay (evAt p i).op with
  | false => rw [(dF i hi).do0 hw] at hd; cases hd
  | true => exact Cd.1 hw
 ·exact (dF i hi).out (by rw [Dg (hk i hi)]; exact hr)
 ·have bj : Bx (evAt p i).op = true := by rw [Dg (hk i hi)]; exact hr
  have h1 := (dF i hi).src bj
  by_cases h0 : 0 ≤ Af e i
  ·obtain ⟨h2, h3, h4⟩ := (dF i hi).src2 bj h0
   exact .inr ⟨(Af e i).toNat, by omega, by omega, h2, h3⟩
  ·exact .inl (by omega)
 ·have hd : (e.ord[k]?.getD []).Nodup := by
   have h2 := (lBo.1 hn).2.1
   rw [lA2 (by omega), lAn]
   exact List.Nodup.sublist (List.sublist_flatten_of_mem (lAm _)) h2
  refine P1 hd (E2 _ _ _) (fN k cH) ?_
  rw [qu k cH, Tq dF]; exact lA5 _
 ·exact P1 (lBo.1 hn).1 (Ej p) jh (by omega)
def Hv (p : List Ev) (e : Exec) (a : Nat) : Bool :=
 !(Bh p e.frm).K a || !((decide ((evAt p a).op.kind = 3) && (B7 e.dn a != decide ((Bh p e.frm).R a = (evAt p a).op.v))) || (decide ((evAt p a).op.kind = 4) && B7 e.dn a && decide ((Bh p e.frm).R a ≠ (evAt p a).op.v)))
theorem Ln {p : List Ev} {e : Exec} (hs : Shape p e) : (∀ a, a < p.length → Hv p e a = true) ↔ Tn p e := by
 have hK : ∀ {i : Nat} (hi : i < p.length) (hr : (evAt p i).reads = true), _ := fun {i} hi hr => Bj1 hs.fromOk hs.srcOk hs.outLt hi hr
 constructor
 ·intro h i x hx
  obtain ⟨hi, hr⟩ := hx.lt
  have h1 := (hK hi hr).1.2 ⟨x, hx⟩
  have h2 := (hK hi hr).2 x hx
  have h3 := h i hi
  unfold Hv at h3
  rw [h1, h2] at h3
  constructor
  ·intro k3
   cases hd : B7 e.dn i <;> simp [k3, hd] at h3 ⊢ <;> exact h3
  ·intro k4 hd
   simp [k4, hd] at h3; exact h3
 ·intro h i hi
  unfold Hv
  cases hk : (Bh p e.frm).K i with
  | false => rfl
  | true =>
   by_cases k3 : (evAt p i).op.kind = 3
   ·have hr : (evAt p i).reads = true := by simp [Ev.reads, k3]
    obtain ⟨x, hx⟩ := (hK hi hr).1.1 hk
    have h2 := (hK hi hr).2 x hx
    have h3 := (h i x hx).1 k3
    rw [h2]
    cases hd : B7 e.dn i with
    | true => simp [k3, h3.1 hd]
    | false =>
     have : ¬ x = (evAt p i).op.v := fun om => by rw [h3.2 om] at hd; cases hd
     simp [k3, this]
   ·by_cases k4 : (evAt p i).op.kind = 4
    ·have hr : (evAt p i).reads = true := by simp [Ev.reads, k4]
     obtain ⟨x, hx⟩ := (hK hi hr).1.1 hk
     have h2 := (hK hi hr).2 x hx
     have h3 := (h i x hx).2 k4
     rw [h2]
     cases hd : B7 e.dn i with
     | true => simp [k4, h3 hd]
     | false => simp [k4]
    ·simp [k3, k4]
theorem Tr {p : List Ev} {e : Exec} (h : ¬ Shape p e) : Ei p e = 1 := by
 unfold Ei; rw [if_neg fun hw => h hw.1]
theorem Vl {p : List Ev} {e : Exec} (hs : Shape p e) {a : Nat} (ha : a < p.length) (h : Hv p e a = false) : Ei p e = 1 := by
 unfold Ei; rw [if_neg fun hw => ?_]
 rw [(Ln hs).2 hw.2 a ha] at h; cases h
theorem Vm {p : List Ev} {e : Exec} (hs : Shape p e) (hw : Tn p e) {a : Nat} (ha : a < p.length) (h : (Bh p e.frm).K a = false) : Ei p e = 2 := by
 have hr : (evAt p a).reads = true := by
  cases hr : (evAt p a).reads with
  | true => rfl
  | false => rw [Ak5 hs.fromOk hs.srcOk hs.outLt ha hr] at h; cases h
 have b8 : F6 p e := lC7 fun hn => by
  have := (Bj1 hs.fromOk hs.srcOk hs.outLt ha hr).1.2 ⟨_, Pz hs (JL hn) ha hr⟩
  rw [h] at this; cases this
 unfold Ei; rw [if_pos ⟨hs, hw⟩, if_pos b8]
theorem Xl {p : List Ev} {e : Exec} (hm : L5 p) (hl : p.length ≤ 16) (hs : Shape p e) (hw : Tn p e) (h : Be (Ad2 p e) = true) : Ei p e = 2 := by
 unfold Ei; rw [if_pos ⟨hs, hw⟩, if_pos ((Ht hl hm hs).1 h)]
theorem Xm {p : List Ev} {e : Exec} (hp : POk p) (hm : L5 p) (hl : p.length ≤ 16) (hs : Shape p e) (hw : Tn p e) (hr : ¬ F6 p e) (h : Gg (Mb p e) (Fp p e) = true) : Ei p e = 3 := by
 unfold Ei; rw [if_pos ⟨hs, hw⟩, if_neg hr, if_pos ((Lj hl hm hs hp (JL hr)).1 h)]
open Classical in
theorem Ac0 {p : List Ev} {e : Exec} (hp : POk p) (hm : L5 p) (hl : p.length ≤ 16) (hs : Shape p e) (hw : Tn p e) (hr : ¬ F6 p e) (h : Gg (Mb p e) (Fp p e) = false) :
  Ei p e = if K8 p e then 0 else 4 := by
 have hc : ¬ Qr p e := fun hc => by rw [(Lj hl hm hs hp (JL hr)).2 hc] at h; cases h
 unfold Ei; rw [if_pos ⟨hs, hw⟩, if_neg hr, if_neg hc]
def Xn (p : List Ev) (e : Exec) : Bool := !(List.range 3).any fun k => C0 p e (e.ord[k]?.getD [])
theorem Ak6 {p : List Ev} {e : Exec} (ar : e.ord.length = 3) : Xn p e = true ↔ K8 p e := by
 obtain ⟨a, b, c, he⟩ := Vk ar
 have h1 := S8 (p := p) (e := e)
 have h2 : (List.range 3).any (fun k => C0 p e (e.ord[k]?.getD [])) = e.ord.any (C0 p e) := by
  rw [he]; simp [lDi]
 unfold Xn
 rw [h2]
 cases h : e.ord.any (C0 p e) with
 | true => simp [h1.1 h]
 | false =>
  simp only [lB9, true_iff]
  exact lC7 fun hn => by rw [h1.2 hn] at h; cases h
def Jy {β : Type} (S : List Int) (ok : List Int → Int → Bool) (fin : List Int → List β) : Nat → List Int → List β
 | 0, _ => []
 | F + 1, row => ((S.filter fun a => decide (a ∉ row)).filter (ok row)).flatMap (fun a => Jy S ok fin F (row ++ [a])) ++ (if (S.filter fun a => decide (a ∉ row)) = [] then fin row else [])
section
variable {β : Type} {S : List Int} {ok : List Int → Int → Bool} {fin : List Int → List β}
def J5 (ok : List Int → Int → Bool) : List Int → List Int → Prop
 | _, [] => True
 | row, a :: l => ok row a = true ∧ J5 ok (row ++ [a]) l
theorem Mc {ok : List Int → Int → Bool} : ∀ {l row : List Int}, J5 ok row l ↔ ∀ i, (h : i < l.length) → ok (row ++ l.take i) l[i] = true
 | [], _ => by simp [J5]
 | a :: l, row => by
  rw [J5, Mc (l := l)]
  constructor
  ·rintro ⟨h1, h2⟩ i hi
   cases i with
   | zero => simpa using h1
   | succ i =>
    have := h2 i (by simpa using hi)
    simpa using this
  ·intro h
   refine ⟨by have := h 0 (by simp); simpa only [lCr, lAa, lAt] using this, fun i hi => ?_⟩
   have := h (i + 1) (by simpa using hi)
   simpa using this
theorem Lo (hS : S.Nodup) : ∀ (F : Nat) (row : List Int), row.Nodup → (∀ x ∈ row, x ∈ S) → S.length < row.length + F → ∀ b, (b ∈ Jy S ok fin F row ↔ ∃ l, (row ++ l).Perm S ∧ J5 ok row l ∧ b ∈ fin (row ++ l))
 | 0, row, hn, hs, hF, b => by
  have := Bw hn hs
  omega
 | F + 1, row, hn, hs, hF, b => by
  rw [Jy, lB7, lB4]
  have hin : ∀ a, a ∈ S → a ∉ row → (b ∈ Jy S ok fin F (row ++ [a]) ↔ ∃ l, (row ++ [a] ++ l).Perm S ∧ J5 ok (row ++ [a]) l ∧ b ∈ fin (row ++ [a] ++ l)) := fun a ha gX =>
   Lo hS F (row ++ [a]) (by
    rw [lBo]
    refine ⟨hn, by simp, fun x hx y hy e => ?_⟩
    rw [lAi] at hy
    subst e hy
    exact gX hx) (by
    intro x hx
    rcases lB7.1 hx with hx | hx
    ·exact hs x hx
    ·rw [lAi] at hx; rw [hx]; exact ha) (by simp; omega) b
  constructor
  ·rintro (⟨a, ha, hb⟩ | hb)
   ·simp only [lCm, decide_eq_true_eq] at ha
    obtain ⟨⟨h1, h2⟩, h3⟩ := ha
    obtain ⟨l, q1, q2, q3⟩ := (hin a h1 h2).1 hb
    exact ⟨a :: l, by simpa using q1, ⟨h3, q2⟩, by simpa using q3⟩
   ·split at hb
    ·rename_i h0
     refine ⟨[], ?_, trivial, by simpa using hb⟩
     rw [lAa]
     refine P0 hn hS fun x => ⟨hs x, fun hx => lBe fun aI => ?_⟩
     have : x ∈ S.filter fun a => decide (a ∉ row) := lCm.2 ⟨hx, by simpa using aI⟩
     rw [h0] at this; cases this
    ·cases hb
  ·rintro ⟨l, q1, q2, q3⟩
   cases l with
   | nil =>
    right
    rw [lAa] at q1 q3
    rw [if_pos]
    ·exact q3
    ·rw [List.filter_eq_nil_iff]
     intro x hx
     simpa using q1.mem_iff.2 hx
   | cons a l =>
    left
    have hnd : (row ++ a :: l).Nodup := q1.nodup_iff.2 hS
    have ha : a ∈ S := q1.mem_iff.1 (by simp)
    have gX : a ∉ row := fun h => (lBo.1 hnd).2.2 a h a (by simp) rfl
    refine ⟨a, ?_, (hin a ha gX).2 ⟨l, by simpa using q1, q2.2, by simpa using q3⟩⟩
    simp only [lCm, decide_eq_true_eq]
    exact ⟨⟨ha, gX⟩, q2.1⟩
theorem Md (hS : S.Nodup) (hf : ∀ r : List Int, (fin r).Nodup) (hd : ∀ r t : List Int, r.length = t.length → r ≠ t → ∀ b, b ∈ fin r → b ∉ fin t) : ∀ (F : Nat) (row : List Int), row.Nodup → (∀ x ∈ row, x ∈ S) → S.length < row.length + F → (Jy S ok fin F row).Nodup
 | 0, row, hn, hs, hF => by
  have := Bw hn hs
  omega
 | F + 1, row, hn, hs, hF => by
  have lS : ∀ a, a ∈ S → a ∉ row → (row ++ [a]).Nodup ∧ (∀ x ∈ row ++ [a], x ∈ S) := fun a ha gX => ⟨by
   rw [lBo]
   refine ⟨hn, by simp, fun x hx y hy e => ?_⟩
   rw [lAi] at hy
   subst e hy
   exact gX hx, by
   intro x hx
   rcases lB7.1 hx with hx | hx
   ·exact hs x hx
   ·rw [lAi] at hx; rw [hx]; exact ha⟩
  rw [Jy]
  by_cases h0 : (S.filter fun a => decide (a ∉ row)) = []
  ·rw [h0, if_pos rfl]
   simpa using hf row
  ·rw [if_neg h0, lAa]
   refine Cs ((hS.filter _).filter _) (fun a ha => ?_) (fun a ha c hc hne z hz gt => ?_)
   ·simp only [lCm, decide_eq_true_eq] at ha
    obtain ⟨h1, h2⟩ := lS a ha.1.1 ha.1.2
    exact Md hS hf hd F _ h1 h2 (by simp; omega)
   ·simp only [lCm, decide_eq_true_eq] at ha hc
    obtain ⟨a1, a2⟩ := lS a ha.1.1 ha.1.2
    obtain ⟨c1, c2⟩ := lS c hc.1.1 hc.1.2
    obtain ⟨l, p1, _, p3⟩ := (Lo hS F _ a1 a2 (by simp; omega) z).1 hz
    obtain ⟨m, q1, _, q3⟩ := (Lo hS F _ c1 c2 (by simp; omega) z).1 gt
    refine hd _ _ (by rw [p1.length_eq, q1.length_eq]) (fun e => hne ?_) z p3 q3
    have := congrArg (fun r => r[row.length]?) e
    simpa using this
end
def We (p : List Ev) (i f : Nat) : List (Int × Bool) :=
 if (f : Int) - 1 = i ∨ (0 < f ∧ (Ay (evAt p (f - 1)).op = false ∨ (evAt p (f - 1)).op.loc ≠ (evAt p i).op.loc)) then []
 else if (evAt p i).op.kind < 3 then [((f : Int) - 1, Ay (evAt p i).op)] else [((f : Int) - 1, Ay (evAt p i).op), ((f : Int) - 1, false)]
def Ig (p : List Ev) (i : Nat) : List (Int × Bool) :=
 if Bx (evAt p i).op = false then [(-2, Ay (evAt p i).op)] else (List.range (p.length + 1)).flatMap (We p i)
def Sc (pre : List (Int × Bool)) : List Int := pre.map (·.1)
def dnV (pre : List (Int × Bool)) : List Bool := pre.map (·.2)
def Gt (p : List Ev) (e : Exec) : List Exec := if Be (Ad2 p e) = true ∨ Gg (Mb p e) (Fp p e) = true then [] else [e]
def I9 (p : List Ev) (row : List Int) (a : Int) : Bool := (List.range p.length).all fun b => !(decide ((b : Int) < a) && (evAt p b).strong && decide ((evAt p b).th = (evAt p a.toNat).th) && decide ((b : Int) ∉ row))
def Ts (p : List Ev) (e : Exec) (F : Nat) (row : List Int) : List Exec := Jy (A5 p) (I9 p) (fun r => Gt p { e with fen := r }) F row
def Dh (p : List Ev) (e : Exec) : List Exec := if Gg (Mb p { e with fen := [] }) (Fp p { e with fen := [] }) = true then [] else Ts p { e with fen := [] } (p.length + 1) []
def P2 (row : List Int) : Int := Ed row row.length
def okV (p : List Ev) (e : Exec) (row : List Int) (a : Int) : Bool := !Bx (evAt p a.toNat).op || decide (Af e a.toNat = P2 row)
def Em (p : List Ev) (e : Exec) : Nat → Nat → List Exec
 | 0, _ => Dh p e
 | n + 1, k => Jy (Ir p e.dn k p.length) (okV p e) (fun r => Em p { e with ord := e.ord.set k r } n (k + 1)) (p.length + 1) []
def exV (pre : List (Int × Bool)) : Exec := ⟨Sc pre, dnV pre, [[], [], []], []⟩
def Y5 (e : Exec) (n : Nat) : Bool := (List.range n).all fun a => !(decide (0 ≤ Af e a) && !B7 e.dn (Af e a).toNat)
def Ik (p : List Ev) (e : Exec) : Bool := !Y5 e p.length || !(List.range p.length).all (fun a => (Bh p e.frm).K a) || !(List.range p.length).all (Hv p e) || Be (Ca (Cu (T9 p) (Hr p e)))
def Ex (p : List Ev) (pre : List (Int × Bool)) : List Exec := if Ik p (exV pre) = true then [] else Em p (exV pre) 3 0
def Co (p : List Ev) : Nat → List (Int × Bool) → List Exec
 | 0, pre => Ex p pre
 | n + 1, pre => (Ig p pre.length).flatMap fun o => Co p n (pre ++ [o])
def Xo (p : List Ev) : List Exec := Co p p.length []
theorem Hw {p : List Ev} {x : Exec} : ∀ {n : Nat} {pre : List (Int × Bool)}, x ∈ Co p n pre ↔ ∃ rest, rest.length = n ∧ (∀ i, (h : i < rest.length) → rest[i] ∈ Ig p (pre.length + i)) ∧ x ∈ Ex p (pre ++ rest)
 | 0, pre => by
  rw [Co]
  constructor
  ·intro h; exact ⟨[], rfl, fun i h => absurd h (by simp), by simpa using h⟩
  ·rintro ⟨r, h1, _, h3⟩
   rw [lC6] at h1
   subst h1
   simpa using h3
 | n + 1, pre => by
  rw [Co, lB4]
  constructor
  ·rintro ⟨o, ho, hx⟩
   obtain ⟨r, h1, h2, h3⟩ := Hw.1 hx
   refine ⟨o :: r, by simp [h1], fun i hi => ?_, by simpa using h3⟩
   cases i with
   | zero => simpa using ho
   | succ i =>
    have := h2 i (by simpa using hi)
    rw [lA4, lCd] at this
    rw [lAs, show pre.length + (i + 1) = pre.length + 1 + i by omega]
    exact this
  ·rintro ⟨r, h1, h2, h3⟩
   match r, h1 with
   | o :: r, h1 =>
    refine ⟨o, by have := h2 0 (by simp); simpa only [lAt, lDc] using this, Hw.2 ⟨r, by simpa using h1, fun i hi => ?_, by simpa using h3⟩⟩
    have := h2 (i + 1) (by simpa using hi)
    rw [lAs] at this
    rw [lA4, lCd, show pre.length + 1 + i = pre.length + (i + 1) by omega]
    exact this
theorem Lp {p : List Ev} {i f : Nat} {o : Int × Bool} : o ∈ We p i f ↔ o.1 = (f : Int) - 1 ∧ (f : Int) - 1 ≠ i ∧ (0 < f → Ay (evAt p (f - 1)).op = true ∧ (evAt p (f - 1)).op.loc = (evAt p i).op.loc) ∧ (o.2 = Ay (evAt p i).op ∨ (¬ (evAt p i).op.kind < 3 ∧ o.2 = false)) := by
 unfold We
 split
 ·rename_i h
  simp only [lB5, false_iff]
  rintro ⟨h1, h2, h3, _⟩
  rcases h with h | ⟨h0, h⟩
  ·exact h2 h
  ·obtain ⟨q1, q2⟩ := h3 h0
   rcases h with h | h
   ·rw [q1] at h; cases h
   ·exact h q2
 ·rename_i h
  have hn : (f : Int) - 1 ≠ i ∧ (0 < f → Ay (evAt p (f - 1)).op = true ∧ (evAt p (f - 1)).op.loc = (evAt p i).op.loc) := by
   refine ⟨fun e => h (.inl e), fun h0 => ⟨?_, ?_⟩⟩
   ·cases hw : Ay (evAt p (f - 1)).op with
    | true => rfl
    | false => exact absurd (.inr ⟨h0, .inl hw⟩) h
   ·exact lBe fun hl => h (.inr ⟨h0, .inr hl⟩)
  split
  ·rename_i hk
   simp only [lAi, Prod.ext_iff]
   exact ⟨fun ⟨a, b⟩ => ⟨a, hn.1, hn.2, .inl b⟩, fun ⟨a, _, _, b⟩ => ⟨a, b.resolve_right fun h => h.1 hk⟩⟩
  ·rename_i hk
   simp only [lBp, lB5, or_false, Prod.ext_iff]
   constructor
   ·rintro (⟨a, b⟩ | ⟨a, b⟩)
    ·exact ⟨a, hn.1, hn.2, .inl b⟩
    ·exact ⟨a, hn.1, hn.2, .inr ⟨hk, b⟩⟩
   ·rintro ⟨a, _, _, b | ⟨_, b⟩⟩
    ·exact .inl ⟨a, b⟩
    ·exact .inr ⟨a, b⟩
theorem P3 {p : List Ev} {i : Nat} {o : Int × Bool} : o ∈ Ig p i ↔ (Bx (evAt p i).op = false ∧ o = (-2, Ay (evAt p i).op)) ∨ (Bx (evAt p i).op = true ∧ ∃ f, f < p.length + 1 ∧ o ∈ We p i f) := by
 unfold Ig
 split
 ·rename_i h; simp [h]
 ·rename_i h
  have h : Bx (evAt p i).op = true := by simpa using h
  simp [h, lB4]
section
variable {p : List Ev}
theorem Fw (hnd : ∀ dn k, (Ir p dn k p.length).Nodup) : ∀ (n k : Nat) (e x : Exec), e.ord.length = k + n → (x ∈ Em p e n k ↔ ∃ rs : List (List Int), rs.length = n ∧ (∀ j, (h : j < rs.length) → rs[j].Perm (Ir p e.dn (k + j : Nat) p.length) ∧ J5 (okV p e) [] rs[j]) ∧ x ∈ Dh p { e with ord := e.ord.take k ++ rs })
 | 0, k, e, x, hl => by
  rw [Em]
  have he : ({ e with ord := e.ord.take k ++ [] } : Exec) = e := by rw [lAa, lAw (by omega)]
  constructor
  ·intro h; exact ⟨[], rfl, fun j h => absurd h (by simp), by rw [he]; exact h⟩
  ·rintro ⟨rs, h1, _, h3⟩
   rw [lC6] at h1
   subst h1
   rw [he] at h3; exact h3
 | n + 1, k, e, x, hl => by
  have dG : (Ir p e.dn k p.length).length < ([] : List Int).length + (p.length + 1) := by have := A8 p.length (fun i => B7 e.dn i && decide ((evAt p i).op.loc = (k : Int))); unfold Ir; simp only [lC1]; omega
  have cI : ∀ r : List Int, (e.ord.set k r).take (k + 1) = e.ord.take k ++ [r] := fun r => by
   rw [lA7 (by simp; omega), lDj, lCz (lA5 k)]
  rw [Em, Lo (hnd _ _) _ _ lCf (by simp) dG]
  constructor
  ·rintro ⟨l, h1, h2, h3⟩
   rw [lAj] at h1 h3
   obtain ⟨rs, q1, q2, q3⟩ := (Fw hnd n (k + 1) _ x (by simp; omega)).1 h3
   refine ⟨l :: rs, by simp [q1], fun j hj => ?_, ?_⟩
   ·cases j with
    | zero => exact ⟨by simpa using h1, h2⟩
    | succ j =>
     have := q2 j (by simpa using hj)
     rw [lAs, show k + (j + 1) = k + 1 + j by omega]
     exact this
   ·dsimp only at q3
    rw [cI, lAc] at q3
    exact q3
  ·rintro ⟨rs, q1, q2, q3⟩
   cases rs with
   | nil => simp at q1
   | cons l rs =>
    have h0 := q2 0 (by simp)
    simp only [lAt, lDc] at h0
    refine ⟨l, by rw [lAj]; exact h0.1, h0.2, ?_⟩
    rw [lAj]
    refine (Fw hnd n (k + 1) _ x (by simp; omega)).2 ⟨rs, by simpa using q1, fun j hj => ?_, ?_⟩
    ·have := q2 (j + 1) (by simpa using hj)
     rw [lAs, show k + (j + 1) = k + 1 + j by omega] at this
     exact this
    ·dsimp only
     rw [cI, lAc]
     exact q3
theorem Hx (p : List Ev) (dn : List Bool) (k : Int) : (Ir p dn k p.length).Nodup := F8 (K9 _ _)
theorem Gu {e x : Exec} : x ∈ Dh p e ↔ Gg (Mb p { e with fen := [] }) (Fp p { e with fen := [] }) = false ∧ ∃ fen : List Int, fen.Perm (A5 p) ∧ J5 (I9 p) [] fen ∧ x = { e with fen := fen } ∧ Be (Ad2 p { e with fen := fen }) = false ∧ Gg (Mb p { e with fen := fen }) (Fp p { e with fen := fen }) = false := by
 have dG : (A5 p).length < ([] : List Int).length + (p.length + 1) := by have := A8 p.length (fun i => (evAt p i).strong); unfold A5; simp only [lC1]; omega
 unfold Dh
 split
 ·rename_i h; simp [h]
 ·rename_i h
  have h : Gg (Mb p { e with fen := [] }) (Fp p { e with fen := [] }) = false := by simpa using h
  unfold Ts
  rw [Lo (Ej p) _ _ lCf (by simp) dG]
  constructor
  ·rintro ⟨l, h1, h2, h3⟩
   rw [lAj] at h1 h3
   unfold Gt at h3
   split at h3
   ·cases h3
   ·rename_i aI
    rw [lAi] at h3
    simp only [not_or, lEr] at aI
    exact ⟨h, l, h1, h2, h3, aI.1, aI.2⟩
  ·rintro ⟨_, l, h1, h2, h3, h4, h5⟩
   refine ⟨l, by simpa using h1, h2, ?_⟩
   rw [lAj]
   unfold Gt
   rw [if_neg (by simp [h4, h5]), lAi]
   exact h3
end
theorem Sd {l : List Int} {i : Nat} (h : i ≤ l.length) : P2 (l.take i) = Ed l i := by
 unfold P2
 rw [lC4, lC0 h]
 cases i with
 | zero => rfl
 | succ i =>
  show Ae (l.take (i + 1)) i = Ae l i
  unfold Ae
  rw [List.getElem?_take_of_lt (by omega)]
theorem Ja {l : List Int} {i : Nat} (h : i < l.length) : Ae l i = l[i] := by unfold Ae; rw [lA2 h]; rfl
theorem Ak7 {p : List Ev} {e : Exec} (hk : ∀ i, i < p.length → 0 ≤ (evAt p i).op.kind ∧ (evAt p i).op.kind ≤ 5) {l : List Int} (hin : ∀ i, i < l.length → (Ae l i).toNat < p.length) :
  J5 (okV p e) [] l ↔ ∀ i, i < l.length → (evAt p (Ae l i).toNat).reads = true → Af e (Ae l i).toNat = Ed l i := by
 rw [Mc]
 refine forall_congr' fun i => ⟨fun h hi hr => ?_, fun h hi => ?_⟩
 ·have h1 := h hi
  rw [lAj] at h1
  unfold okV at h1
  rw [← Ja hi, Sd (by omega), Dg (hk _ (hin i hi)), hr] at h1
  simpa using h1
 ·rw [lAj]
  unfold okV
  rw [← Ja hi, Sd (by omega), Dg (hk _ (hin i hi))]
  cases hr : (evAt p (Ae l i).toNat).reads with
  | false => rfl
  | true => simpa using h hi hr
theorem Se {p : List Ev} {row : List Int} {a : Int} : I9 p row a = true ↔ ∀ b : Nat, b < p.length → (b : Int) < a → (evAt p b).strong = true → (evAt p b).th = (evAt p a.toNat).th → (b : Int) ∈ row := by
 unfold I9
 simp only [lAz, lAl, lB6, lBj, decide_eq_false_iff_not]
 refine forall_congr' fun b => forall_congr' fun hb => ⟨fun h h1 h2 h3 => ?_, fun h => ?_⟩
 ·rcases h with ((h | h) | h) | h
  ·exact absurd h1 h
  ·rw [h2] at h; cases h
  ·exact absurd h3 h
  ·exact lC7 h
 ·by_cases h1 : (b : Int) < a
  ·cases h2 : (evAt p b).strong with
   | false => exact .inl (.inl (.inr rfl))
   | true =>
    by_cases h3 : (evAt p b).th = (evAt p a.toNat).th
    ·exact .inr fun hn => hn (h h1 h2 h3)
    ·exact .inl (.inr h3)
  ·exact .inl (.inl (.inl h1))
theorem P4 {r t : Rel} (hr : RelOk 16 r) (ht : RelOk 16 t) (h : ∀ x y, A6 r x y = true → A6 t x y = true) {x y : Nat} (ct : A6 (Ca r) x y = true) : A6 (Ca t) x y = true :=
 (Ds ht).2 (((Ds hr).1 ct).mono fun x y k => h x y k)
theorem Y6 {pre : List (Int × Bool)} {a : Nat} (h : a < pre.length) {e : Exec} (he : e.frm = Sc pre) : Af e a = pre[a].1 := by
 unfold Af; rw [he]; simp [Sc, h]
theorem Bh5 {pre : List (Int × Bool)} {a : Nat} (h : a < pre.length) : B7 (dnV pre) a = pre[a].2 := by
 unfold B7; simp [dnV, h]
section
variable {p : List Ev}
theorem Aq0 {pre : List (Int × Bool)} (hl : pre.length = p.length) (ho : ∀ i, (h : i < pre.length) → pre[i] ∈ Ig p i) {e : Exec} (hf : e.frm = Sc pre) (hd : e.dn = dnV pre) (hs : Y5 e p.length = true) {a : Nat} (ha : a < p.length) : EvR p e a := by
 have h := ho a (by omega)
 have h1 := Y6 (show a < pre.length by omega) hf
 have h2 : B7 e.dn a = pre[a].2 := by rw [hd]; exact Bh5 (by omega)
 rw [P3] at h
 have ah : 0 ≤ Af e a → B7 e.dn (Af e a).toNat = true := fun h0 => by
  unfold Y5 at hs
  rw [lAz] at hs
  have := hs a (lAl.2 ha)
  simpa [h0] using this
 rcases h with ⟨hr, h⟩ | ⟨hr, f, aj, h⟩
 ·have e1 : pre[a].1 = -2 := by rw [h]
  have e2 : pre[a].2 = Ay (evAt p a).op := by rw [h]
  refine ⟨fun _ => by omega, fun h => by (rw [hr] at h; cases h), fun h => ?_, fun h => by (rw [h2, e2, h]), fun h => by (rw [hr] at h; cases h)⟩
  rw [h2, e2]; exact Cd.2 (by omega)
 ·obtain ⟨e1, hne, hw, e2⟩ := Lp.1 h
  refine ⟨fun h => by (rw [hr] at h; cases h), fun _ => by omega, fun h => ?_, fun h => ?_, fun _ h0 => ?_⟩
  ·rcases e2 with e2 | ⟨h3, _⟩
   ·rw [h2, e2]; exact Cd.2 (by omega)
   ·omega
  ·rcases e2 with e2 | ⟨_, e2⟩
   ·rw [h2, e2, h]
   ·rw [h2, e2]
  ·obtain ⟨q1, q2⟩ := hw (by omega)
   have : (Af e a).toNat = f - 1 := by omega
   exact ⟨ah h0, by rw [this]; exact q2, by rw [this]; exact q1⟩
theorem Aq1 (hk : ∀ i, i < p.length → 0 ≤ (evAt p i).op.kind ∧ (evAt p i).op.kind ≤ 5) (hp : POk p) (hm : L5 p) (hl : p.length ≤ 16) {x : Exec} : x ∈ Xo p ↔ Ei p x = 0 := by
 rw [Xo, Hw]
 constructor
 ·rintro ⟨pre, aP, ho, hx⟩
  rw [lAj] at hx
  simp only [lC1, lBi] at ho
  unfold Ex at hx
  split at hx
  ·cases hx
  ·rename_i an
   rw [lEr] at an
   unfold Ik at an
   simp only [lBq, lCe] at an
   obtain ⟨⟨⟨ce, hkn⟩, ir⟩, kj⟩ := an
   obtain ⟨rs, ed, ml, hx⟩ := (Fw (Hx p) 3 0 _ x rfl).1 hx
   rw [lCr, lAj] at hx
   obtain ⟨_, fen, uh, tI, cV, kl, bX⟩ := Gu.1 hx
   rw [← cV] at kl bX
   have ij : x.frm = Sc pre := by rw [cV]; rfl
   have nY : x.dn = dnV pre := by rw [cV]; rfl
   have nZ : x.ord = rs := by rw [cV]
   have d5 : x.fen = fen := by rw [cV]
   have dF : ∀ a, a < p.length → EvR p x a := fun a ha => Aq0 aP ho ij nY (by
    have : Y5 x p.length = Y5 (exV pre) p.length := by unfold Y5 Af; rw [ij, nY]; rfl
    rw [this]; exact ce) ha
   have bJ : ∀ k : Nat, k < 3 → (x.ord[k]?.getD []).Perm (Ir p x.dn k p.length) ∧ J5 (okV p (exV pre)) [] (x.ord[k]?.getD []) := fun k cH => by
    have := ml k (by omega)
    rw [lBi] at this
    rw [nZ, nY, lA2 (by omega), lAn]
    exact this
   have hs : Shape p x := by
    refine ⟨by rw [ij]; simp [Sc, aP], by rw [nY]; simp [dnV, aP], by rw [nZ]; exact ed, fun i hi => (dF i hi).do1, fun i hi hd => ?_, fun i hi hr => ?_, fun i hi hr => ?_, fun k cH => ?_, by rw [d5]; exact uh⟩
    ·cases hw : Ay (evAt p i).op with
     | false => rw [(dF i hi).do0 hw] at hd; cases hd
     | true => exact Cd.1 hw
    ·exact (dF i hi).out (by rw [Dg (hk i hi)]; exact hr)
    ·have bj : Bx (evAt p i).op = true := by rw [Dg (hk i hi)]; exact hr
     have h1 := (dF i hi).src bj
     by_cases h0 : 0 ≤ Af x i
     ·obtain ⟨h2, h3, h4⟩ := (dF i hi).src2 bj h0
      exact .inr ⟨(Af x i).toNat, by omega, by omega, h2, h3⟩
     ·exact .inl (by omega)
    ·rw [← Tq dF]; exact (bJ k cH).1
   have hw : Tn p x := (Ln hs).1 fun a ha => by
    rw [lAz] at ir
    have h1 := ir a (lAl.2 ha)
    have : Hv p x a = Hv p (exV pre) a := by unfold Hv; rw [ij, nY]; rfl
    rw [this]; exact h1
   have b8 : ¬ F6 p x := fun h => by rw [(Ht hl hm hs).2 h] at kl; cases kl
   have c8 : ¬ Qr p x := fun h => by rw [(Lj hl hm hs hp (JL b8)).2 h] at bX; cases bX
   have cR : K8 p x := by
    intro l mm
    obtain ⟨k, cH, rfl⟩ := lBf mm
    have n5 : k < 3 := by rw [hs.ol] at cH; exact cH
    have h1 := (bJ k n5).2
    rw [lA2 cH, lAn] at h1
    have hin := Y1 hl hm hs k n5
    rw [lA2 cH, lAn] at hin
    have h2 := (Ak7 hk fun i hi => by have := hin i hi; omega).1 h1
    intro i hi hr
    have h3 := h2 i hi hr
    unfold Af at h3 ⊢
    rw [ij]; exact h3
   unfold Ei
   rw [if_pos ⟨hs, hw⟩, if_neg b8, if_neg c8, if_pos cR]
 ·intro h
  unfold Ei at h
  split at h
  case isFalse => cases h
  rename_i ui
  obtain ⟨hs, hw⟩ := ui
  split at h
  case isTrue => cases h
  rename_i b8
  split at h
  case isTrue => cases h
  rename_i c8
  split at h
  case isFalse => cases h
  rename_i cR
  have ap := JL b8
  have dF : ∀ a, a < p.length → EvR p x a := fun a ha => hs.evR hk ha
  have aj := hs.fl
  have ax := hs.dl
  have aP : (x.frm.zip x.dn).length = p.length := by rw [List.length_zip]; omega
  have hfv : Sc (x.frm.zip x.dn) = x.frm := List.map_fst_zip (by omega)
  have mC : dnV (x.frm.zip x.dn) = x.dn := List.map_snd_zip (by omega)
  have jW : ∀ k, k < x.fen.length → 0 ≤ Ae x.fen k ∧ Ae x.fen k < 16 := Vb hl hm hs
  have mX : RelOk 16 (Cu (T9 p) (Cu (Hr p x) (F9 x.fen))) := unionR_ok (thrR_ok hl) (unionR_ok (fromR_ok hl) (turnsR_ok jW))
  refine ⟨x.frm.zip x.dn, aP, fun i hi => ?_, ?_⟩
  ·have aC : i < p.length := by omega
   simp only [lC1, lBi]
   have hE := dF i aC
   have hg : (x.frm.zip x.dn)[i] = (Af x i, B7 x.dn i) := by
    rw [List.getElem_zip]
    unfold Af B7
    rw [lA2 (by omega), lA2 (by omega)]; rfl
   rw [hg, P3]
   cases hr : Bx (evAt p i).op with
   | false =>
    refine .inl ⟨rfl, Prod.ext (hE.out hr) ?_⟩
    show B7 x.dn i = Ay (evAt p i).op
    cases aV : Ay (evAt p i).op with
    | false => exact hE.do0 aV
    | true =>
     refine hE.do1 (.inl ?_)
     have := Cd.1 aV
     simp only [Bx, lBq, lBj, decide_eq_false_iff_not] at hr
     omega
   | true =>
    have lj := hE.src hr
    refine .inr ⟨rfl, (Af x i + 1).toNat, by omega, Lp.2 ⟨by dsimp only; omega, fun hh => ?_, fun h0 => ?_, ?_⟩⟩
    ·exact ap i (.one ⟨aC, by omega⟩)
    ·obtain ⟨q1, q2, q3⟩ := hE.src2 hr (by omega)
     have : (Af x i + 1).toNat - 1 = (Af x i).toNat := by omega
     rw [this]; exact ⟨q3, q2⟩
    ·dsimp only
     cases aV : Ay (evAt p i).op with
     | false => exact .inl (hE.do0 aV)
     | true =>
      have h4 := Cd.1 aV
      by_cases h3 : (evAt p i).op.kind < 3
      ·refine .inl (hE.do1 ?_)
       simp only [Bx, lAr, lA6, decide_eq_true_eq] at hr
       omega
      ·cases hd : B7 x.dn i with
       | true => exact .inl rfl
       | false => exact .inr ⟨h3, rfl⟩
  ·rw [lAj]
   have an : Ik p (exV (x.frm.zip x.dn)) = false := by
    unfold Ik exV
    rw [hfv, mC]
    simp only [lBq, lCe]
    refine ⟨⟨⟨?_, ?_⟩, ?_⟩, ?_⟩
    ·unfold Y5
     rw [lAz]
     intro a ha
     have hE := dF a (lAl.1 ha)
     show (!(decide (0 ≤ Af x a) && !B7 x.dn (Af x a).toNat)) = true
     by_cases h0 : 0 ≤ Af x a
     ·cases hr : Bx (evAt p a).op with
      | false => have := hE.out hr; omega
      | true => rw [(hE.src2 hr h0).1]; simp
     ·simp [h0]
    ·rw [lAz]
     intro a ha
     have ha := lAl.1 ha
     cases hr : (evAt p a).reads with
     | false => exact Ak5 hs.fromOk hs.srcOk hs.outLt ha hr
     | true => exact (Bj1 hs.fromOk hs.srcOk hs.outLt ha hr).1.2 ⟨_, Pz hs ap ha hr⟩
    ·rw [lAz]
     intro a ha
     exact (Ln hs).2 hw a (lAl.1 ha)
    ·rw [lEl]
     intro hc
     obtain ⟨a, ha⟩ := C1.1 hc
     have aI : ¬ Be (Ad2 p x) = true := fun h => b8 ((Ht hl hm hs).1 h)
     refine aI (C1.2 ⟨a, P4 (unionR_ok (thrR_ok hl) (fromR_ok hl)) mX (fun u v h => ?_) ha⟩)
     rcases (By (Gr p) (Eh p _)).1 h with h | h
     ·exact (By (Gr p) (by rw [Eu, Eh])).2 (.inl h)
     ·exact (By (Gr p) (by rw [Eu, Eh])).2 (.inr ((By (Eh p x) (Hs _)).2 (.inl h)))
   unfold Ex
   rw [if_neg (by rw [an]; simp)]
   refine (Fw (Hx p) 3 0 _ x rfl).2 ⟨x.ord, hs.ol, fun j hj => ?_, ?_⟩
   ·have tM : j < 3 := by rw [hs.ol] at hj; exact hj
    have hin := Y1 hl hm hs j tM
    have tN := hs.ord j tM
    rw [lA2 hj, lAn] at hin tN
    refine ⟨?_, (Ak7 hk fun i hi => by have := hin i hi; omega).2 fun i hi hr => ?_⟩
    ·rw [lBi]
     have he : (exV (x.frm.zip x.dn)).dn = x.dn := mC
     rw [he, Tq dF]; exact tN
    ·have := cR _ (lAm hj) i hi hr
     unfold Af at this ⊢
     show (Sc (x.frm.zip x.dn))[_]?.getD 0 = _
     rw [hfv]; exact this
   ·rw [lCr, lAj]
    have cV : ({ (exV (x.frm.zip x.dn)) with ord := x.ord } : Exec) = ⟨x.frm, x.dn, x.ord, []⟩ := by
     unfold exV; rw [hfv, mC]
    rw [cV]
    have kS : Be (Ad2 p x) = false := by rw [lEl]; exact fun h => b8 ((Ht hl hm hs).1 h)
    have dY : Gg (Mb p x) (Fp p x) = false := by rw [lEl]; exact fun h => c8 ((Lj hl hm hs hp ap).1 h)
    refine Gu.2 ⟨?_, x.fen, hs.fen, ?_, rfl, kS, dY⟩
    ·rw [lEl]
     intro hb
     rw [lEl] at dY
     apply dY
     have de : ∀ u v, A6 (Mb p ⟨x.frm, x.dn, x.ord, []⟩) u v = true → A6 (Mb p x) u v = true := fun u v h => by
      refine P4 (unionR_ok (thrR_ok hl) (unionR_ok (meetsR_ok hl) (turnsR_ok fun k hk => absurd hk (by simp)))) (unionR_ok (thrR_ok hl) (unionR_ok (meetsR_ok hl) (turnsR_ok jW))) (fun u v h => ?_) h
      rcases (By (Gr p) (by rw [Eu, Ew])).1 h with h | h
      ·exact (By (Gr p) (by rw [Eu, Ew])).2 (.inl h)
      ·rcases (By (Ew p _) (Hs _)).1 h with h | h
       ·exact (By (Gr p) (by rw [Eu, Ew])).2 (.inr ((By (Ew p x) (Hs _)).2 (.inl h)))
       ·obtain ⟨i, j, _, hj, _⟩ := (Ma fun k hk => absurd hk (by simp)).1 h
        exact absurd hj (by simp)
     have n7 : Fp p ⟨x.frm, x.dn, x.ord, []⟩ = Fp p x := rfl
     unfold Gg at hb ⊢
     rw [n7] at hb
     rw [lAr] at hb ⊢
     rcases hb with hb | hb
     ·obtain ⟨a, ha⟩ := C1.1 hb
      exact .inl (C1.2 ⟨a, de _ _ ha⟩)
     ·simp only [lBx, lAl, lA6] at hb ⊢
      obtain ⟨a, ha, b, hb, h1, h2⟩ := hb
      exact .inr ⟨a, ha, b, hb, de _ _ h1, h2⟩
    ·refine Mc.2 fun i hi => Se.2 fun b hb aU aa cr => ?_
     rw [lAj]
     refine lC7 fun aI => b8 ?_
     have tF : (b : Int) ∈ x.fen := hs.fen.mem_iff.2 (Gc.2 ⟨b, rfl, hb, aa⟩)
     obtain ⟨j, hj, qv⟩ := lBf tF
     have gK : i < j := lC7 fun aY => by
      by_cases jm : j = i
      ·subst jm; rw [qv] at aU; omega
      ·exact aI (by rw [← qv]; exact List.mem_take_iff_getElem.2 ⟨j, by omega, rfl⟩)
     have uj := jW i hi
     rw [Ja hi] at uj
     have kL : (x.fen[i]).toNat < p.length := by
      obtain ⟨c, hc, aS, _⟩ := Gc.1 (hs.fen.mem_iff.1 (lAm hi))
      omega
     have h1 : TG (Sb1 p) b (x.fen[i]).toNat := Tj hm (by omega) kL cr
     have h2 : TG (Fo1 x.fen) (x.fen[i]).toNat b := Tk (fun k hk => (jW k hk).1) ⟨i, j, gK, hj, by rw [Ja hi]; omega, by rw [Ja hj]; exact qv⟩
     exact ⟨b, (h1.mono fun _ _ k => .inl k).trans (h2.mono fun _ _ k => .inr (.inl k))⟩
end
section
variable {p : List Ev}
theorem Qu {e : Exec} : (Dh p e).Nodup := by
 have dG : (A5 p).length < ([] : List Int).length + (p.length + 1) := by have := A8 p.length (fun i => (evAt p i).strong); unfold A5; simp only [lC1]; omega
 unfold Dh
 split
 ·exact lCf
 ·unfold Ts
  refine Md (Ej p) (fun r => ?_) (fun r t _ hne b hb fB => ?_) _ _ lCf (by simp) dG
  ·unfold Gt; split <;> simp
  ·have key : ∀ {r : List Int}, b ∈ Gt p { ({ e with fen := [] } : Exec) with fen := r } → b.fen = r := fun {r} h => by
    unfold Gt at h
    split at h
    ·cases h
    ·rw [lAi] at h; rw [h]
   exact hne ((key hb).symm.trans (key fB))
theorem No : ∀ (n k : Nat) (e : Exec), e.ord.length = k + n → (Em p e n k).Nodup
 | 0, k, e, hl => Qu
 | n + 1, k, e, hl => by
  have dG : (Ir p e.dn k p.length).length < ([] : List Int).length + (p.length + 1) := by have := A8 p.length (fun i => B7 e.dn i && decide ((evAt p i).op.loc = (k : Int))); unfold Ir; simp only [lC1]; omega
  have cI : ∀ r : List Int, (e.ord.set k r).take (k + 1) = e.ord.take k ++ [r] := fun r => by
   rw [lA7 (by simp; omega), lDj, lCz (lA5 k)]
  rw [Em]
  refine Md (Hx p _ _) (fun r => No n (k + 1) _ (by simp; omega)) (fun r t _ hne b hb fB => ?_) _ _ lCf (by simp) dG
  have key : ∀ {r : List Int}, b ∈ Em p { e with ord := e.ord.set k r } n (k + 1) → b.ord[k]? = some r := fun {r} h => by
   obtain ⟨rs, _, _, h⟩ := (Fw (Hx p) n (k + 1) _ b (by simp; omega)).1 h
   obtain ⟨_, fen, _, _, hx, _⟩ := Gu.1 h
   rw [hx]
   dsimp only
   rw [cI, lAc, lEn (by rw [lC4]; omega), lC4, lC0 (by omega), lF9]
   rfl
  have h1 := key hb
  rw [key fB] at h1
  exact hne (Option.some.inj h1).symm
theorem Sf {pre : List (Int × Bool)} {x : Exec} (h : x ∈ Ex p pre) : x.frm = Sc pre ∧ x.dn = dnV pre := by
 unfold Ex at h
 split at h
 ·cases h
 ·obtain ⟨rs, _, _, h⟩ := (Fw (Hx p) 3 0 _ x rfl).1 h
  obtain ⟨_, fen, _, _, hx, _⟩ := Gu.1 h
  rw [hx]; exact ⟨rfl, rfl⟩
theorem Vn {pre : List (Int × Bool)} : (Ex p pre).Nodup := by
 unfold Ex
 split
 ·exact lCf
 ·exact No 3 0 _ rfl
theorem Xp {i : Nat} (hw : 3 ≤ (evAt p i).op.kind → Bx (evAt p i).op = true → Ay (evAt p i).op = true) : (Ig p i).Nodup := by
 unfold Ig
 split
 ·exact lCu.2 ⟨lB5, lCf⟩
 ·rename_i hr
  have hr : Bx (evAt p i).op = true := by simpa using hr
  refine Cs List.nodup_range (fun f _ => ?_) (fun f _ g _ hne z hz gt => ?_)
  ·unfold We
   split
   ·exact lCf
   ·split
    ·exact lCu.2 ⟨lB5, lCf⟩
    ·rename_i hk
     refine lCu.2 ⟨?_, lCu.2 ⟨lB5, lCf⟩⟩
     rw [lAi, hw (by omega) hr]
     simp
  ·have h1 := (Lp.1 hz).1
   have h2 := (Lp.1 gt).1
   omega
theorem Np (hw : ∀ i, 3 ≤ (evAt p i).op.kind → Bx (evAt p i).op = true → Ay (evAt p i).op = true) : ∀ (n : Nat) (pre : List (Int × Bool)), (Co p n pre).Nodup
 | 0, pre => Vn
 | n + 1, pre => by
  rw [Co]
  refine Cs (Xp (hw _)) (fun o _ => Np hw n _) (fun o _ q _ hne z hz gt => ?_)
  obtain ⟨r, hr, _, h1⟩ := Hw.1 hz
  obtain ⟨t, ht, _, h2⟩ := Hw.1 gt
  obtain ⟨a1, a2⟩ := Sf h1
  obtain ⟨b1, b2⟩ := Sf h2
  rw [a1] at b1
  rw [a2] at b2
  have e1 := congrArg (fun l => l[pre.length]?) b1
  have e2 := congrArg (fun l => l[pre.length]?) b2
  refine hne (Prod.ext ?_ ?_)
  ·simpa [Sc] using e1
  ·simpa [dnV] using e2
theorem Ak8 {o : OpV} (h3 : 3 ≤ o.kind) (hr : Bx o = true) : Ay o = true := by
 refine Cd.2 ?_
 simp only [Bx, lAr, lA6, decide_eq_true_eq] at hr
 omega
theorem P5 (hk : ∀ i, i < p.length → 0 ≤ (evAt p i).op.kind ∧ (evAt p i).op.kind ≤ 5) (hp : POk p) (hm : L5 p) (hl : p.length ≤ 16) : (Xo p).Perm (Cf p) :=
 (List.perm_ext_iff_of_nodup (Np (fun _ h3 hr => Ak8 h3 hr) _ _) (Vi p)).2 fun x => by
  exact (Aq1 hk hp hm hl).trans (R9 hp hm)
def Im (p : List Ev) (l : List Exec) (had : List (List Int)) : List (List Int) := l.foldl (fun a e => L9 (Ar p e) a) had
theorem Tt : ∀ (l : List Exec) {had : List (List Int)}, had.Pairwise (fun x y => C7 x y < 0) → (Im p l had).Pairwise (fun x y => C7 x y < 0)
 | [], _, h => h
 | e :: l, had, h => Tt l (had := L9 (Ar p e) had) (Te h)
theorem Tu {x : List Int} : ∀ (l : List Exec) {had : List (List Int)}, x ∈ Im p l had ↔ x ∈ had ∨ x ∈ l.map (Ar p)
 | [], _ => by simp [Im]
 | e :: l, had => by
  show x ∈ Im p l (L9 (Ar p e) had) ↔ _
  rw [Tu l, Ob, lDv, lBp]
  constructor
  ·rintro ((h | h) | h)
   ·exact .inr (.inl h)
   ·exact .inl h
   ·exact .inr (.inr h)
  ·rintro (h | h | h)
   ·exact .inl (.inr h)
   ·exact .inl (.inl h)
   ·exact .inr h
theorem Aq2 {l m : List Exec} {had : List (List Int)} : Im p (l ++ m) had = Im p m (Im p l had) := lEj
theorem Ak9 (hk : ∀ i, i < p.length → 0 ≤ (evAt p i).op.kind ∧ (evAt p i).op.kind ≤ 5) (hp : POk p) (hm : L5 p) (hl : p.length ≤ 16) : Ad1 p (Im p (Xo p) []) :=
 ⟨Tt _ List.Pairwise.nil, fun x => by
  rw [Tu, lAk, lAk]
  constructor
  ·rintro (h | ⟨e, he, hx⟩)
   ·cases h
   ·exact ⟨e, (P5 hk hp hm hl).mem_iff.1 he, hx⟩
  ·rintro ⟨e, he, hx⟩
   exact .inr ⟨e, (P5 hk hp hm hl).mem_iff.2 he, hx⟩⟩
end
theorem Al0 {x : List Int} : ∀ {ls : List (List Int)} {lo : Nat}, (∀ i, (h : i < ls.length) → i < lo → C7 ls[i] x < 0) → (∀ i, (h : i < ls.length) → lo ≤ i → ¬ C7 ls[i] x < 0) → lo ≤ ls.length →
  L9 x ls = if ls[lo]? = some x then ls else ls.take lo ++ x :: ls.drop lo
 | [], lo, _, _, h => by
  have : lo = 0 := by simpa using h
  subst this; rfl
 | y :: l, 0, h1, h2, _ => by
  have h3 : ¬ C7 y x < 0 := h2 0 (by simp) (lA5 _)
  rw [L9]
  simp only [lE9, Option.some.injEq, lCr, lBr, lAj]
  by_cases he : y = x
  ·subst he
   rw [if_neg h3, if_pos rfl, if_pos rfl]
  ·rw [if_neg he]
   rcases Et x y with k | k | k
   ·rw [if_pos k]
   ·exact absurd k.symm he
   ·exact absurd k h3
 | y :: l, lo + 1, h1, h2, hl => by
  have h3 : C7 y x < 0 := h1 0 (by simp) (by omega)
  have ih := Al0 (x := x) (ls := l) (lo := lo) (fun i hi aU => h1 (i + 1) (by simpa using hi) (by omega)) (fun i hi aY => h2 (i + 1) (by simpa using hi) (by omega)) (by simpa using hl)
  have hne : ¬ x = y := fun e => by subst e; rw [Ck] at h3; omega
  have ct : ¬ C7 x y < 0 := fun h => by have := Cr _ _ _ h h3; rw [Ck] at this; omega
  rw [L9, if_neg ct, if_neg hne, ih]
  simp only [lEu, lEs, lEa, lAp]
  split <;> rfl
structure RowsOk (M : Aa) (vs : List Value) (ls : List (List Int)) : Prop where
 len : vs.length = ls.length
 at_ : ∀ k, (h : k < vs.length) → (h' : k < ls.length) → Sl M 1 ei vs[k] ls[k]
theorem RowsOk.mono {M M' : Aa} {vs : List Value} {ls : List (List Int)} (h : RowsOk M vs ls) (k : M.le M') : RowsOk M' vs ls := ⟨h.len, fun i a b => (h.at_ i a b).mono k⟩
theorem RowsOk.put {M : Aa} {vs : List Value} {ls : List (List Int)} (h : RowsOk M vs ls) {v : Value} {x : List Int} (hv : Sl M 1 ei v x) {lo : Nat} (hlo : lo ≤ ls.length) : RowsOk M (vs.take lo ++ v :: vs.drop lo) (ls.take lo ++ x :: ls.drop lo) := by
 have hl := h.len
 refine ⟨by simp only [lA4, lC4, lB3, lDt]; omega, fun k a b => ?_⟩
 by_cases h1 : k < lo
 ·rw [lCq (by simp; omega), lCq (by simp; omega), lEk, lEk]
  exact h.at_ k (by omega) (by omega)
 ·rw [lCn (by simp; omega), lCn (by simp; omega)]
  have e1 : (vs.take lo).length = lo := by simp; omega
  have e2 : (ls.take lo).length = lo := by simp; omega
  simp only [e1, e2]
  by_cases h2 : k = lo
  ·subst h2
   simpa using hv
  ·obtain ⟨j, rfl⟩ : ∃ j, k = lo + j + 1 := ⟨k - lo - 1, by omega⟩
   have e3 : lo + j + 1 - lo = j + 1 := by omega
   simp only [e3, lAs, List.getElem_drop]
   simp only [lA4, lC4, lB3, lDt] at a b
   exact h.at_ (lo + j) (by omega) (by omega)
section
variable {M : Aa}
theorem Jo (T : TypeId) (b c : Nat) (sp xs : List Value) : osg T (some (b, c, sp)) xs = [(b, Cl T (xs ++ sp))] := rfl
theorem P6 (w0 : World) (F : List Nat) (Φ : Value → Aa → Own → Prop) {ls : List (List Int)} {x : List Int} {vs : List Value} {w : Value} {lo : Nat} (hv : RowsOk M vs ls) (hw : Sl M 1 ei w x) (hl : ls.length < 1000000) (hx : x.length < 1000000) (hlo : lo ≤ ls.length)
  {b cap : Nat} {sp : List Value} (ho : Ey 1 (some (b, cap, sp)) (ls.length + 1) (vs ++ [.slice none 0 0]))
  (hΦ : ∀ M' vs', M.le M' → Ey 1 (some (b, cap, sp)) (ls.length + 1) vs' → RowsOk M' vs' (ls.take lo ++ x :: ls.drop lo) → Φ (osv (some (b, cap, sp)) (ls.length + 1)) M' (osg 34 (some (b, cap, sp)) vs')) :
  EV (Cx.fn Tryz.prog 174 65 w0 F M Φ) [0, 1, 4, 5, 6, 7, 8] [RItem.code (((RCode.reg At9).seq (RCode.block 2 Ag7.loop)).seq ((RCode.reg Au0).seq ((RCode.reg Au1).seq RCode.ret)))]
   [(0, osv (some (b, cap, sp)) (ls.length + 1)), (1, w), (5, vi lo)] M (osg 34 (some (b, cap, sp)) (vs ++ [.slice none 0 0])) := by
 have eU := hv.len
 have lT : ∀ i, i ≤ vs.length → ∀ g, (vs.take i ++ g :: vs.drop i).length = ls.length + 1 := fun i hi g => by simp; omega
 simp only [Jo, Gh, E3]
 repeat' first | refine st ?_ | refine rg ?_ | exact ⟨⟩ | fail
 refine JC (fun z : Nat × Value => ([(0, osv (some (b, cap, sp)) (ls.length + 1)), (1, w), (5, vi lo), (8, vi z.1)], M, [(b, Cl 34 (vs.take z.1 ++ z.2 :: vs.drop z.1 ++ sp))])) (fun z => lo ≤ z.1 ∧ z.1 ≤ ls.length) (fun z => z.1 - lo) (ls.length, .slice none 0 0) rfl ⟨hlo, lA5 _⟩ ?env1 (by have e : vs.take ls.length ++ (.slice none 0 0 : Value) :: vs.drop ls.length = vs ++ [.slice none 0 0] := (by rw [← eU, lB2, List.drop_length]); dsimp only; rw [e, lAc]; exact lA0 _) ?_
 case env1 =>
  exact eE
 rintro ⟨i, g⟩ ⟨h1, h2⟩ ih
 dsimp only at h1 h2 ih ⊢
 have aG := lT i (by omega) g
 have eg : (vs.take i ++ g :: vs.drop i ++ sp).length = ls.length + 1 + sp.length := by rw [lA4, aG]
 by_cases wJ : lo < i
 ·have k1 : ((lo : Int) < (i : Int)) = True := eq_true (by omega)
  obtain ⟨j, rfl⟩ : ∃ j, i = j + 1 := ⟨i - 1, by omega⟩
  have qw : j < vs.length := by omega
  obtain ⟨sa, sc, fL, lj⟩ := hv.at_ j qw (by omega)
  have aV : IntKind.i64.wrap ((j : Int) + 1 - 1) = (j : Int) := by rw [w64 (by omega) (by omega)]; omega
  have k2 : ((lo : Int) < (j : Int) + 1) = True := eq_true (by omega)
  have aT : rd (M.add [(b, Cl 34 (vs.take (j + 1) ++ g :: (vs.drop (j + 1) ++ sp)))]) b j 1 [vs[j]] := by
   refine Bm (T := 34) (lCl _) ?_ ?_
   ·rw [lCw (by simp; omega), lBh (by simp; omega), lEk]; rfl
   ·rw [lAc, lAp] at eg
    omega
  rw [fL] at aT
  repeat' first | refine st ?_ | (refine EV.reg ?_; (conv => (arg 2; whnf)); (repeat first | refine nx ?_ | simp only [k1, k2, aV])) | (refine cX ?_ ?_ <;> intro h <;> try exact Ah h) | refine ZF ?_ | (refine lAb _ (lAb _ (lAb _ (lAd (by assumption) ?_))); (repeat first | refine nx ?_ | simp only [k1, k2, aV])) | (refine xw ?_; (repeat first | refine nx ?_ | simp only [k1, k2, aV])) | fail
  have e1 : ((j : Int) + 1).toNat = j + 1 := by omega
  have e2 : List.take (j + 1) (List.take (j + 1) vs ++ g :: (List.drop (j + 1) vs ++ sp)) ++ (.slice sa ls[j].length sc : Value) :: List.drop (j + 1 + 1) (List.take (j + 1) vs ++ g :: (List.drop (j + 1) vs ++ sp)) = List.take j vs ++ vs[j] :: (List.drop j vs ++ sp) := by
   have h3 : (List.take (j + 1) vs).length = j + 1 := by simp; omega
   rw [List.take_left' h3, lFb, lF3 (by omega : (List.take (j + 1) vs).length ≤ j + 1 + 1), h3, show j + 1 + 1 - (j + 1) = 1 by omega, lEa, lBr, lAj, ← fL]
   rw [lA7 qw, lBh qw]
   simp only [lAc, lAp, lAj]
  simp only [e1, e2]
  refine ⟨by rw [lAc, lAp] at eg; omega, ?_⟩
  repeat' first | refine su ?_ | (refine EV.reg ?_; (conv => (arg 2; whnf)); (repeat first | refine nx ?_ | simp only [aV])) | fail
  refine JA (ih (j, vs[j]) ⟨by dsimp only; omega, by dsimp only; omega⟩ (by dsimp only; omega)) ?_ (by dsimp only; rw [lAc, lAp]; exact lA0 _)
  exact eE
 ·have k1 : ((lo : Int) < (i : Int)) = False := eq_false (by omega)
  have bO : i = lo := by omega
  subst bO
  repeat' first | refine st ?_ | (refine EV.reg ?_; (conv => (arg 2; whnf)); (repeat first | refine nx ?_ | simp only [k1])) | (refine cX ?_ ?_ <;> intro h <;> try exact Ah h) | fail
  refine Con.callR (G1 := []) (I6 x w hw hx) (JB _ _) ?_
  rintro v5 M5 G5 M2 bS qx ⟨rfl, cb, cc, csp, rfl, lU, rfl⟩
  repeat' first | refine ZF ?_ | (refine xw ?_; refine nx ?_) | exact ⟨⟩ | fail
  have e2 : List.take i (List.take i vs ++ g :: (List.drop i vs ++ sp)) ++ Av cb x.length cc :: List.drop (i + 1) (List.take i vs ++ g :: (List.drop i vs ++ sp)) = List.take i vs ++ Av cb x.length cc :: (List.drop i vs ++ sp) := by
   have h3 : (List.take i vs).length = i := by simp; omega
   rw [List.take_left' h3, lFb, lF3 (by omega : (List.take i vs).length ≤ i + 1), h3, show i + 1 - i = 1 by omega, lEa, lBr, lAj]
  rw [e2]
  refine ⟨by rw [lAc, lAp] at eg; omega, ?_⟩
  repeat' first | refine st ?_ | refine rg ?_ | exact ⟨⟩ | fail
  (refine rt Q62_ok ?_; try with_reducible exact ⟨⟩)
  have ak : Sl M2 1 ei (Av cb x.length cc) x := by
   rw [qx]
   exact ⟨_, _, rfl, by rw [A0]; exact E5 (T := 3) lU (fun p hp => hp)⟩
  have hr := (hv.mono bS).put ak hlo
  have h5 := hΦ M2 (List.take i vs ++ Av cb x.length cc :: List.drop i vs) bS ⟨by rw [hr.len]; simp; omega, by have := ho.2.1; rw [lA4] at this ⊢; rw [hr.len]; simp at this ⊢; omega, ho.2.2.1, ho.2.2.2⟩ hr
  rw [Jo, lAc, lAp] at h5
  exact h5
theorem Aq3 (ls : List (List Int)) (x : List Int) (o : Vec) (vs : List Value) (w : Value) (ho : Ey 1 o ls.length vs) (hv : RowsOk M vs ls) (hw : Sl M 1 ei w x) (hs : ls.Pairwise fun x y => C7 x y < 0) (hl : ls.length < 1000000) (hx : x.length < 1000000) (bL : ∀ y ∈ ls, y.length < 1000000) :
  Con Tryz.prog 174 #[osv o ls.length, w] M (osg 34 o vs) fun u M' G' => M.le M' ∧ ∃ o' vs', Ey 1 o' (L9 x ls).length vs' ∧ RowsOk M' vs' (L9 x ls) ∧ u = osv o' (L9 x ls).length ∧ G' = osg 34 o' vs' := by
 have hp := lBc.1 hs
 refine Con.enter Q62_ok (args := [osv o ls.length, w]) (by simp [Q62]) fun w0 => ?_
 simp only [Q62, A9]
 repeat' first | refine st ?_ | refine rg ?_ | exact ⟨⟩ | fail
 refine JC (fun z : Nat × Nat => ([(0, osv o ls.length), (1, w), (5, vi z.1), (6, vi z.2)], M, osg 34 o vs)) (fun z => z.1 ≤ z.2 ∧ z.2 ≤ ls.length ∧ (∀ i (h : i < ls.length), i < z.1 → C7 ls[i] x < 0) ∧ ∀ i (h : i < ls.length), z.2 ≤ i → ¬ C7 ls[i] x < 0) (fun z => z.2 - z.1) (0, ls.length) rfl ⟨lA8 _, lA5 _, fun i h h' => absurd h' (by simp), fun i h h' => absurd h (by dsimp only at h'; omega)⟩ ?env1 (lA0 _) ?_
 case env1 =>
  exact eE
 rintro ⟨lo, hi⟩ ⟨h1, h2, h3, h4⟩ ih
 dsimp only at h1 h2 h3 h4 ih ⊢
 by_cases aU : lo < hi
 ·rcases o with _ | ⟨ob, oc, osp⟩
  ·have := ho.1; omega
  have k1 : ((lo : Int) < (hi : Int)) = True := eq_true (by omega)
  have aV : IntKind.i64.wrap ((lo : Int) + (hi : Int)) = (lo : Int) + (hi : Int) := w64 (by omega) (by omega)
  have hq : IntKind.i64.wrap (((lo : Int) + (hi : Int)).tdiv 2) = (((lo + hi) / 2 : Nat) : Int) := by
   rw [Int.tdiv_eq_ediv_of_nonneg (by omega), w64 (by omega) (by omega)]; omega
  have hm : (lo + hi) / 2 < ls.length := by omega
  have lV : (lo + hi) / 2 < vs.length := by rw [hv.len]; exact hm
  have hat := hv.at_ _ lV hm
  obtain ⟨sa, sc, fL, lj⟩ := hv.at_ _ lV hm
  have gD := fun G => U4 (M := M.add G) ls[(lo + hi) / 2] x _ w (hat.mono (JB _ _)) (hw.mono (JB _ _)) (by have := bL _ (lAm hm); omega) (by omega)
  have aT : rd (M.add (osg 34 (some (ob, oc, osp)) vs)) ob ((lo + hi) / 2) 1 [vs[(lo + hi) / 2]] := by
   refine Bm (T := 34) (by rw [Jo]; exact lCl _) ?_ ?_
   ·rw [lCw (by omega), lBh lV]; rfl
   ·simp; omega
  rw [fL] at aT gD
  simp only [Jo, Gh, E3] at aT ih ⊢
  generalize qh : (lo + hi) / 2 = mid at *
  repeat' first | refine st ?_ | (refine EV.reg ?_; (conv => (arg 2; whnf)); (repeat first | refine nx ?_ | simp only [k1, aV, hq, show ¬ (2 : Int) = 0 by decide])) | (refine Aq.call (gD _) ?_; (repeat first | refine nx ?_ | simp only [k1, aV, hq, show ¬ (2 : Int) = 0 by decide])) | (refine cX ?_ ?_ <;> intro h <;> try exact Ah h) | refine ZF ?_ | (refine lAb _ (lAb _ (lAb _ (lAd (by assumption) ?_))); (repeat first | refine nx ?_ | simp only [k1, aV, hq, show ¬ (2 : Int) = 0 by decide])) | fail
  all_goals have qi : lo ≤ mid ∧ mid < hi := by omega
  ·refine JA (ih (mid + 1, hi) ⟨by dsimp only; omega, h2, fun i aC aU => ?_, h4⟩ (by dsimp only; omega)) ?_ (lA0 _)
   ·dsimp only at aU
    have hmx : C7 ls[mid] x < 0 := by simpa using h
    by_cases he : i = mid
    ·subst he; exact hmx
    ·exact Cr _ _ _ (hp i mid aC hm (by omega)) hmx
   ·exact eE
  ·refine JA (ih (lo, mid) ⟨by dsimp only; omega, by dsimp only; omega, h3, fun i aC cp => ?_⟩ (by dsimp only; omega)) ?_ (lA0 _)
   ·dsimp only at cp
    have hmx : ¬ C7 ls[mid] x < 0 := by simpa using h
    by_cases he : i = mid
    ·subst he; exact hmx
    ·exact fun aU => hmx (Cr _ _ _ (hp mid i hm aC (by omega)) aU)
   ·exact eE
 ·have k1 : ((lo : Int) < (hi : Int)) = False := eq_false (by omega)
  have aY : lo = hi := by omega
  subst aY
  have hin := Al0 h3 h4 h2
  by_cases hlo : lo < ls.length
  ·rcases o with _ | ⟨ob, oc, osp⟩
   ·have := ho.1; omega
   have k2 : ((lo : Int) < (ls.length : Int)) = True := eq_true (by omega)
   have lV : lo < vs.length := by rw [hv.len]; exact hlo
   have hat := hv.at_ _ lV hlo
   obtain ⟨sa, sc, fL, lj⟩ := hv.at_ _ lV hlo
   have dD := fun G => Lf (M := M.add G) ls[lo] x _ w (hat.mono (JB _ _)) (hw.mono (JB _ _)) (by have := bL _ (lAm hlo); omega) (by omega)
   have aT : rd (M.add (osg 34 (some (ob, oc, osp)) vs)) ob lo 1 [vs[lo]] := by
    refine Bm (T := 34) (by rw [Jo]; exact lCl _) ?_ ?_
    ·rw [lCw (by omega), lBh lV]; rfl
    ·simp; omega
   rw [fL] at aT dD
   simp only [Jo, Gh, E3] at aT ⊢
   have cN : ls[lo]? = some ls[lo] := lA2 hlo
   repeat' first | refine st ?_ | (refine EV.reg ?_; (conv => (arg 2; whnf)); (repeat first | refine nx ?_ | simp only [k1, k2, decide_true])) | (refine Aq.call (dD _) ?_; (repeat first | refine nx ?_ | simp only [k1, k2, decide_true])) | with_reducible assumption | (refine JD ?_ (fun hc K' hK => ?_) ?_; rotate_left) | (refine cX ?_ ?_ <;> intro h <;> try exact Ah h) | (with_reducible intro b; (repeat first | refine nx ?_ | simp only [k1, k2, decide_true])) | refine ZF ?_ | (refine lAb _ (lAb _ (lAb _ (lAd (by assumption) ?_))); (repeat first | refine nx ?_ | simp only [k1, k2, decide_true])) | fail
   ·have hmx : ls[lo] = x := by simpa using h
    rw [cN, hmx, if_pos rfl] at hin
    repeat' first | fail
    (refine rt Q62_ok ?_; try with_reducible exact ⟨⟩)
    rw [hin]
    exact ⟨Aa.le_refl _, some (ob, oc, osp), vs, ho, hv, rfl, rfl⟩
   ·have hmx : ¬ ls[lo] = x := by simpa using h
    rw [cN, if_neg fun e => hmx (Option.some.inj e)] at hin
    have cZ : (L9 x ls).length = ls.length + 1 := by rw [hin]; simp; omega
    refine ⟨_, Or.inr ⟨_, 0, rfl, An 0 rfl rfl (by simp)⟩, by simp [Bq, Ch, Value.oneCell'], Or.inl ⟨_, _, rfl, _, ho, _, B8 [[_], osg 34 (some (ob, oc, osp)) vs] 1 (by simp), ?_, ?_, ?_⟩⟩
    ·simp only [maxLen]; omega
    ·omega
    intro o' bH _
    simp only [lBb, lBg, lAs, lAt, Db, Da, C9, lAj, lAp, lAc, lAa]
    rcases o' with _ | ⟨b', cap', sp'⟩
    ·have := bH.1; omega
    refine JA (P6 w0 _ _ hv hw hl hx h2 bH fun M' vs' bB ai hr => ⟨bB, some (b', cap', sp'), vs', by rw [cZ]; exact ai, by rw [hin]; exact hr, by rw [cZ], rfl⟩) ?_ eS
    exact eE
  ·have k2 : ((lo : Int) < (ls.length : Int)) = False := eq_false (by omega)
   have cN : ls[lo]? = none := lD1 (by omega)
   rw [cN, if_neg (by simp)] at hin
   have cZ : (L9 x ls).length = ls.length + 1 := by rw [hin]; simp; omega
   repeat' first | refine st ?_ | (refine EV.reg ?_; (conv => (arg 2; whnf)); (repeat first | refine nx ?_ | simp only [k1, k2, decide_false])) | (refine JD ?_ (fun hc K' hK => ?_) ?_; rotate_left) | (refine cX ?_ ?_ <;> intro h <;> try exact Ah h) | (with_reducible intro b; (repeat first | refine nx ?_ | simp only [k1, k2, decide_false])) | (exfalso; simp at hc; done) | exact false | fail
   refine ⟨_, Or.inr ⟨_, 0, rfl, An 0 rfl rfl (by simp)⟩, by simp [Bq, Ch, Value.oneCell'], Or.inl ⟨_, _, rfl, _, ho, _, B8 [[_], osg 34 o vs] 1 (by simp), ?_, ?_, ?_⟩⟩
   ·simp only [maxLen]; omega
   ·omega
   intro o' bH _
   simp only [lBb, lBg, lAs, lAt, Db, Da, C9, lAj, lAp, lAc, lAa]
   rcases o' with _ | ⟨b', cap', sp'⟩
   ·have := bH.1; omega
   refine JA (P6 w0 _ _ hv hw hl hx h2 bH fun M' vs' bB ai hr => ⟨bB, some (b', cap', sp'), vs', by rw [cZ]; exact ai, by rw [hin]; exact hr, by rw [cZ], rfl⟩) ?_ eS
   exact eE
end
section
variable {M : Aa}
theorem Vo (ls : List (List Int)) (v : Value) (hv : Dj M 1 ei v ls) (hl : ls.length < 1000000) (bL : ∀ y ∈ ls, y.length < 1000000) :
  Con Tryz.prog 185 #[v] M [] fun u M' _ => Dj M' 1 ei u ls := by
 obtain ⟨oa, oc, ovs, rfl, ar, bQ, bi⟩ := hv
 refine Con.enter Q58_ok (args := [.slice oa ls.length oc]) (by simp [Q58]) fun w0 => ?_
 simp only [Q58, A9]
 repeat' first | refine st ?_ | refine rg ?_ | exact ⟨⟩ | fail
 refine JC (fun x : Nat × Aa × Vec × List Value => ([(0, .slice oa ls.length oc), (3, osv x.2.2.1 x.1), (4, vi x.1)], x.2.1, osg 34 x.2.2.1 x.2.2.2))
  (fun x => x.1 ≤ ls.length ∧ M.le x.2.1 ∧ Ey 1 x.2.2.1 x.1 x.2.2.2 ∧ x.2.2.2.length = x.1 ∧ ∀ j (h : j < x.2.2.2.length) (h' : j < ls.length), SlC x.2.1 1 ei x.2.2.2[j] ls[j]) (fun x => ls.length - x.1) (0, M, none, []) rfl ⟨lA8 _, Aa.le_refl _, ⟨rfl, rfl⟩, rfl, fun j h => absurd h (by simp)⟩ ?env1 (lA0 _) ?_
 case env1 =>
  exact eE
 rintro ⟨k, Mk, ov, vs⟩ ⟨hk, io, aQ, eU, c6⟩ ih
 dsimp only at hk io aQ eU c6 ih ⊢
 repeat' first | refine st ?_ | refine rg ?_ | (refine cX ?_ ?_ <;> intro h <;> try exact Ah h) | exact ⟨⟩ | fail
 ·have af : k < ls.length := by omega
  obtain ⟨ob, oo, rfl, bC⟩ := Dj.at bQ ar bi (by omega)
  obtain ⟨la, lc, aT, cW, aX⟩ := bC k af
  have aT := aT.mono io
  have aX := aX.mono io
  rw [lAu] at aT
  have oh := bL _ (lAm af)
  repeat' first | refine ZF ?_ | (refine xn ?_; try refine nx ?_) | exact ⟨⟩ | fail
  refine JK (I6 ls[k] _ ⟨la, lc, rfl, aX.mono (JB _ _)⟩ oh) ?_
  rintro v1 M1 G1 ⟨rfl, cb, cc, csp, rfl, lU, rfl⟩
  intro bb
  simp only [lB3, lC1, lEa, lBr, lAa]
  refine ⟨_, Or.inr ⟨_, 0, rfl, An 0 rfl rfl (by simp)⟩, by simp [Bq, Ch, Value.oneCell'], Or.inl ⟨_, _, rfl, _, aQ, _, B8 [[_], osg 34 ov vs, [_]] 1 (by simp), ?_, ?_, ?_⟩⟩
  ·simp only [maxLen]; omega
  ·omega
  intro o2 au _
  simp only [lBb, lBg, lAs, lAt, Db, Da, C9, lAj, lAp, lAc, lAa]
  repeat' first | refine su ?_ | refine rg ?_ | exact ⟨⟩ | fail
  refine JG (osg 34 o2 (vs ++ [Av cb ls[k].length cc])) ?_
  generalize hR : Mk.add _ = N
  have aA : Mk.le N := hR ▸ JB _ _
  have c7 : SlC N 1 ei (Av cb ls[k].length cc) ls[k] := hR ▸ Hc (T := 3) lU rfl (fun q hq => by simp [osg] at hq; simp [hq])
  clear hR
  have ih3 := ih (k + 1, N, o2, vs ++ [Av cb ls[k].length cc]) ⟨by dsimp only; omega, Aa.le_trans io aA, au, by simp [eU], fun j hj ib => ?_⟩ (by dsimp only; omega)
  ·dsimp only at ih3
   refine JE ih3 ?_
   exact eE
  ·dsimp only at hj ⊢
   by_cases mt : j < vs.length
   ·rw [lCq mt]; exact (c6 j mt ib).mono aA
   ·have : j = k := by simp at hj; omega
    subst this
    rw [lCn (by omega)]
    simp only [eU, lF9, lAt]; exact c7
 ·have eH : k = ls.length := by omega
  subst eH
  repeat' first | fail
  refine JG [] ?_
  generalize hR : Mk.add _ = N
  have aA : Mk.le N := hR ▸ JB _ _
  have iF : rdS N 1 (oad ov) ls.length vs := hR ▸ E5 (T := 34) aQ (fun q hq => by simp [hq])
  clear hR
  (refine rt Q58_ok ?_; try with_reducible exact ⟨⟩)
  exact ⟨_, _, vs, rfl, eU, iF, fun j a b => (c6 j a b).mono aA⟩
theorem Vp (e : Exec) (v : Value) (hv : IsX M v e) (h1 : e.frm.length < 1000) (h2 : e.dn.length < 1000) (h3 : e.ord.length < 1000) (h4 : e.fen.length < 1000) (h5 : ∀ l ∈ e.ord, l.length < 1000) :
  Con Tryz.prog 175 #[v] M [] fun v M' _ => IsX M' v e := by
 obtain ⟨f, d, o, n, rfl, hf, hd, ho, hn⟩ := hv
 have dh := hf
 have oY := hd
 have gH := hn
 have uk := ho
 obtain ⟨fa, fc, rfl, bc⟩ := hf
 obtain ⟨da, dc, rfl, aH⟩ := hd
 obtain ⟨na, nc, rfl, kf⟩ := hn
 obtain ⟨oa, oc, ovs, rfl, ar, bQ, bi⟩ := ho
 refine Con.enter Q88_ok (args := [.agg #[.slice fa e.frm.length fc, .slice da e.dn.length dc, .slice oa e.ord.length oc, .slice na e.fen.length nc]]) (by simp [Q88]) fun w0 => ?_
 simp only [Q88, A9]
 refine EV.seq (EV.reg ?_)
 (repeat first | refine nx ?_ | simp only [Dh0])
 intro xb rb
 refine EV.seq (JI (fun ρ' M' G' => ∃ u, M.le M' ∧ IsX M' u e ∧ get ρ' 2 = some (pv rb 0) ∧ G' = [(rb, Cl 37 u.cells.toList)]) ?_ ?_)
 ·intro k' key
  have mr := fun G => I6 (M := M.add G) e.frm _ (dh.mono (JB _ _)) (by omega)
  have pK := Vo e.ord _ uk (by omega) (fun y hy => by have := h5 y hy; omega)
  have ji := fun (N : Aa) (hN : M.le N) G => I6 (M := N.add G) e.fen _ (gH.mono (Aa.le_trans hN (JB _ _))) (by omega)
  rw [Er] at aH
  refine EV.any (t := Dh1) [(xb, Cl 37 [.slice fa e.frm.length fc, .slice da e.dn.length dc, .slice oa e.ord.length oc, .slice na e.fen.length nc])] (by simp) ?_
  simp only [Aj, As, Ak, Au, reduceIte, Nat.reduceEqDiff]
  repeat' first | ((first | refine zo (fun lq aD => ?_) | refine zl ?_ | fail); try refine nz ?_) | refine zq (fun lq tq aD aB => ?_) | ((with_reducible refine JK (mr _) ?_) ;  rintro v1 M1 G1 ⟨rfl, b1, c1, s1, rfl, k1, rfl⟩; try refine nz ?_) | (refine ZA (fun tq aB => ?_) (fun tq aB => ?_) <;> try refine nz ?_) | exact zn | ((first | with_reducible intro b | refine xsA rfl ?_ | refine lAd (Aa.le_refl _) (lAd (Ax ?_) ?_); focus ((repeat' first | exact lA0 _ | exact lAe _ | exact lAh _ _ | refine lAg _ ?_ | refine lAo ?_ _ | refine lA9 ?_ | refine lAq _ ?_); done) | fail); try refine nz ?_) | exact ⟨⟩ | fail
  all_goals refine ⟨_, Ww aH, Au3 _, Or.inl ⟨some (b, 0, []), 0, rfl, [], ⟨rfl, rfl, lA5 _, by simp [maxLen]⟩, _, lAf _, by simp only [maxLen]; omega, by omega, fun o2 au _ => ?_⟩⟩
  all_goals simp only [lBi, lAj, lAp] at au ⊢
  all_goals
   repeat' first | (refine zl ?_; try refine nz ?_) | refine zq (fun lq tq aD aB => ?_) | ((with_reducible refine Con.callS (G1 := []) pK ?_) ;  rintro v3 M3 G3 dB h3; try refine nz ?_) | (refine ZA (fun tq aB => ?_) (fun tq aB => ?_) <;> try refine nz ?_) | exact zn | refine ZF ?_ | (refine lAd (Aa.le_refl _) (lAd (Ax ?_) ?_); focus ((repeat' first | exact lA0 _ | exact lAe _ | exact lAh _ _ | refine lAg _ ?_ | refine lAo ?_ _ | refine lA9 ?_ | refine lAq _ ?_); done); try refine nz ?_) | exact ⟨⟩ | fail
  all_goals
   refine ⟨fun q hq => by (rw [lAi] at hq; rw [hq]; simp), ?_⟩
   obtain ⟨oa3, oc3, ovs3, rfl, q3a, q3b, q3c⟩ := h3
   repeat' first | ((first | refine zo (fun lq aD => ?_) | refine zl ?_ | fail); try refine nz ?_) | refine zq (fun lq tq aD aB => ?_) | ((with_reducible refine JK (ji _ dB _) ?_) ;  rintro v4 M4 G4 ⟨rfl, b4, c4, s4, rfl, k4, rfl⟩; try refine nz ?_) | (refine ZB (fun tq aB => ?_) (fun tq aB => ?_) <;> try refine nz ?_) | exact zn | refine zf ?_ | (refine xw ?_; try refine nz ?_) | exact ⟨⟩ | fail
  all_goals
   refine JG [(rb, Cl 37 [Av b1 e.frm.length c1, osv o2 e.dn.length, .slice oa3 e.ord.length oc3, Av b4 e.fen.length c4])] ?_
   generalize hR : M3.add _ = N
   have aA : M3.le N := hR ▸ JB _ _
   have r1 : Sl N 1 ei (Av b1 e.frm.length c1) e.frm := hR ▸ I4 (T := 3) k1 (fun q hq => by simp [osg] at hq; simp [hq])
   have r2 : Sl N 1 eb (osv o2 e.dn.length) e.dn := hR ▸ Ai7 (T := 4) au (fun q hq => by simp [hq])
   have r4 : Sl N 1 ei (Av b4 e.fen.length c4) e.fen := hR ▸ I4 (T := 3) k4 (fun q hq => by simp [osg] at hq; simp [hq])
   exact key _ _ _ ⟨_, Aa.le_trans dB aA, ⟨_, _, _, _, rfl, r1, r2, ⟨_, _, ovs3, rfl, q3a, q3b.mono aA, fun j a b => (q3c j a b).mono aA⟩, r4⟩, rfl, rfl⟩
 rintro ρ2 M2 G2 ⟨u, bS, hu, e1, rfl⟩
 obtain ⟨f2, d2, o2, n2, rfl, q⟩ := hu
 refine JA (ρ' := [(2, pv rb 0)]) ?_ (by simp only [lBs]; exact ⟨e1, fun _ h => nomatch h⟩) (lA0 _)
 (refine rt Q88_ok ?_; try with_reducible exact ⟨⟩)
 exact ⟨_, An 0 rfl rfl (by simp), ⟨_, _, _, _, rfl, q⟩⟩
end
section
variable {M : Aa}
theorem Al1 (k o : Int) : Aq Tryz.prog 90 #[vi k, vi o] M (vb (Wc k o && Au2 k o)) := by
 refine Con.enter Q71_ok (args := [vi k, vi o]) (by simp [Q71]) fun w0 => ?_
 simp only [Q71, A9]
 repeat' first | refine st ?_ | refine rg ?_ | with_reducible assumption | (refine JD ?_ (fun hc K' hK => ?_) ?_; rotate_left) | (refine cX ?_ ?_ <;> intro h <;> try exact Ah h) | refine rt Q71_ok ?_ | exact ⟨⟩ | fail
 all_goals (simp only [vb, Value.bool.injEq, Wc, Au2, B3]; rw [lEz]; (repeat' split) <;> simp <;> omega)
theorem Qv (o : OpV) : Aq Tryz.prog 38 #[vop o] M (vb (Bs o)) := by
 refine Con.enter Q69_ok (args := [vop o]) (by simp [Q69]) fun w0 => ?_
 simp only [Q69, A9]
 repeat' first | refine st ?_ | refine rg ?_ | with_reducible assumption | (refine JD ?_ (fun hc K' hK => ?_) ?_; rotate_left) | refine rt Q69_ok ?_ | ((first | with_reducible intro b | refine xiA rfl ?_ | fail); try refine nx ?_) | exact ⟨⟩ | fail
 all_goals (simp only [vb, Value.bool.injEq, Bs]; grind)
theorem Ac1 (o : OpV) : Aq Tryz.prog 37 #[vop o] M (vb (Ny o)) := by
 refine Con.enter Q70_ok (args := [vop o]) (by simp [Q70]) fun w0 => ?_
 simp only [Q70, A9]
 repeat' first | refine st ?_ | refine rg ?_ | (refine Aq.call (Al1 _ _) ?_; try refine nx ?_) | with_reducible assumption | (refine JD ?_ (fun hc K' hK => ?_) ?_; rotate_left) | (refine cX ?_ ?_ <;> intro h <;> try exact Ah h) | refine rt Q70_ok ?_ | ((first | with_reducible intro b | refine xiA rfl ?_ | fail); try refine nx ?_) | exact ⟨⟩ | fail
 all_goals (simp only [vb, Value.bool.injEq, Ny, Z9, Rl]; try simp_all; try omega)
 ·intro h1 h2 h3 h4
  exfalso
  simp only [h1, h2, reduceCtorEq, or_self, false_or] at h
  omega
 ·have hk : 0 ≤ o.kind ∧ o.kind < 6 := by
   have h1 : Wc o.kind o.ord = true := by simp_all
   simp only [Wc, lA6, decide_eq_true_eq] at h1
   exact h1.1
  have : (decide (o.kind = 3) || decide (o.kind = 4)) = true := by
   rw [lAr, decide_eq_true_eq, decide_eq_true_eq]; omega
  rw [this]
  simp [Bool.and_assoc]
theorem Xq (o : OpV) : Aq Tryz.prog 128 #[vop o] M (vi (J1 o.kind o.ord)) := by
 refine Con.enter Q72_ok (args := [vop o]) (by simp [Q72]) fun w0 => ?_
 simp only [Q72, A9]
 repeat' first | refine st ?_ | refine rg ?_ | (refine cX ?_ ?_ <;> intro h <;> try exact Ah h) | refine rt Q72_ok ?_ | ((first | with_reducible intro b | refine xiA rfl ?_ | fail); try refine nx ?_) | exact ⟨⟩ | fail
 all_goals (simp only [J1, vi, Value.int.injEq, true_and]; grind)
end
section
variable {M : Aa}
theorem EV.loop2 {P : Program} {C : Cx P} {V : List Nat} {k : List RItem} {ρ : Env} {M : Aa} {G : Own} {c : RCode} (h : EV C V (.code c :: .inLoop c :: k) ρ M G) : EV C V (.code (.loop c) :: k) ρ M G :=
 EV.loop (fun _ : Unit => (ρ, M, G)) (fun _ => True) (fun _ => 0) () trivial (fun _ _ _ => h)
theorem wr1 : IntKind.i64.wrap (0 + 1) = 1 := rfl
theorem wr2 : IntKind.i64.wrap (1 + 1) = 2 := rfl
theorem wr3 : IntKind.i64.wrap (2 + 1) = 3 := rfl
def Au8 (ts : List (List OpV)) (l : List OpV) : Bool := decide (0 < ts.length) && l.all Ny
theorem Vq (ts : List (List OpV)) : A1 ts = if ts.length > 3 ∨ (Bi ts.flatten).acc > 6 ∨ (Bi ts.flatten).fen > 8 then 2 else if (Bi ts.flatten).w0 > 4 ∨ (Bi ts.flatten).w1 > 4 ∨ (Bi ts.flatten).w2 > 4 then 2 else if Au8 ts ts.flatten = true then 0 else 1 := by
 unfold A1 Gy Au8
 by_cases h1 : ts.length ≤ 3 <;> by_cases h2 : (Bi ts.flatten).acc ≤ 6 <;> by_cases h3 : (Bi ts.flatten).fen ≤ 8 <;> by_cases h4 : (Bi ts.flatten).w0 ≤ 4 <;> by_cases h5 : (Bi ts.flatten).w1 ≤ 4 <;> by_cases h6 : (Bi ts.flatten).w2 ≤ 4 <;> simp [h1, h2, h3, h4, h5, h6, Int.not_le.symm] <;> grind
def Fs (s : LimS) (o : OpV) : LimS :=
 if o.kind = 5 then { s with fen := IntKind.i64.wrap (s.fen + 1) }
 else if Bs o = true then
  {acc := IntKind.i64.wrap (s.acc + 1), fen := if o.ord = 4 then IntKind.i64.wrap (s.fen + 2) else s.fen,
   w0 := if o.kind ≠ 0 ∧ o.loc = 0 then IntKind.i64.wrap (s.w0 + 1) else s.w0, w1 := if o.kind ≠ 0 ∧ o.loc = 1 then IntKind.i64.wrap (s.w1 + 1) else s.w1, w2 := if o.kind ≠ 0 ∧ o.loc = 2 then IntKind.i64.wrap (s.w2 + 1) else s.w2 }
 else s
def Xr (l : List OpV) : LimS := l.foldl Fs ⟨0, 0, 0, 0, 0⟩
theorem Al2 {l : List OpV} (h : l.length < 1000000000000000000) : Xr l = Bi l := by
 have key : ∀ n, n ≤ l.length → Xr (l.take n) = Bi (l.take n) := by
  intro n
  induction n with
  | zero => intro _; rfl
  | succ n ih =>
   intro hn
   have h1 := ih (by omega)
   have h2 := Ui (l.take n)
   have h3 : (l.take n).length ≤ n := by simp; omega
   rw [lA7 (by omega)]
   simp only [Xr, Bi, lEj, lD3, lF6] at h1 h2 ⊢
   rw [h1]
   generalize (l.take n).foldl Ao ⟨0, 0, 0, 0, 0⟩ = s at *
   unfold Fs Ao
   rw [w64 (x := s.fen + 1) (by omega) (by omega), w64 (x := s.acc + 1) (by omega) (by omega), w64 (x := s.fen + 2) (by omega) (by omega), w64 (x := s.w0 + 1) (by omega) (by omega), w64 (x := s.w1 + 1) (by omega) (by omega), w64 (x := s.w2 + 1) (by omega) (by omega)]
 have := key l.length (lA5 _)
 rwa [lB2] at this
set_option maxRecDepth 8000 in
theorem Ih (ts : List (List OpV)) (s : Value) (hs : Dv M 5 Bd s ts) (n8 : Sized ts) : Aq Tryz.prog 13 #[.agg #[s]] M (vi (A1 ts)) := by
 obtain ⟨a, c, vs, rfl, hl, aH, hk⟩ := hs
 have gB := n8.len
 refine Con.enter Q67_ok (args := [.agg #[.slice a ts.length c]]) (by simp [Q67]) fun w0 => ?_
 simp only [Q67, A9]
 repeat' first | refine st ?_ | refine rg ?_ | (with_reducible intro b; try refine nx ?_) | refine ZF ?_ | (refine xsA rfl ?_; try refine nx ?_) | exact ⟨⟩ | fail
 rename_i b1
 refine JF ?_ (List.Perm.swap _ _ _)
 refine EV.freeze (G₁ := [_]) ?_
 generalize hN : M.add [(b1, Cl 24 [.slice a ts.length c])] = N
 have aA : M.le N := hN ▸ JB _ _
 have jo : rd N b1 0 1 [.slice a ts.length c] := hN ▸ An 0 rfl rfl (by simp)
 clear hN
 refine JA (ρ' := [(1, pv b1 0), (3, vi (Xr (ts.take 0).flatten).acc), (4, vi (Xr (ts.take 0).flatten).fen), (5, Av b 3 3), (6, vb (Au8 ts (ts.take 0).flatten)), (7, vi (0 : Nat))])
  (G' := [(b, Cl 3 [vi (Xr (ts.take 0).flatten).w0, vi (Xr (ts.take 0).flatten).w1, vi (Xr (ts.take 0).flatten).w2])]) ?_ ?env0 (lA0 _)
 case env0 =>
  repeat' first | (refine lBs.2 (lAd ?_ ?_)) | (intro _ bn; cases bn; done) | rfl | fail
  simp [get, Au8]
 refine EV.loop (fun i : Nat => ([(1, pv b1 0), (3, vi (Xr (ts.take i).flatten).acc), (4, vi (Xr (ts.take i).flatten).fen), (5, Av b 3 3), (6, vb (Au8 ts (ts.take i).flatten)), (7, vi i)], N,
  [(b, Cl 3 [vi (Xr (ts.take i).flatten).w0, vi (Xr (ts.take i).flatten).w1, vi (Xr (ts.take i).flatten).w2])])) (fun i => i ≤ ts.length) (fun i => ts.length - i) 0 (lA8 _) ?_
 intro i hi ih
 dsimp only at ih ⊢
 repeat' first | refine st ?_ | refine rg ?_ | with_reducible assumption | (refine JD ?_ (fun hc K' hK => ?_) ?_; rotate_left) | (refine cX ?_ ?_ <;> intro h <;> try exact Ah h) | (refine xn ?_; try refine nx ?_) | exact ⟨⟩ | fail
 ·have aC : i < ts.length := by omega
  obtain ⟨pb, po, rfl, hat⟩ := Dv.at (aH.mono aA) hl (fun k h h' => (hk k h h').mono aA) (by omega)
  obtain ⟨a', c', aT, aX⟩ := hat i aC
  simp only [lAu] at aT
  have aG := n8.each _ (lAm aC)
  let W : Nat → LimS := fun j => Xr ((ts.take i).flatten ++ ts[i].take j)
  let U : Nat → Bool := fun j => Au8 ts ((ts.take i).flatten ++ ts[i].take j)
  refine JA (ρ' := [(1, pv b1 0), (3, vi (W 0).acc), (4, vi (W 0).fen), (5, Av b 3 3), (6, vb (U 0)), (7, vi i), (8, vi (0 : Nat))])
   (G' := [(b, Cl 3 [vi (W 0).w0, vi (W 0).w1, vi (W 0).w2])]) ?_ (by simp [get, W, U]) (by simp [W])
  refine EV.loop (fun j : Nat => ([(1, pv b1 0), (3, vi (W j).acc), (4, vi (W j).fen), (5, Av b 3 3), (6, vb (U j)), (7, vi i), (8, vi j)], N,
   [(b, Cl 3 [vi (W j).w0, vi (W j).w1, vi (W j).w2])])) (fun j => j ≤ ts[i].length) (fun j => ts[i].length - j) 0 (lA8 _) ?_
  intro j hj ih2
  dsimp only at ih2 ⊢
  repeat' first | refine st ?_ | refine rg ?_ | (refine cX ?_ ?_ <;> intro h <;> try exact Ah h) | refine ZF ?_ | (refine xn ?_; try refine nx ?_) | exact ⟨⟩ | fail
  ·have aR : j < ts[i].length := by omega
   obtain ⟨qb, qo, rfl, aN⟩ := Sl.at (enc := Bd) (fun _ => rfl) (by omega) aX (by omega)
   have dP := aN j aR
   have hW : W (j + 1) = Fs (W j) ts[i][j] := by
    simp only [W, Xr, lA7 aR, ← lAc, lEj, lD3, lF6]
   have hU : U (j + 1) = (U j && Ny ts[i][j]) := by
    simp only [U, Au8, lA7 aR, ← lAc, lDh, lFo, List.all_nil, lEm, Bool.and_assoc]
   have fin : ∀ ρ G', (∀ p ∈ [(1, pv b1 0), (3, vi (W (j + 1)).acc), (4, vi (W (j + 1)).fen), (5, Av b 3 3), (6, vb (U (j + 1))), (7, vi i), (8, vi (j + 1 : Nat))], get ρ p.1 = some p.2) →
     [(b, Cl 3 [vi (W (j + 1)).w0, vi (W (j + 1)).w1, vi (W (j + 1)).w2])].Sublist G' → _ := fun ρ G' h1 h2 => JA (ρ := ρ) (G := G') (ih2 (j + 1) (by omega) (by omega)) h1 h2
   rw [hW, hU] at fin
   clear_value W U
   have e7 : IntKind.i64.wrap ((j : Int) + 1) = ((j + 1 : Nat) : Int) := w64 (by omega) (by omega)
   clear ih ih2 hat aN aH hk aG hW hU n8 gB hl
   generalize W j = s at *
   generalize U j = u at *
   generalize ts[i][j] = o at *
   clear W U
   have qy : o.kind = 5 → Bs o = false := fun h => by simp [Bs, h]
   have aI : Bs o = true → ((¬0 < o.kind ∨ ¬0 ≤ o.loc) ∨ ¬o.loc < 3) → Fs s o = { s with acc := IntKind.i64.wrap (s.acc + 1), fen := if o.ord = 4 then IntKind.i64.wrap (s.fen + 2) else s.fen } := fun h1 h2 => by
    have h5 : ¬ o.kind = 5 := fun h => by rw [qy h] at h1; cases h1
    have h3 : 0 ≤ o.kind := by simp only [Bs, lA6, decide_eq_true_eq] at h1; omega
    have w0' : ¬ (o.kind ≠ 0 ∧ o.loc = 0) := by omega
    have w1' : ¬ (o.kind ≠ 0 ∧ o.loc = 1) := by omega
    have w2' : ¬ (o.kind ≠ 0 ∧ o.loc = 2) := by omega
    simp only [Fs, if_neg h5, if_pos h1, if_neg w0', if_neg w1', if_neg w2']
   repeat' first | refine st ?_ | ((first | refine EV.reg ?_ | refine EV.any _ (lA0 _) ?_ | fail); (conv => (arg 2; whnf)); refine nx ?_) | ((first | refine Aq.call (Ac1 _) ?_ | refine Aq.call (Qv _) ?_ | fail); try refine nx ?_) | with_reducible assumption | (refine JD ?_ (fun hc K' hK => ?_) ?_; rotate_left) | (refine cX ?_ ?_ <;> intro h <;> try exact Ah h) | (with_reducible intro b; try refine nx ?_) | refine ZF ?_ | ((first | refine xm ?_ | refine xrA rfl ?_ | refine xiA rfl ?_ | fail); try refine nx ?_) | (refine xw ?_; refine nx ?_) | exact ⟨⟩ | fail
   all_goals try (exfalso; simp_all; done)
   all_goals try (rw [aI (by assumption) (by assumption)] at fin)
   all_goals try refine fin _ _ ?_ ?_
   all_goals first
    | (simp [get, Fs, *]; done)
    | (simp [get, Fs, *]; grind)
    | skip
   all_goals
    have bg : o.loc = 0 ∨ o.loc = 1 ∨ o.loc = 2 := by omega
    have kW : ¬ o.kind = 0 := by omega
    rcases bg with bg | bg | bg <;> rw [bg] <;> simp only [Int.reduceToNat, Int.toNat_zero, Int.reduceLE, Int.reduceLT, true_and]
   all_goals repeat' first | refine su ?_ | refine rg ?_ | (refine xiA rfl ?_; try refine nx ?_) | (refine xw ?_; refine nx ?_) | exact ⟨⟩ | fail
   all_goals try refine fin _ _ ?_ ?_
   all_goals first
    | (simp [get, Fs, *]; done)
    | (simp [get, Fs, *]; grind)
    | skip
  ·have aR : j = ts[i].length := by omega
   subst aR
   have hf : (ts.take i).flatten ++ ts[i].take ts[i].length = (ts.take (i + 1)).flatten := by rw [Eb aC, lB2]
   refine JA (ih (i + 1) (by omega) (by omega)) ?_ ?_
   ·clear ih ih2
    rw [← hf]
    simp [get, W, U]
    exact w64 (by omega) (by omega)
   ·rw [← hf]
    exact lA0 _
 ·have iB : i = ts.length := by omega
  subst iB
  simp only [lB2] at h
  have hpos : ts.length > 3 ∨ (Bi ts.flatten).acc > 6 ∨ (Bi ts.flatten).fen > 8 := by
   by_cases h3 : ts.length > 3
   ·exact .inl h3
   ·rw [Al2 (by have := Ss n8.each; omega)] at h
    omega
  rw [Vq, if_pos hpos]
  repeat' first | refine rt Q67_ok ?_ | exact ⟨⟩ | fail
 ·have iB : i = ts.length := by omega
  subst iB
  simp only [lB2] at h
  have kA := Vq ts
  have gT := Al2 (l := ts.flatten) (by have := Ss n8.each; omega)
  rw [gT] at h
  rw [if_neg (by omega)] at kA
  rw [kA, lB2, gT]
  refine JA (ρ' := [(5, Av b 3 3), (6, vb (Au8 ts ts.flatten)), (10, vi (0 : Nat))]) (G' := [(b, Cl 3 [vi (Bi ts.flatten).w0, vi (Bi ts.flatten).w1, vi (Bi ts.flatten).w2])]) ?_ ?env2 (lA0 _)
  case env2 =>
   exact eE
  generalize Bi ts.flatten = s at *
  refine EV.loop2 ?_
  repeat' first | refine st ?_ | (refine EV.reg ?_; (conv => (arg 2; whnf)); (repeat first | refine nx ?_ | simp only [wr1, wr2, wr3])) | (refine cX ?_ ?_ <;> intro h <;> try exact Ah h) | refine ZF ?_ | (refine xiA rfl ?_; (repeat first | refine nx ?_ | simp only [wr1, wr2, wr3])) | fail
  ·rw [if_pos (by omega)]
   repeat' first | (refine EV.ret Q67_ok ?_; (repeat first | refine nx ?_ | simp only [wr1, wr2, wr3, Q67])) | fail
  refine EV.inLoop ?_
  repeat' first | refine st ?_ | (refine EV.reg ?_; (conv => (arg 2; whnf)); (repeat first | refine nx ?_ | simp only [wr1, wr2, wr3])) | (refine cX ?_ ?_ <;> intro h <;> try exact Ah h) | refine ZF ?_ | (refine xiA rfl ?_; (repeat first | refine nx ?_ | simp only [wr1, wr2, wr3])) | fail
  ·rw [if_pos (by omega)]
   repeat' first | (refine EV.ret Q67_ok ?_; (repeat first | refine nx ?_ | simp only [wr1, wr2, wr3, Q67])) | fail
  refine EV.inLoop ?_
  repeat' first | refine st ?_ | (refine EV.reg ?_; (conv => (arg 2; whnf)); (repeat first | refine nx ?_ | simp only [wr1, wr2, wr3])) | (refine cX ?_ ?_ <;> intro h <;> try exact Ah h) | refine ZF ?_ | (refine xiA rfl ?_; (repeat first | refine nx ?_ | simp only [wr1, wr2, wr3])) | fail
  ·rw [if_pos (by omega)]
   repeat' first | (refine EV.ret Q67_ok ?_; (repeat first | refine nx ?_ | simp only [wr1, wr2, wr3, Q67])) | fail
  refine EV.inLoop ?_
  rw [if_neg (by omega)]
  repeat' first | refine st ?_ | (refine EV.reg ?_; (conv => (arg 2; whnf)); (repeat first | refine nx ?_ | simp only [wr1, wr2, wr3])) | (refine cX ?_ ?_ <;> intro h <;> try exact Ah h) | (refine EV.ret Q67_ok ?_; (repeat first | refine nx ?_ | simp only [wr1, wr2, wr3, Q67])) | fail
  all_goals simp_all
end
theorem Al3 {l : List OpV} {j : Nat} (hj : j < l.length) : Ek (l.take (j + 1)) = Ek (l.take j) ++ Cy l[j] := by
 rw [lA7 hj]; simp only [Ek, lB0, lC2, lDu, lAa]
theorem Y7 (l : List OpV) : (Ek l).length ≤ 3 * l.length := by
 induction l with
 | nil => simp [Ek]
 | cons o l ih => have := Kz o; simp only [Ek, lC2, lA4, lB3] at ih ⊢; omega
section
variable {M : Aa}
set_option maxRecDepth 8000 in
theorem Vr (ts : List (List OpV)) (s : Value) (hs : Dv M 5 Bd s ts) (hb : ts.flatten.length < 1000000) (mS : ts.length < 1000000) :
  Con Tryz.prog 91 #[.agg #[s]] M [] fun v M' _ => (A1 ts ≠ 0 ∧ v = .tuple #[.agg #[.slice none 0 0], vi (A1 ts)]) ∨ (A1 ts = 0 ∧ ∃ s', v = .tuple #[.agg #[s'], vi 0] ∧ Dv M' 5 Bd s' (ts.map Ek)) := by
 have aM := hs
 have ul : Sized ts := ⟨by omega, fun t ht => by
  have : t.length ≤ ts.flatten.length := List.Sublist.length_le (List.sublist_flatten_of_mem ht)
  omega⟩
 obtain ⟨a, c, vs, rfl, hl, aH, hk⟩ := hs
 refine Con.enter Q68_ok (args := [.agg #[.slice a ts.length c]]) (by simp [Q68]) fun w0 => ?_
 simp only [Q68, A9]
 repeat' first | refine st ?_ | refine rg ?_ | (refine Aq.call (Ih _ _ (aM.mono (JB _ _)) ul) ?_; try refine nx ?_) | (refine cX ?_ ?_ <;> intro h <;> try exact Ah h) | ((first | with_reducible intro b | refine xrA rfl ?_ | fail); try refine nx ?_) | (refine xw ?_; refine nx ?_) | exact ⟨⟩ | fail
 ·repeat' first | refine rt Q68_ok ?_ | (refine xrA rfl ?_; try refine nx ?_) | exact ⟨⟩ | fail
  exact .inl h
 ·have aK := h
  repeat' first | fail
  rename_i b1 b2 b5
  obtain ⟨_, _, hall⟩ := Di aK
  refine JF ?_ (B8 [[_], [_], [_], [_]] 3 (by simp))
  simp only [lBb, lBg, lAs, lAt, lCk, lC3, Db, Da, C9, lAj, lAp, lAc, lAa]
  refine EV.freeze (G₁ := [_, _]) ?_
  generalize hN : M.add [(b1, Cl 24 [.slice a ts.length c]), (b, Cl 83 [.int .i64 5, .int .i64 0, .int .i64 0, .int .i64 0, .int .i64 4])] = N
  have aA : M.le N := hN ▸ JB _ _
  have jo : rd N b1 0 1 [.slice a ts.length c] := hN ▸ An 0 rfl rfl (by simp)
  have tO : rd N b 0 5 (Bd Ii) := hN ▸ An 1 rfl rfl (by simp)
  clear hN
  replace aH := aH.mono aA
  replace hk := fun k h h' => (hk k h h').mono aA
  clear aM
  refine JA (ρ' := [(1, pv b1 0), (2, pv b2 0), (5, pv b5 0), (6, pv b 0), (7, vi (0 : Nat))])
   (G' := [(b5, Cl 24 [osv none 0]), (b2, Cl 24 [.slice none 0 0])] ++ osg 70 none []) ?_ ?env0 eS
  case env0 =>
   exact eE
  refine EV.loop (fun x : Nat × Aa × Vec × List Value => ([(1, pv b1 0), (2, pv b2 0), (5, pv b5 0), (6, pv b 0), (7, vi x.1)], x.2.1,
    [(b5, Cl 24 [osv x.2.2.1 x.1]), (b2, Cl 24 [.slice none 0 0])] ++ osg 70 x.2.2.1 x.2.2.2))
   (fun x => x.1 ≤ ts.length ∧ N.le x.2.1 ∧ Ey 1 x.2.2.1 x.1 x.2.2.2 ∧ x.2.2.2.length = x.1 ∧ ∀ k (h : k < x.2.2.2.length) (h' : k < ts.length), Sl x.2.1 5 Bd x.2.2.2[k] (Ek ts[k]))
   (fun x => ts.length - x.1) (0, N, none, []) ⟨lA8 _, Aa.le_refl _, ⟨rfl, rfl⟩, rfl, fun k h => absurd h (by simp)⟩ ?_
  rintro ⟨i, Mi, oq, vs'⟩ ⟨hi, cy, ig, cO, kX⟩ ih
  dsimp only at hi cy ig cO kX ih ⊢
  replace jo := jo.mono cy
  replace tO := tO.mono cy
  repeat' first | refine st ?_ | refine rg ?_ | (refine cX ?_ ?_ <;> intro h <;> try exact Ah h) | ((first | refine xn ?_ | refine xrA rfl ?_ | fail); try refine nx ?_) | (refine xw ?_; refine nx ?_) | exact ⟨⟩ | fail
  ·have aC : i < ts.length := by omega
   obtain ⟨pb, po, rfl, hat⟩ := Dv.at (aH.mono cy) hl (fun k h h' => (hk k h h').mono cy) (by omega)
   obtain ⟨a', c', aT, aX⟩ := hat i aC
   simp only [lAu] at aT
   have aG : ts[i].length ≤ ts.flatten.length := by have := Eb aC; have h2 := Cw ts (i + 1); rw [this, lA4] at h2; omega
   have aJ : ∀ o ∈ ts[i], o ∈ ts.flatten := fun o ho => lEd.2 ⟨ts[i], lAm aC, ho⟩
   refine JA (ρ' := [(1, pv b1 0), (2, pv b2 0), (5, pv b5 0), (6, pv b 0), (7, vi i), (8, osv none (Ek (ts[i].take 0)).length), (9, vi (0 : Nat))])
    (G' := [(b5, Cl 24 [osv oq i]), (b2, Cl 24 [.slice none 0 0])] ++ (osg 70 oq vs' ++ osg 83 none ((Ek (ts[i].take 0)).flatMap Bd))) ?_ ?env1 (by simp only [osg, lAa]; exact lA0 _)
   case env1 =>
    exact eE
   refine EV.loop (fun x : Nat × Vec => ([(1, pv b1 0), (2, pv b2 0), (5, pv b5 0), (6, pv b 0), (7, vi i), (8, osv x.2 (Ek (ts[i].take x.1)).length), (9, vi x.1)], Mi,
     [(b5, Cl 24 [osv oq i]), (b2, Cl 24 [.slice none 0 0])] ++ (osg 70 oq vs' ++ osg 83 x.2 ((Ek (ts[i].take x.1)).flatMap Bd))))
    (fun x => x.1 ≤ ts[i].length ∧ Ey 5 x.2 (Ek (ts[i].take x.1)).length ((Ek (ts[i].take x.1)).flatMap Bd))
    (fun x => ts[i].length - x.1) (0, none) ⟨lA8 _, rfl, rfl⟩ ?_
   rintro ⟨j, ov⟩ ⟨hj, aQ⟩ ih2
   dsimp only at hj aQ ih2 ⊢
   repeat' first | refine st ?_ | refine rg ?_ | (refine cX ?_ ?_ <;> intro h <;> try exact Ah h) | (with_reducible intro b; try refine nx ?_) | refine ZF ?_ | ((first | refine xn ?_ | refine xsA rfl ?_ | fail); try refine nx ?_) | exact ⟨⟩ | fail
   ·have aR : j < ts[i].length := by omega
    obtain ⟨qb, qo, rfl, aN⟩ := Sl.at (enc := Bd) (fun _ => rfl) (by omega) aX (by omega)
    have dP := aN j aR
    have ai := lAz.1 hall _ (aJ _ (lAm aR))
    have ed := Y7 (ts[i].take j)
    have mT : (ts[i].take j).length ≤ j := by simp; omega
    have e := Al3 aR
    repeat' first | refine st ?_ | refine rg ?_ | with_reducible assumption | (refine JD ?_ (fun hc K' hK => ?_) ?_; rotate_left) | (refine cX ?_ ?_ <;> intro h <;> try exact Ah h) | (with_reducible intro b; try refine nx ?_) | refine ZF ?_ | ((first | refine xm ?_ | refine xrA rfl ?_ | refine xiA rfl ?_ | fail); try refine nx ?_) | (refine xw ?_; refine nx ?_) | exact ⟨⟩ | fail
    ·refine ⟨_, Or.inr ⟨_, 0, rfl, An 0 rfl rfl (by simp)⟩, by simp [Bq, Ch, Value.oneCell'], Or.inl ⟨_, _, rfl, _, aQ, _, B8 [[_, _, _, _], osg 70 oq vs', osg 83 ov _] 2 (by simp), ?_, ?_, ?_⟩⟩
     ·simp only [maxLen]; omega
     ·omega
     intro o' bH _
     simp only [lBb, lBg, lAs, lAt, Db, Da, C9, lAj, lAp, lAc, lAa]
     repeat' first | refine su ?_ | refine rg ?_ | exact ⟨⟩ | fail
     have he : Cy ts[i][j] = [ts[i][j]] := by
      rw [Cy, if_pos]
      rcases h with h | h
      ·left; simp [Bs, h]
      ·exact .inr h
     have ih3 := ih2 (j + 1, o') ⟨by dsimp only; omega, by rw [e, he]; simpa using bH⟩ (by dsimp only; omega)
     simp only [e, he, lA4, lB0] at ih3
     refine JA ih3 ?_ eS
     exact eE
    ·have he : Cy ts[i][j] = [Ii, { ts[i][j] with ord := J1 ts[i][j].kind ts[i][j].ord }, Ii] := by
      rw [Cy, if_neg]
      have h5 := ((Fk _).1 ai).1
      simp only [Wc, lA6, decide_eq_true_eq] at h5
      have : Bs ts[i][j] = true := by simp only [Bs, lA6, decide_eq_true_eq]; omega
      rw [this]; simp [h.2]
     repeat' first | refine rg ?_ | ((first | refine Aq.call (Xq _) ?_ | with_reducible intro b | refine xm ?_ | refine xrA rfl ?_ | fail); try refine nx ?_) | (refine xw ?_; refine nx ?_) | exact ⟨⟩ | fail
     refine ⟨_, Or.inr ⟨_, 0, rfl, An 0 rfl rfl (by simp)⟩, by simp [Bq, Ch, Value.oneCell'], Or.inl ⟨_, _, rfl, _, aQ, _, B8 [[_, _, _, _], osg 70 oq vs', osg 83 ov _] 2 (by simp), ?_, ?_, ?_⟩⟩
     ·simp only [maxLen]; omega
     ·omega
     intro o' bH _
     simp only [lBb, lBg, lAs, lAt, Db, Da, C9, lAj, lAp, lAc, lAa]
     repeat' first | refine su ?_ | refine rg ?_ | exact ⟨⟩ | fail
     have ih3 := ih2 (j + 1, o') ⟨by dsimp only; omega, by rw [e, he]; simpa using bH⟩ (by dsimp only; omega)
     simp only [e, he, lA4, lB0] at ih3
     refine JA ih3 ?_ eS
     exact eE
   ·have aR : j = ts[i].length := by omega
    subst aR
    have ed := Y7 ts[i]
    rw [lB2] at aQ ⊢
    repeat' first | fail
    refine ⟨_, Or.inr ⟨_, 0, rfl, An 0 rfl rfl (by simp)⟩, by simp [Bq, Ch, Value.oneCell'], Or.inl ⟨_, _, rfl, _, ig, _, B8 [[_, _, _], osg 70 oq vs', osg 83 ov _] 1 (by simp), ?_, ?_, ?_⟩⟩
    ·simp only [maxLen]; omega
    ·omega
    intro o' bH _
    simp only [lBb, lBg, lAs, lAt, Db, Da, C9, lAj, lAp, lAc, lAa]
    repeat' first | refine su ?_ | refine rg ?_ | (refine xw ?_; refine nx ?_) | exact ⟨⟩ | fail
    refine JF ?_ (B8 [[_, _, _], osg 83 ov _, osg 70 o' _] 1 (by simp))
    simp only [lBb, lBg, lAs, lAt, lCk, lC3, Db, Da, C9, lAj, lAp, lAc, lAa]
    refine EV.freeze ?_
    have ih3 := ih (i + 1, Mi.add (osg 83 ov ((Ek ts[i]).flatMap Bd)), o', vs' ++ [osv ov (Ek ts[i]).length]) ⟨by dsimp only; omega, Aa.le_trans cy (JB _ _), bH, by simp [cO], ?_⟩ (by dsimp only; omega)
    dsimp only at ih3
    refine JA ih3 ?_ eS
    ·exact eE
    ·intro k cM cU
     dsimp only at cM cU ⊢
     by_cases gm : k < vs'.length
     ·rw [lCq gm]
      exact (kX k gm cU).mono (JB _ _)
     ·have : k = i := by simp at cM; omega
      subst this
      rw [lCn (by omega)]
      simp only [cO, lF9, lAt]
      exact ⟨_, _, rfl, E5 aQ (fun p hp => hp)⟩
  ·have bo : i = ts.length := by omega
   subst bo
   repeat' first | fail
   refine JF ?_ (B8 [[_, _], osg 70 oq vs'] 1 (by simp))
   simp only [lBb, lBg, lAs, lAt, lCk, lC3, Db, Da, C9, lAj, lAp, lAc, lAa]
   refine EV.freeze ?_
   (refine rt Q68_ok ?_; try with_reducible exact ⟨⟩)
   refine ⟨_, An 1 rfl rfl (by simp), .inr ⟨aK, _, rfl, oad oq, Rd oq, vs', by simp, by simpa using cO, ?_, ?_⟩⟩
   ·simpa using E5 ig (fun p hp => hp)
   ·intro k h1 h2
    simp only [lDn]
    exact (kX k h1 (by simpa using h2)).mono (JB _ _)
end
def LimS.wk (s : LimS) (k : Int) : Int := if k = 0 then s.w0 else if k = 1 then s.w1 else s.w2
theorem Tv {p : List Ev} {e : Exec} (ar : e.ord.length = 3) : ∃ r a b c, Ar p e = r ++ [a, b, c] ∧ r = Bc p (Aw p e.frm) p.length ∧ a = Bn (Aw p e.frm) (e.ord[0]?.getD []) ∧ b = Bn (Aw p e.frm) (e.ord[1]?.getD []) ∧ c = Bn (Aw p e.frm) (e.ord[2]?.getD []) := by
 rcases ho : e.ord with _ | ⟨a, _ | ⟨b, _ | ⟨c, _ | ⟨d, l⟩⟩⟩⟩ <;> rw [ho] at ar <;> simp at ar
 exact ⟨_, _, _, _, by rw [Ar, ho]; rfl, rfl, rfl, rfl, rfl⟩
theorem Oe {p : List Ev} {l : List (List Int)} (h : Ad1 p l) {x : List Int} : x ∈ l ↔ Pq p x := by
 rw [h.2 x, lAk]; rfl
theorem Ad1.nodup {p : List Ev} {l : List (List Int)} (h : Ad1 p l) : l.Nodup := by
 rw [lBv]
 exact h.1.imp fun {a b} h e => by rw [e, Ck] at h; omega
theorem Al4 {p : List Ev} (hp : POk p) {x : List Int} (h : Pq p x) : ∃ r a b c, x = r ++ [a, b, c] ∧ r.length ≤ p.length := by
 obtain ⟨e, he, rfl⟩ := h
 obtain ⟨r, a, b, c, h1, h2, _⟩ := Tv (p := p) (e := e) (execsP_ok hp he).ol
 exact ⟨r, a, b, c, h1, by rw [h2]; exact Cb _ _ _⟩
def fct : Nat → Nat
 | 0 => 1
 | n + 1 => (n + 1) * fct n
theorem Aq4 (n : Nat) : fct n ≤ fct (n + 1) := by
 show fct n ≤ (n + 1) * fct n
 exact Nat.le_mul_of_pos_left _ (Nat.succ_pos _)
theorem Y8 {a b : Nat} (h : a ≤ b) : fct a ≤ fct b := by
 induction h with
 | refl => exact lA5 _
 | step _ ih => exact lBm ih (Aq4 _)
theorem Me (p : List Ev) : ∀ (n : Nat) (l : List Int), (Bz p n l).length ≤ fct n
 | 0, _ => by simp [Bz, fct]
 | n + 1, l => by
  have h := C6 (l := List.range (n + 1)) (f := fun i => if Ef p l i then [] else (Bz p n (l.eraseIdx i)).map (Ae l i :: ·)) (c := fct n) (fun i _ => by
   split
   ·exact lA8 _
   ·rw [lA1]; exact Me p n _)
  rw [lE4] at h
  exact h
theorem Sg {p : List Ev} {dn : List Bool} (h : ∀ k : Int, (Az p dn k).length ≤ 4) : ∀ (k : Nat) (loc : Int), (Bt p dn k loc).length ≤ 24 ^ k
 | 0, _ => by simp [Bt]
 | k + 1, loc => by
  have h1 := C6 (l := Ct p (Az p dn loc)) (f := fun l => (Bt p dn k (loc + 1)).map (l :: ·)) (c := 24 ^ k) (fun l _ => by rw [lA1]; exact Sg h k _)
  have h2 : (Ct p (Az p dn loc)).length ≤ 24 := lBm (Me p _ _) (Y8 (h loc))
  refine lBm h1 ?_
  rw [Nat.pow_succ, Nat.mul_comm (24 ^ k) 24]
  exact lBw _ h2
def Vs (p : List Ev) : Nat → Nat → Nat
 | 0, _ => 0
 | k + 1, i => (if (evAt p i).reads then 1 else 0) + Vs p k (i + 1)
theorem Vt {p : List Ev} {dn : List Bool} {ord : List (List Int)} (h : ∀ i, (Bf p dn ord i).length ≤ if (evAt p i).reads then 5 else 1) : ∀ (k i : Nat), (Ce p dn ord k i).length ≤ 5 ^ Vs p k i
 | 0, _ => by simp [Ce, Vs]
 | k + 1, i => by
  have h1 := C6 (l := Bf p dn ord i) (f := fun w => (Ce p dn ord k (i + 1)).map (w :: ·)) (c := 5 ^ Vs p k (i + 1)) (fun l _ => by rw [lA1]; exact Vt h k _)
  refine lBm h1 (lBm (lBw _ (h i)) ?_)
  rw [Vs, Nat.pow_add]
  refine lBw _ ?_
  split <;> decide
theorem Y9 (p : List Ev) : ∀ (k i : Nat), Vs p k i = ((List.range' i k).filter fun j => (evAt p j).reads).length
 | 0, i => rfl
 | k + 1, i => by
  rw [Vs, Y9 p k (i + 1), List.range'_succ, lCy]
  split <;> simp <;> omega
theorem tot : ∀ a : Fin 7, 2 ^ a.1 * (24 ^ 3 * (5 ^ a.1 * fct (14 - a.1))) < 2 ^ 60 := by decide
theorem Cm {ts : List (List OpV)} (h : A1 ts = 0) : (Ac ts).length ≤ 14 := by
 obtain ⟨hl, hn, hall⟩ := Di h
 have aj : (ts.map Ek).flatten = Ek ts.flatten := by simp [Ek, List.flatMap_def, List.map_flatten, lFf, lE5]; rfl
 have h1 := (Yv ts.flatten (lAz.1 hall)).1
 simp only [Gy, lA6, decide_eq_true_eq] at hl
 have : (Ac ts).length = (Ek ts.flatten).length := by rw [Ac, Iw, aj]
 omega
theorem Sh {α : Type} {f g : α → Bool} (hd : ∀ x, f x = true → g x = false) : ∀ l : List α, (l.filter f).length + (l.filter g).length ≤ l.length
 | [] => by simp
 | x :: l => by
  have ih := Sh hd l
  have h := hd x
  simp only [lCy, lB3]
  cases hf : f x with
  | true => rw [h hf]; simp; omega
  | false => cases g x <;> simp <;> omega
theorem Tw {p : List Ev} {f : Nat → Bool} {g : Ev → Bool} (h : ∀ i, i < p.length → f i = true → g (evAt p i) = true) : (Cq p.length f).length ≤ (p.filter g).length := by
 rw [Cq, lA1, ← Gp p g]
 refine (List.Sublist.length_le ?_)
 have : (List.range p.length).filter f = ((List.range p.length).filter fun i => g (evAt p i)).filter f := by
  rw [lFl]
  refine List.filter_congr fun i hi => ?_
  have := h i (lAl.1 hi)
  cases hf : f i with
  | false => simp
  | true => rw [this hf]; rfl
 rw [this]
 exact List.filter_sublist
theorem Aq5 {ts : List (List OpV)} (hc : A1 ts = 0) : (Cf (Ac ts)).length < 2 ^ 60 := by
 have hf := Tb hc
 have hl := Cm hc
 generalize Ac ts = p at *
 obtain ⟨a, ha⟩ : ∃ a, a = (p.filter fun e => decide (e.op.kind ≠ 5)).length := ⟨_, rfl⟩
 have wK : a ≤ 6 := ha ▸ hf.acc
 have n9 : (Bo p).length ≤ a := by
  rw [ha]
  refine Tw fun i _ h => ?_
  simp only [lAr, decide_eq_true_eq] at h ⊢; omega
 have lW : Vs p p.length 0 ≤ a := by
  rw [ha, Y9, ← lFd, Gp p Ev.reads]
  have : p.filter Ev.reads = (p.filter fun e => decide (e.op.kind ≠ 5)).filter Ev.reads := by
   rw [lFl]
   congr 1
   funext e
   simp only [Ev.reads]
   cases decide (e.op.kind ≠ 1) <;> cases decide (e.op.kind ≠ 5) <;> rfl
  rw [this]; exact lDy _ _
 have b7 : (A5 p).length ≤ 14 - a := by
  have h1 : (A5 p).length ≤ (p.filter Ev.strong).length := Tw fun i _ h => h
  have h2 := Sh (f := fun e : Ev => decide (e.op.kind ≠ 5)) (g := Ev.strong) (fun x hx => by
   simp only [decide_eq_true_eq] at hx
   simp [Ev.strong, hx]) p
  omega
 have hF : ∀ dn ord frm, (F5 p dn ord frm).length ≤ fct (14 - a) := by
  intro dn ord frm
  unfold F5
  split
  ·refine lBm (lDy _ _) ?_
   rw [lA1]
   exact lBm (Me p _ _) (Y8 b7)
  ·exact lA8 _
 have hO : ∀ dn, dn ∈ Hn p → (J2 p dn).length ≤ 24 ^ 3 * (5 ^ a * fct (14 - a)) := by
  intro dn hdn
  have hd := (L8.1 hdn).2
  have hw : ∀ k : Int, (Az p dn k).length ≤ 4 := fun k => lBm (Tw (g := fun e => isW k e.op) fun i hi h => by
   simp only [lA6, decide_eq_true_eq] at h
   have := hd i hi
   simp only [isW, lA6, decide_eq_true_eq]
   exact ⟨this.2 h.1.2, h.2⟩) (hf.w k)
  refine lBm (C6 (c := 5 ^ a * fct (14 - a)) fun ord ho => ?_) (lBw _ (Sg hw 3 0))
  refine lBm (C6 (c := fct (14 - a)) fun frm _ => hF dn ord frm) (lBw _ ?_)
  refine lBm (Vt (fun i => ?_) _ _) (lCg (by decide) lW)
  unfold Bf
  cases hr : (evAt p i).reads with
  | false => simp
  | true =>
   simp only [Bool.true_eq_false, if_false, if_true]
   split
   ·simp
   ·rw [Iq, lB3]
    have : (ord[(evAt p i).op.loc.toNat]?.getD []).length ≤ 4 := by
     by_cases hk : (evAt p i).op.loc.toNat < ord.length
     ·rw [lA2 hk, lAn, (Ka 3 0 ord ho _ hk).length_eq]; exact hw _
     ·rw [lD1 (by omega)]; exact lA8 _
    omega
 have h1 : (Cf p).length ≤ (Hn p).length * (24 ^ 3 * (5 ^ a * fct (14 - a))) := C6 hO
 have h2 : (Hn p).length ≤ 2 ^ a := by
  rw [Hn, lA1, lE4]
  exact lCg (by decide) n9
 exact lEg (lBm h1 (lBw _ h2)) (tot ⟨a, by omega⟩)
section
variable {M : Aa}
theorem Jb (ts : List (List OpV)) (s : Value) (hs : Dv M 5 Bd s ts) (aK : A1 ts = 0) :
  Con Tryz.prog 39 #[.agg #[s]] M [] fun v M' _ => Sl M' 6 Fq v (Ac ts) := by
 have aM := hs
 obtain ⟨a, c, vs, rfl, hl, aH, hk⟩ := hs
 have jF := Iu aK
 have cg := Cm aK
 refine Con.enter Q74_ok (args := [.agg #[.slice a ts.length c]]) (by simp [Q74]) fun w0 => ?_
 simp only [Q74, A9]
 repeat' first | refine st ?_ | refine rg ?_ | ((first | with_reducible intro b | refine xrA rfl ?_ | fail); try refine nx ?_) | exact ⟨⟩ | fail
 refine Con.callS (G1 := []) (Vr ts _ aM (by omega) (by omega)) ?_
 rintro v M1 G1 bv (⟨hne, rfl⟩ | ⟨_, s', rfl, bz⟩)
 ·exact absurd aK hne
 have fu := bz
 obtain ⟨a1, c1, vs1, rfl, fw, fW, cM⟩ := fu
 (refine nx ?_; try with_reducible exact ⟨⟩)
 repeat' first | refine st ?_ | refine rg ?_ | (with_reducible intro b; try refine nx ?_) | (refine xw ?_; refine nx ?_) | exact ⟨⟩ | fail
 refine JG [] ?_
 generalize hR : M1.add _ = N
 have aA : M1.le N := hR ▸ JB _ _
 have um : rd N b 0 1 [.slice a1 (ts.map Ek).length c1] := hR ▸ An 0 rfl rfl (by simp)
 clear hR
 have tp : (ts.map Ek).flatten.length ≤ 14 := by rw [← Iw _ 0]; exact cg
 have f5 : Ac ts = C4 0 (ts.map Ek) := rfl
 rw [f5]
 have tt : (ts.map Ek).length = ts.length := by simp
 have d4 := fW.mono aA
 have cU : ∀ i (h : i < vs1.length) (h' : i < (ts.map Ek).length), Sl N 5 Bd vs1[i] (ts.map Ek)[i] := fun i h h' => (cM i h h').mono aA
 generalize ts.map Ek = q at *
 clear bz fW cM aM aH hk
 refine JC (fun x : Nat × Vec => ([(3, pv b 0), (5, osv x.2 (C4 0 (q.take x.1)).length), (6, vi x.1)], N, osg 103 x.2 ((C4 0 (q.take x.1)).flatMap Fq)))
  (fun x => x.1 ≤ q.length ∧ Ey 6 x.2 (C4 0 (q.take x.1)).length ((C4 0 (q.take x.1)).flatMap Fq)) (fun x => q.length - x.1) (0, none) rfl ⟨lA8 _, rfl, rfl⟩ ?env1 (lAe _) ?_
 case env1 =>
  exact eE
 rintro ⟨i, ov⟩ ⟨hi, aQ⟩ ih
 dsimp only at hi aQ ih ⊢
 refine EV.seq ?_
 refine EV.seq ?_
 repeat' first | refine su ?_ | refine rg ?_ | (refine cX ?_ ?_ <;> intro h <;> try exact Ah h) | (refine xn ?_; try refine nx ?_) | exact ⟨⟩ | fail
 ·have aC : i < q.length := by omega
  obtain ⟨pb, po, rfl, hat⟩ := Dv.at d4 fw cU (by omega)
  obtain ⟨a', c', aT, aX⟩ := hat i aC
  simp only [lAu] at aT
  have aG : ∀ j, (Dq q i j).length ≤ q.flatten.length := fun j => Lx aC j
  have eg : q[i].length ≤ q.flatten.length := Ov aC
  repeat' first | refine st ?_ | refine rg ?_ | exact ⟨⟩ | fail
  refine JC (fun x : Nat × Vec => ([(3, pv b 0), (5, osv x.2 (Dq q i x.1).length), (6, vi i), (7, vi x.1)], N,
    osg 103 x.2 ((Dq q i x.1).flatMap Fq)))
   (fun x => x.1 ≤ q[i].length ∧ Ey 6 x.2 (Dq q i x.1).length ((Dq q i x.1).flatMap Fq))
   (fun x => q[i].length - x.1) (0, ov) rfl ⟨lA8 _, by rw [Ep]; exact aQ⟩ ?env2 (by rw [Ep]; exact lA0 _) ?_
  case env2 =>
   repeat' first | (refine lBs.2 (lAd ?_ ?_)) | (intro _ bn; cases bn; done) | rfl | (simp (disch := omega) only [Ak, Au, reduceIte, Nat.reduceEqDiff, Option.some.injEq, Value.int.injEq, w64, lDf, lDg, lB8, lD7, Ep]; done) | fail
  rintro ⟨j, o1⟩ ⟨hj, bU⟩ ih2
  dsimp only at hj bU ih2 ⊢
  refine EV.seq ?_
  refine EV.seq ?_
  repeat' first | refine su ?_ | refine rg ?_ | (refine cX ?_ ?_ <;> intro h <;> try exact Ah h) | refine ZF ?_ | (refine xn ?_; try refine nx ?_) | exact ⟨⟩ | fail
  ·have aR : j < q[i].length := by omega
   have mV := aG j
   obtain ⟨qb, qo, rfl, aN⟩ := Sl.at (enc := Bd) (fun _ => rfl) (by omega) aX (by omega)
   have dP := aN j aR
   repeat' first | refine st ?_ | refine rg ?_ | (with_reducible intro b; try refine nx ?_) | refine ZF ?_ | ((first | refine xm ?_ | refine xn ?_ | fail); try refine nx ?_) | exact ⟨⟩ | fail
   refine ⟨Fq ⟨q[i][j], i⟩, Or.inr ⟨_, 0, rfl, An 0 rfl rfl (by simp)⟩, by simp [Bq, Ch, Value.oneCell'], Or.inl ⟨o1, _, rfl, _, bU, _, B8 [[_], osg 103 o1 _] 1 (by simp), ?_, ?_, ?_⟩⟩
   ·simp only [maxLen]; omega
   ·omega
   intro o2 au _
   simp only [lBb, lBg, lAs, lAt, lCk, lC3, Db, Da, C9, lAj, lAp, lAc, lAa]
   repeat' first | refine su ?_ | refine rg ?_ | exact ⟨⟩ | fail
   have e := Ou aC aR
   have ih3 := ih2 (j + 1, o2) ⟨by dsimp only; omega, by rw [e, lA4, lB0]; exact au⟩ (by dsimp only; omega)
   dsimp only at ih3
   rw [e, lA4, lB0] at ih3
   refine JA ih3 ?_ eS
   exact eE
  ·have aR : j = q[i].length := by omega
   subst aR
   rw [Lw aC] at bU ⊢
   repeat' first | fail
   refine JA (ih (i + 1, o1) ⟨by dsimp only; omega, bU⟩ (by dsimp only; omega)) ?_ eS
   exact eE
 ·have bo : i = q.length := by omega
  subst bo
  rw [lB2] at aQ ⊢
  repeat' first | refine st ?_ | refine rg ?_ | exact ⟨⟩ | fail
  rw [← lAa (osg _ _ _)]
  refine EV.freeze ?_
  (refine rt Q74_ok ?_; try with_reducible exact ⟨⟩)
  exact ⟨_, _, rfl, E5 aQ (fun p hp => hp)⟩
end
section
variable {M : Aa}
theorem Jp (p : List Ev) (s : Value) (hs : Sl M 6 Fq s p) (hp : p.length ≤ 16) (e : Exec) (v : Value) (hv : IsX M v e) (aj : e.frm.length = p.length) (be : ∀ i, i < p.length → Af e i < p.length) : Con Tryz.prog 50 #[s, v] M [] fun u _ _ => u = E9 (Hr p e) := by
 obtain ⟨pa, pc, rfl, an⟩ := hs
 obtain ⟨f, d, o, n, rfl, ⟨fa, fc, rfl, bc⟩, ⟨da, dc, rfl, _⟩, ⟨oa, oc, ovs, rfl, _, _, _⟩, ⟨na, nc, rfl, _⟩⟩ := hv
 refine Con.enter Q90_ok (args := [.slice pa p.length pc, .agg #[.slice fa e.frm.length fc, .slice da e.dn.length dc, .slice oa e.ord.length oc, .slice na e.fen.length nc]]) (by simp [Q90]) fun w0 => ?_
 simp only [Q90, A9]
 repeat' first | refine st ?_ | refine rg ?_ | (with_reducible intro b; try refine nx ?_) | exact ⟨⟩ | fail
 obtain ⟨b3, rfl⟩ : ∃ x, x = b := ⟨_, rfl⟩
 obtain ⟨b2, rfl⟩ : ∃ x, x = b := ⟨_, rfl⟩
 obtain ⟨xb, rfl⟩ : ∃ x, x = b := ⟨_, rfl⟩
 obtain ⟨zs, hzs⟩ : ∃ zs : List Value, zs = [vw 0, vw 0, vw 0, vw 0, vw 0, vw 0, vw 0, vw 0, vw 0, vw 0, vw 0, vw 0, vw 0, vw 0, vw 0, vw 0] := ⟨_, rfl⟩
 have aZ : ∀ a, a ≤ p.length → RelOk 16 (Ag (J4 e) a B1) := fun a ha => loopN_ok (n := p.length) (fun i q hi hq => putIf_ok hq _ (by omega)) a _ ha zero16_ok
 refine EV.frz [(xb, Cl 37 [.slice fa e.frm.length fc, .slice da e.dn.length dc, .slice oa e.ord.length oc, .slice na e.fen.length nc])] ?_
 generalize hR : M.add _ = N
 have aA : M.le N := hR ▸ JB _ _
 have bX : rd N xb 0 4 [.slice fa e.frm.length fc, .slice da e.dn.length dc, .slice oa e.ord.length oc, .slice na e.fen.length nc] := hR ▸ An 0 rfl rfl (by simp)
 clear hR
 have ij := bX.pt 0 1 (by omega) rfl
 simp only [lBi] at ij
 refine JC (fun a : Nat => ([(0, .slice pa p.length pc), (3, pv xb 0), (4, pv b2 0), (5, pv b3 0), (6, vi a)], N, [(b3, Cl 95 ((Ag (J4 e) a B1).map vw)), (b2, Cl 95 zs)])) (fun a => a ≤ p.length) (fun a => p.length - a) 0 rfl (lA8 _) ?env1 (by subst hzs; exact lA0 _) ?_
 case env1 =>
  exact eE
 intro a ha ih
 dsimp only at ha ih ⊢
 repeat' first | refine st ?_ | refine rg ?_ | (refine cX ?_ ?_ <;> intro h <;> try exact Ah h) | (refine xn ?_; try refine nx ?_) | exact ⟨⟩ | fail
 ·have aW : a < p.length := by omega
  have hq := aZ a ha
  have ih3 := ih (a + 1) (by omega) (by omega)
  simp only [Ag, J4] at ih3
  obtain ⟨fb, fo, rfl, hat⟩ := Sl.at (sz := 1) (enc := ei) (fun _ => rfl) (by decide) bc (by omega)
  have bW : rd N fb (fo + a) 1 [vi (Af e a)] := (Cj hat a (by omega)).mono aA
  have aU := be a aW
  generalize Af e a = w at bW aU ih3
  generalize Ag (J4 e) a B1 = q at *
  repeat' first | refine su ?_ | refine rg ?_ | (refine cX ?_ ?_ <;> intro h <;> try exact Ah h) | refine ZF ?_ | (refine xm ?_; try refine nx ?_) | exact ⟨⟩ | fail
  ·obtain ⟨u, rfl⟩ : ∃ u : Nat, w = u := ⟨w.toNat, by omega⟩
   obtain ⟨bN, e1⟩ := hq.get (show u < 16 by omega)
   have bK := hq.at (show 16 ≤ 32 by omega) u
   rw [e1] at bK
   have dQ : q[u] < 2 ^ 64 := lAx bK (by decide)
   have fF : IntKind.u64.wrap (a : Int) = (a : Int) := Bp (by omega)
   have d5 : ¬ ((a : Int) < 0) := by omega
   have bM := Ib (show a < 64 by omega)
   have am := Ic (b := a) dQ (by omega)
   refine EV.any (t := By6) [(b3, Cl 95 (q.map vw))] (lAg _ (lAe _)) ?_
   simp only [Aj, As, Ak, Au, reduceIte, Nat.reduceEqDiff]
   repeat' first | ((first | refine zo (fun lq aD => ?_) | refine zl ?_ | refine lAb _ (lAd (Cg (f := vw) bN) ?_) | fail); (repeat first | refine nz ?_ | simp only [fF, d5, bM, am])) | (refine ZB (fun tq aB => ?_) (fun tq aB => ?_) <;> (repeat first | refine nz ?_ | simp only [fF, d5, bM, am])) | exact zn | refine ZF ?_ | ((first | refine xm ?_ | refine xn ?_ | refine xw ?_ | fail); (repeat first | refine nz ?_ | simp only [fF, d5, bM, am])) | fail
   refine ⟨by rw [lA1, hq.len]; omega, ?_⟩
   rw [Ap vw q bN]
   repeat' first | (refine zl ?_; try refine nz ?_) | refine zq (fun lq tq aD aB => ?_) | refine zf ?_ | exact ⟨⟩ | fail
   repeat' first | refine su ?_ | refine rg ?_ | exact ⟨⟩ | fail
   rw [Hq, if_pos (decide_eq_true (by omega)), lAy, N0, orR, e1] at ih3
   refine JA ih3 ?_ (lA0 _)
   exact eE
  ·rw [Hq, if_neg (by rw [decide_eq_false (by omega)]; decide)] at ih3
   refine JA ih3 ?_ (lA0 _)
   exact eE
 ·have dd : a = p.length := by omega
  subst dd
  have bN := (aZ p.length (lA5 _)).len
  have aS : Hr p e = Ag (J4 e) p.length B1 := rfl
  rw [aS]
  refine ⟨_, Gl (f := vw) bN, _, zs, [(b3, Cl 95 ((Ag (J4 e) p.length B1).map vw))], _, rfl, by subst hzs; simp, by rw [lA1, bN], fun v hv => by obtain ⟨x, _, rfl⟩ := lAk.1 hv; rfl, ?_⟩
  rw [lA1, bN, show zs.drop 16 = [] by subst hzs; rfl, lAa]
  simp only [lAp, lAj]
  (refine rt Q90_ok ?_; try with_reducible exact ⟨⟩)
  exact ⟨_, Bm (T := 95) (cs := (Ag (J4 e) p.length B1).map vw) (by simp) (by rw [lBr, lAw (by rw [lA1, bN]; exact lA5 _)]) (by rw [lA1, bN]; exact lA5 _), rfl⟩
end
section
variable {M : Aa}
theorem Kf (e : Exec) (v : Value) (hv : IsX M v e) (hl : e.fen.length ≤ 16) (hin : ∀ k, k < e.fen.length → 0 ≤ Ae e.fen k ∧ Ae e.fen k < 16) : Con Tryz.prog 51 #[v] M [] fun u _ _ => u = E9 (F9 e.fen) := by
 obtain ⟨f, d, o, n, rfl, ⟨fa, fc, rfl, _⟩, ⟨da, dc, rfl, _⟩, ⟨oa, oc, ovs, rfl, _, _, _⟩, ⟨na, nc, rfl, kf⟩⟩ := hv
 refine Con.enter Q98_ok (args := [.agg #[.slice fa e.frm.length fc, .slice da e.dn.length dc, .slice oa e.ord.length oc, .slice na e.fen.length nc]]) (by simp [Q98]) fun w0 => ?_
 simp only [Q98, A9]
 repeat' first | refine st ?_ | refine rg ?_ | (with_reducible intro b; try refine nx ?_) | exact ⟨⟩ | fail
 obtain ⟨b3, rfl⟩ : ∃ x, x = b := ⟨_, rfl⟩
 obtain ⟨b2, rfl⟩ : ∃ x, x = b := ⟨_, rfl⟩
 obtain ⟨xb, rfl⟩ : ∃ x, x = b := ⟨_, rfl⟩
 obtain ⟨zs, hzs⟩ : ∃ zs : List Value, zs = [vw 0, vw 0, vw 0, vw 0, vw 0, vw 0, vw 0, vw 0, vw 0, vw 0, vw 0, vw 0, vw 0, vw 0, vw 0, vw 0] := ⟨_, rfl⟩
 have aZ : ∀ a, a ≤ e.fen.length → RelOk 16 (Ag (Hf e.fen) a B1) := fun a ha => loopN_ok (n := e.fen.length) (fun i q hi hq => loopN_ok (n := e.fen.length - (i + 1)) (fun d q hd hq => hq.put _ (by have := hin (i + 1 + d) (by omega); omega)) _ _ (lA5 _) hq) a _ ha zero16_ok
 refine EV.frz [(xb, Cl 37 [.slice fa e.frm.length fc, .slice da e.dn.length dc, .slice oa e.ord.length oc, .slice na e.fen.length nc])] ?_
 generalize hR : M.add _ = N
 have aA : M.le N := hR ▸ JB _ _
 have bX : rd N xb 0 4 [.slice fa e.frm.length fc, .slice da e.dn.length dc, .slice oa e.ord.length oc, .slice na e.fen.length nc] := hR ▸ An 0 rfl rfl (by simp)
 clear hR
 have d5 := bX.pt 3 1 (by omega) rfl
 simp only [lBi] at d5
 refine JC (fun a : Nat => ([(1, pv xb 0), (2, pv b2 0), (3, pv b3 0), (4, vi a)], N, [(b3, Cl 95 ((Ag (Hf e.fen) a B1).map vw)), (b2, Cl 95 zs)])) (fun a => a ≤ e.fen.length) (fun a => e.fen.length - a) 0 rfl (lA8 _) ?env1 (by subst hzs; exact lA0 _) ?_
 case env1 =>
  exact eE
 intro a ha ih
 dsimp only at ha ih ⊢
 repeat' first | refine st ?_ | refine rg ?_ | (refine cX ?_ ?_ <;> intro h <;> try exact Ah h) | (refine xn ?_; try refine nx ?_) | exact ⟨⟩ | fail
 ·have aW : a < e.fen.length := by omega
  have lR := aZ a ha
  have ihk := ih (a + 1) (by omega) (by omega)
  simp only [Ag] at ihk
  obtain ⟨fb, fo, rfl, hat⟩ := Sl.at (sz := 1) (enc := ei) (fun _ => rfl) (by decide) kf (by omega)
  have dH : ∀ k, k < e.fen.length → rd N fb (fo + k) 1 [vi (Ae e.fen k)] := fun k hk => by
   have := (hat k hk).mono aA
   rw [lAu] at this
   rw [Ae, lA2 hk]
   exact this
  have bW := dH a aW
  obtain ⟨g0, g1⟩ := hin a aW
  obtain ⟨u, hu⟩ : ∃ u : Nat, Ae e.fen a = u := ⟨(Ae e.fen a).toNat, by omega⟩
  rw [hu] at bW
  generalize Ag (Hf e.fen) a B1 = q0 at *
  refine JC (fun d : Nat => ([(1, pv xb 0), (2, pv b2 0), (3, pv b3 0), (4, vi a), (5, vi (a + 1 + d : Nat))], N, [(b3, Cl 95 ((Ag (Ps e.fen a) d q0).map vw)), (b2, Cl 95 zs)])) (fun d => d ≤ e.fen.length - (a + 1)) (fun d => e.fen.length - (a + 1) - d) 0 rfl (lA8 _) ?env2 (lA0 _) ?_
  case env2 =>
   exact eE
  intro d hd ih2
  dsimp only at hd ih2 ⊢
  obtain ⟨x, hx⟩ : ∃ x, x = a + 1 + d := ⟨_, rfl⟩
  rw [← hx]
  repeat' first | refine st ?_ | refine rg ?_ | (refine cX ?_ ?_ <;> intro h <;> try exact Ah h) | (refine xn ?_; try refine nx ?_) | exact ⟨⟩ | fail
  ·have fY : x < e.fen.length := by omega
   have hq : RelOk 16 (Ag (Ps e.fen a) d q0) := loopN_ok (n := e.fen.length - (a + 1)) (fun d q hd hq => hq.put _ (by have := hin (a + 1 + d) (by omega); omega)) d _ hd lR
   have ih3 := ih2 (d + 1) (by omega) (by omega)
   simp only [Ag, Ps] at ih3
   generalize Ag (Ps e.fen a) d q0 = q at *
   rw [← hx, show a + 1 + (d + 1) = x + 1 by omega] at ih3
   have be := dH x fY
   obtain ⟨g2, g3⟩ := hin x fY
   obtain ⟨w, hw⟩ : ∃ w : Nat, Ae e.fen x = w := ⟨(Ae e.fen x).toNat, by omega⟩
   rw [hw] at be ih3
   rw [hu] at ih3
   obtain ⟨bN, e1⟩ := hq.get (show u < 16 by omega)
   have bK := hq.at (show 16 ≤ 32 by omega) u
   rw [e1] at bK
   have dQ : q[u] < 2 ^ 64 := lAx bK (by decide)
   have fF : IntKind.u64.wrap (w : Int) = (w : Int) := Bp (by omega)
   have f7 : ¬ ((w : Int) < 0) := by omega
   have bM := Ib (show w < 64 by omega)
   have am := Ic (b := w) dQ (by omega)
   refine EV.any (t := By8) [(b3, Cl 95 (q.map vw))] (lAg _ (lAe _)) ?_
   simp only [Aj, As, Ak, Au, reduceIte, Nat.reduceEqDiff]
   repeat' first | ((first | refine zo (fun lq aD => ?_) | refine zl ?_ | refine lAb _ (lAd (Cg (f := vw) bN) ?_) | fail); (repeat first | refine nz ?_ | simp only [fF, f7, bM, am])) | (refine ZB (fun tq aB => ?_) (fun tq aB => ?_) <;> (repeat first | refine nz ?_ | simp only [fF, f7, bM, am])) | exact zn | refine ZF ?_ | ((first | refine xm ?_ | refine xn ?_ | refine xw ?_ | fail); (repeat first | refine nz ?_ | simp only [fF, f7, bM, am])) | fail
   refine ⟨by rw [lA1, hq.len]; omega, ?_⟩
   rw [Ap vw q bN]
   repeat' first | (refine zl ?_; try refine nz ?_) | refine zq (fun lq tq aD aB => ?_) | refine zf ?_ | exact ⟨⟩ | fail
   repeat' first | refine su ?_ | refine rg ?_ | exact ⟨⟩ | fail
   rw [lAy, lAy, N0, orR, e1] at ih3
   refine JA ih3 ?_ (lA0 _)
   exact eE
  ·have jz : d = e.fen.length - (a + 1) := by omega
   subst jz
   refine JA ihk ?_ (lA0 _)
   exact eE
 ·have dd : a = e.fen.length := by omega
  subst dd
  have bN := (aZ e.fen.length (lA5 _)).len
  have aS : F9 e.fen = Ag (Hf e.fen) e.fen.length B1 := rfl
  rw [aS]
  refine ⟨_, Gl (f := vw) bN, _, zs, [(b3, Cl 95 ((Ag (Hf e.fen) e.fen.length B1).map vw))], _, rfl, by subst hzs; simp, by rw [lA1, bN], fun v hv => by obtain ⟨x, _, rfl⟩ := lAk.1 hv; rfl, ?_⟩
  rw [lA1, bN, show zs.drop 16 = [] by subst hzs; rfl, lAa]
  simp only [lAp, lAj]
  (refine rt Q98_ok ?_; try with_reducible exact ⟨⟩)
  exact ⟨_, Bm (T := 95) (cs := (Ag (Hf e.fen) e.fen.length B1).map vw) (by simp) (by rw [lBr, lAw (by rw [lA1, bN]; exact lA5 _)]) (by rw [lA1, bN]; exact lA5 _), rfl⟩
end
section
variable {M : Aa}
theorem Si (o : Int) (h : B3 o = true) : Aq Tryz.prog 155 #[vi o] M (vi (Bf9 o)) := by
 rcases Ea h with rfl | rfl | rfl | rfl | rfl
 all_goals
  refine Con.enter Q65_ok (by simp [Q65]) fun w0 => ?_
  simp only [Q65, A9]
  repeat' first | refine st ?_ | refine rg ?_ | refine rt Q65_ok ?_ | (with_reducible intro b; try refine nx ?_) | refine ZF ?_ | (refine xiA rfl ?_; try refine nx ?_) | exact ⟨⟩ | fail
 all_goals rfl
theorem Qw (o : Int) (h : B3 o = true) : Aq Tryz.prog 130 #[vi o] M (vb (Dl3 o)) := by
 refine Con.enter Q66_ok (args := [vi o]) (by simp [Q66]) fun w0 => ?_
 simp only [Q66, A9]
 repeat' first | refine st ?_ | refine rg ?_ | (refine Aq.call (Si _ h) ?_; try refine nx ?_) | refine rt Q66_ok ?_ | exact ⟨⟩ | fail
 all_goals (rcases Ea h with rfl | rfl | rfl | rfl | rfl <;> (congr 1 <;> decide))
theorem Qx (o : Int) (h : B3 o = true) : Aq Tryz.prog 131 #[vi o] M (vb (Dl2 o)) := by
 refine Con.enter Q64_ok (args := [vi o]) (by simp [Q64]) fun w0 => ?_
 simp only [Q64, A9]
 repeat' first | refine st ?_ | refine rg ?_ | (refine Aq.call (Si _ h) ?_; try refine nx ?_) | refine rt Q64_ok ?_ | exact ⟨⟩ | fail
 all_goals (rcases Ea h with rfl | rfl | rfl | rfl | rfl <;> (congr 1 <;> decide))
theorem Jc (r o : Rel) (hh : RelOk 16 r) (ho : RelOk 16 o) : Aq Tryz.prog 52 #[E9 r, E9 o] M (vb (Gg r o)) := by
 refine Con.enter Q85_ok (args := [E9 r, E9 o]) (by simp [Q85]) fun w0 => ?_
 simp only [Q85, A9]
 have pG := hh.len
 have hlo := ho.len
 have kj := fun G => Gs (M := M.add G) r hh
 repeat' first | refine st ?_ | refine rg ?_ | ((first | refine Aq.call (kj _) ?_ | refine lAb _ (lAd (Gl (f := vw) pG) ?_) | fail); try refine nx ?_) | (refine cX ?_ ?_ <;> intro h <;> try exact Ah h) | (with_reducible intro b; try refine nx ?_) | exact ⟨⟩ | fail
 ·(refine rt Q85_ok ?_; try with_reducible exact ⟨⟩)
  simp only [Gg, h, Bool.true_or]
 obtain ⟨b3, rfl⟩ : ∃ x, x = b := ⟨_, rfl⟩
 obtain ⟨b2, rfl⟩ : ∃ x, x = b := ⟨_, rfl⟩
 refine JC (fun a : Nat => ([(2, pv b2 0), (3, pv b3 0), (4, vb false), (5, vi a)], M, [(b3, Cl 95 (o.map vw)), (b2, Cl 95 (r.map vw))])) (fun a => a ≤ 16 ∧ ∀ x, x < a → ∀ y, y < 16 → (A6 r x y && A6 o y x) = false) (fun a => 16 - a) 0 rfl ⟨lA8 _, fun x hx => absurd hx (lBn _)⟩ ?env1 (lA0 _) ?_
 case env1 =>
  exact eE
 rintro a ⟨ha, aI⟩ ih
 dsimp only at ha aI ih ⊢
 repeat' first | refine st ?_ | refine rg ?_ | (refine cX ?_ ?_ <;> intro h <;> try exact Ah h) | exact ⟨⟩ | fail
 ·have aW : a < 16 := by omega
  refine JC (fun c : Nat => ([(2, pv b2 0), (3, pv b3 0), (4, vb false), (5, vi a), (6, vi c)], M, [(b3, Cl 95 (o.map vw)), (b2, Cl 95 (r.map vw))])) (fun c => c ≤ 16 ∧ ∀ y, y < c → (A6 r a y && A6 o y a) = false) (fun c => 16 - c) 0 rfl ⟨lA8 _, fun x hx => absurd hx (lBn _)⟩ ?env2 (lA0 _) ?_
  case env2 =>
   exact eE
  rintro c ⟨hc, cK⟩ ih2
  dsimp only at hc cK ih2 ⊢
  repeat' first | refine st ?_ | refine rg ?_ | (refine cX ?_ ?_ <;> intro h <;> try exact Ah h) | refine ZF ?_ | exact ⟨⟩ | fail
  ·have cJ : c < 16 := by omega
   obtain ⟨dA, e1⟩ := hh.get aW
   obtain ⟨aS, e2⟩ := ho.get cJ
   have bK := hh.at (show 16 ≤ 32 by omega) a
   have bk := ho.at (show 16 ≤ 32 by omega) c
   rw [e1] at bK
   rw [e2] at bk
   have dQ : r[a] < 2 ^ 64 := lAx bK (by decide)
   have eP : o[c] < 2 ^ 64 := lAx bk (by decide)
   have jo := Ke (b := c) dQ (by omega)
   have fB := Ke (b := a) eP (by omega)
   have fG : IntKind.u64.wrap (a : Int) = (a : Int) := Bp (by omega)
   have cm : ¬ ((a : Int) < 0) := by omega
   have eD : IntKind.u64.wrap (c : Int) = (c : Int) := Bp (by omega)
   have ji : ¬ ((c : Int) < 0) := by omega
   have g1 : A6 r a c = r[a].testBit c := by simp only [A6, e1]
   have g2 : A6 o c a = o[c].testBit a := by simp only [A6, e2]
   repeat' first | refine st ?_ | (refine EV.reg ?_; (conv => (arg 2; whnf)); (repeat first | refine nx ?_ | simp only [fG, cm, eD, ji, jo, fB])) | with_reducible assumption | ((first | refine lAb _ (lAd (Cg (f := vw) aS) ?_) | refine lAb _ (lAd (Cg (f := vw) dA) ?_) | fail); (repeat first | refine nx ?_ | simp only [fG, cm, eD, ji, jo, fB])) | (refine JD ?_ (fun hc K' hK => ?_) ?_; rotate_left) | (refine cX ?_ ?_ <;> intro h <;> try exact Ah h) | refine ZF ?_ | fail
   ·have : Gg r o = true := by
     simp only [Gg, lAr, lBx, lAl]
     exact .inr ⟨a, aW, c, cJ, by rw [g1, g2]; simpa using h⟩
    (refine rt Q85_ok ?_; try with_reducible exact ⟨⟩)
    rw [this]
   ·refine JA (ih2 (c + 1) ⟨by omega, fun y hy => ?_⟩ (by omega)) ?_ (lA0 _)
    ·by_cases e : y = c
     ·subst e; rw [g1, g2, lBj]; simpa using h
     ·exact cK y (by omega)
    ·exact eE
  ·refine JA (ih (a + 1) ⟨by omega, fun x hx => ?_⟩ (by omega)) ?_ (lA0 _)
   ·by_cases e : x = a
    ·subst e; intro y hy; exact cK y (by omega)
    ·exact aI x (by omega)
   ·exact eE
 ·have kS : Be r = false := by assumption
  have : Gg r o = false := by
   cases hb : Gg r o with
   | false => rfl
   | true =>
    simp only [Gg, kS, lDw, lBx, lAl] at hb
    obtain ⟨x, hx, y, hy, ct⟩ := hb
    rw [aI x (by omega) y hy] at ct; cases ct
  (refine rt Q85_ok ?_; try with_reducible exact ⟨⟩)
  rw [this]
end
theorem seenJ_ok {e : Exec} {k i a d : Nat} {r : Rel} (h : RelOk 16 r) (hx : 0 ≤ Ae (e.ord[k]?.getD []) (i + 1 + d) ∧ Ae (e.ord[k]?.getD []) (i + 1 + d) < 16) : RelOk 16 (Qs e k i a d r) := h.put _ (by omega)
theorem seenJ2_ok {e : Exec} {k i a b d : Nat} {r : Rel} (h : RelOk 16 r) (hx : 0 ≤ Ae (e.ord[k]?.getD []) (i + 1 + d) ∧ Ae (e.ord[k]?.getD []) (i + 1 + d) < 16) : RelOk 16 (Ni e k i a b d r) := putIf_ok h _ (by omega)
theorem Aq6 {l z : List Value} (h : l.length = 16) (hz : z.length = 16) : l ++ z.drop l.length = l := by
 rw [h, lF3 (by omega), lAa]
section
variable {p : List Ev} {e : Exec} (hp : p.length ≤ 16) (hin : ∀ k, k < 3 → ∀ i, i < (e.ord[k]?.getD []).length → 0 ≤ Ae (e.ord[k]?.getD []) i ∧ Ae (e.ord[k]?.getD []) i < p.length)
include hp hin
theorem loopJ_ok {k : Nat} (hk : k < 3) {i a : Nat} : ∀ d, d ≤ (e.ord[k]?.getD []).length - (i + 1) → ∀ {r : Rel}, RelOk 16 r → RelOk 16 (Ag (Qs e k i a) d r) :=
 fun d hd r h => loopN_ok (n := (e.ord[k]?.getD []).length - (i + 1)) (fun d q hd hq => seenJ_ok hq (by have := hin k hk (i + 1 + d) (by omega); omega)) d r hd h
theorem loopJ2_ok {k : Nat} (hk : k < 3) {i a b : Nat} : ∀ d, d ≤ (e.ord[k]?.getD []).length - (i + 1) → ∀ {r : Rel}, RelOk 16 r → RelOk 16 (Ag (Ni e k i a b) d r) :=
 fun d hd r h => loopN_ok (n := (e.ord[k]?.getD []).length - (i + 1)) (fun d q hd hq => seenJ2_ok hq (by have := hin k hk (i + 1 + d) (by omega); omega)) d r hd h
theorem loopB_ok {k : Nat} (hk : k < 3) {i a : Nat} (ha : a < 16) : ∀ b, b ≤ p.length → ∀ {r : Rel}, RelOk 16 r → RelOk 16 (Ag (Tg p e k i a) b r) :=
 fun b hb r h => loopN_ok (n := p.length) (fun b q hb hq => loopJ2_ok hp hin hk _ (lA5 _) (putIf_ok hq _ ha)) b r hb h
theorem loopI_ok {k : Nat} (hk : k < 3) : ∀ i, i ≤ (e.ord[k]?.getD []).length → ∀ {r : Rel}, RelOk 16 r → RelOk 16 (Ag (Th p e k) i r) :=
 fun i hi r h => loopN_ok (n := (e.ord[k]?.getD []).length) (fun i q hi hq => loopB_ok hp hin hk (by have := hin k hk i hi; omega) _ (lA5 _) (loopJ_ok hp hin hk _ (lA5 _) hq)) i r hi h
theorem loopK_ok : ∀ k, k ≤ 3 → ∀ {r : Rel}, RelOk 16 r → RelOk 16 (Ag (Qt p e) k r) :=
 fun k hk r h => loopN_ok (n := 3) (fun k q hk hq => loopI_ok hp hin hk _ (lA5 _) hq) k r hk h
end
section
variable {M : Aa}
theorem Mf (p : List Ev) (s : Value) (hs : Sl M 6 Fq s p) (hp : p.length ≤ 16) (e : Exec) (v : Value) (hv : IsX M v e) (aj : e.frm.length = p.length) (be : ∀ i, i < p.length → Af e i < p.length)
  (eG : e.ord.length = 3) (hin : ∀ k, k < 3 → ∀ i, i < (e.ord[k]?.getD []).length → 0 ≤ Ae (e.ord[k]?.getD []) i ∧ Ae (e.ord[k]?.getD []) i < p.length) (aO : ∀ k, k < 3 → (e.ord[k]?.getD []).length ≤ 16) :
  Con Tryz.prog 54 #[s, v] M [] fun u _ _ => u = E9 (Fp p e) := by
 have aM := hs
 have bY := hv
 obtain ⟨pa, pc, rfl, an⟩ := hs
 obtain ⟨f, d, o, n, rfl, ⟨fa, fc, rfl, bc⟩, ⟨da, dc, rfl, _⟩, ⟨oa, oc, ovs, rfl, ar, bQ, bi⟩, ⟨na, nc, rfl, _⟩⟩ := hv
 obtain ⟨ob, oo, rfl, bC⟩ := Dj.at bQ ar bi (by omega)
 refine Con.enter Q95_ok (args := [.slice pa p.length pc, .agg #[.slice fa e.frm.length fc, .slice da e.dn.length dc, .slice (some ⟨ob, oo, none⟩) e.ord.length oc, .slice na e.fen.length nc]]) (by simp [Q95]) fun w0 => ?_
 simp only [Q95, A9]
 have nf := fun G => Jp (M := M.add G) p _ (aM.mono (JB _ _)) hp e _ (IsX.mono (JB _ _) bY) aj be
 repeat' first | refine st ?_ | refine rg ?_ | ((first | refine Aq.call (nf _) ?_ | with_reducible intro b | refine xrA rfl ?_ | fail); try refine nx ?_) | (refine xw ?_; refine nx ?_) | exact ⟨⟩ | fail
 obtain ⟨b5, rfl⟩ : ∃ x, x = b := ⟨_, rfl⟩
 obtain ⟨b4, rfl⟩ : ∃ x, x = b := ⟨_, rfl⟩
 obtain ⟨xb, rfl⟩ : ∃ x, x = b := ⟨_, rfl⟩
 refine ⟨by rw [lA1, Eh], fun v hv => by obtain ⟨x, _, rfl⟩ := lAk.1 hv; rfl, ?_⟩
 rw [Aq6 (by rw [lA1, Eh]) rfl]
 repeat' first | refine st ?_ | refine rg ?_ | exact ⟨⟩ | fail
 obtain ⟨zs, hzs⟩ : ∃ zs : List Value, zs = [vw 0, vw 0, vw 0, vw 0, vw 0, vw 0, vw 0, vw 0, vw 0, vw 0, vw 0, vw 0, vw 0, vw 0, vw 0, vw 0] := ⟨_, rfl⟩
 have bR := fromR_ok (e := e) hp
 refine EV.frz [(xb, Cl 37 [.slice fa e.frm.length fc, .slice da e.dn.length dc, .slice (some ⟨ob, oo, none⟩) e.ord.length oc, .slice na e.fen.length nc])] ?_
 generalize hR : M.add _ = N
 have aA : M.le N := hR ▸ JB _ _
 have bX : rd N xb 0 4 [.slice fa e.frm.length fc, .slice da e.dn.length dc, .slice (some ⟨ob, oo, none⟩) e.ord.length oc, .slice na e.fen.length nc] := hR ▸ An 0 rfl rfl (by simp)
 clear hR nf
 have cF := bX.pt 0 1 (by omega) rfl
 have bk := bX.pt 2 1 (by omega) rfl
 simp only [lBi] at cF bk
 have cS := an.mono aA
 have aL : ∀ b, b < p.length → ∃ pb po, pa = some ⟨pb, po, none⟩ ∧ rd N pb (po + b * 6) 6 (Fq (evAt p b)) := fun b hb => by
  obtain ⟨pb, po, e1, hat⟩ := Sl.at (sz := 6) (enc := Fq) (fun _ => rfl) (by decide) cS (by omega)
  have := hat b hb
  rw [← Dc hb] at this
  exact ⟨pb, po, e1, this⟩
 have cT : ∀ b, b < p.length → ∃ fb fo, fa = some ⟨fb, fo, none⟩ ∧ rd N fb (fo + b) 1 [vi (Af e b)] := fun b hb => by
  obtain ⟨fb, fo, e1, hat⟩ := Sl.at (sz := 1) (enc := ei) (fun _ => rfl) (by decide) bc (by omega)
  exact ⟨fb, fo, e1, (Cj hat b (by omega)).mono aA⟩
 have bs : ∀ k, k < 3 → ∃ a' c', rd N ob (oo + k) 1 [.slice a' (e.ord[k]?.getD []).length c'] ∧ rdS N 1 a' (e.ord[k]?.getD []).length ((e.ord[k]?.getD []).flatMap ei) := fun k hk => by
  obtain ⟨a', c', h1, _, h2⟩ := bC k (by omega)
  rw [lAu] at h1
  rw [lA2 (show k < e.ord.length by omega), lAn]
  exact ⟨a', c', h1.mono aA, h2.mono aA⟩
 clear bC bQ bi bc an cS
 refine JC (fun k : Nat => ([(0, .slice pa p.length pc), (3, pv xb 0), (4, pv b4 0), (5, pv b5 0), (6, vi k)], N, [(b5, Cl 95 ((Ag (Qt p e) k (Hr p e)).map vw)), (b4, Cl 95 zs)])) (fun k => k ≤ 3) (fun k => 3 - k) 0 rfl (lA8 _) ?env1 (by subst hzs; exact lA0 _) ?_
 case env1 =>
  exact eE
 intro k hk ih
 dsimp only at hk ih ⊢
 repeat' first | refine st ?_ | refine rg ?_ | (refine cX ?_ ?_ <;> intro h <;> try exact Ah h) | exact ⟨⟩ | fail
 ·have af : k < 3 := by omega
  have lR := loopK_ok hp hin k hk bR
  have ihk := ih (k + 1) (by omega) (by omega)
  simp only [Ag, Qt] at ihk
  obtain ⟨la, lc, ed, cn⟩ := bs k af
  have f8 := hin k af
  have qz := aO k af
  have oI := @loopI_ok p e hp hin k af
  have oB := @loopB_ok p e hp hin k af
  have oJ := @loopJ_ok p e hp hin k af
  have oJ2 := @loopJ2_ok p e hp hin k af
  generalize Ag (Qt p e) k (Hr p e) = q0 at *
  refine JC (fun i : Nat => ([(0, .slice pa p.length pc), (3, pv xb 0), (4, pv b4 0), (5, pv b5 0), (6, vi k), (7, vi i)], N, [(b5, Cl 95 ((Ag (Th p e k) i q0).map vw)), (b4, Cl 95 zs)])) (fun i => i ≤ (e.ord[k]?.getD []).length) (fun i => (e.ord[k]?.getD []).length - i) 0 rfl (lA8 _) ?env2 (lA0 _) ?_
  case env2 =>
   exact eE
  intro i hi ih2
  dsimp only at hi ih2 ⊢
  repeat' first | refine st ?_ | refine rg ?_ | (refine cX ?_ ?_ <;> intro h <;> try exact Ah h) | refine ZF ?_ | (refine xn ?_; try refine nx ?_) | exact ⟨⟩ | fail
  ·have aC : i < (e.ord[k]?.getD []).length := by omega
   have jE := oI i hi lR
   have ih3 := ih2 (i + 1) (by omega) (by omega)
   simp only [Ag, Th] at ih3
   obtain ⟨wb, wo, rfl, bA⟩ := Sl.at (sz := 1) (enc := ei) (fun _ => rfl) (by decide) cn (by omega)
   have dH := Cj bA
   obtain ⟨a, ha⟩ : ∃ a : Nat, Ae (e.ord[k]?.getD []) i = a := ⟨(Ae (e.ord[k]?.getD []) i).toNat, by have := f8 i aC; omega⟩
   have kg := dH i aC
   have jX : a < p.length := by have := f8 i aC; omega
   rw [ha, lAy] at ih3
   rw [ha] at kg
   have oB := @oB i a (by omega)
   have oJ := fun d hd => @oJ i a d hd _ jE
   have oJ2 := @oJ2 i a
   generalize hL : (e.ord[k]?.getD []) = L at *
   generalize Ag (Th p e k) i q0 = q1 at *
   repeat' first | refine st ?_ | refine rg ?_ | refine ZF ?_ | (refine xm ?_; try refine nx ?_) | exact ⟨⟩ | fail
   refine JC (fun d : Nat => ([(0, .slice pa p.length pc), (3, pv xb 0), (4, pv b4 0), (5, pv b5 0), (6, vi k), (7, vi i), (8, vi a), (9, vi (i + 1 + d : Nat))], N, [(b5, Cl 95 ((Ag (Qs e k i a) d q1).map vw)), (b4, Cl 95 zs)])) (fun d => d ≤ L.length - (i + 1)) (fun d => L.length - (i + 1) - d) 0 rfl (lA8 _) ?env3 (lA0 _) ?_
   case env3 =>
    exact eE
   intro d hd ih4
   dsimp only at hd ih4 ⊢
   obtain ⟨x, hx⟩ : ∃ x, x = i + 1 + d := ⟨_, rfl⟩
   rw [← hx]
   repeat' first | refine st ?_ | refine rg ?_ | (refine cX ?_ ?_ <;> intro h <;> try exact Ah h) | refine ZF ?_ | (refine xn ?_; try refine nx ?_) | exact ⟨⟩ | fail
   ·have fY : x < L.length := by omega
    have hq := oJ d hd
    have ih5 := ih4 (d + 1) (by omega) (by omega)
    simp only [Ag, Qs, hL] at ih5
    generalize Ag (Qs e k i a) d q1 = q at *
    rw [← hx, show i + 1 + (d + 1) = x + 1 by omega] at ih5
    have fx := dH x fY
    have rA := f8 x fY
    obtain ⟨w, hw⟩ : ∃ w : Nat, Ae L x = w := ⟨(Ae L x).toNat, by omega⟩
    rw [hw] at fx ih5
    obtain ⟨bN, e1⟩ := hq.get (show a < 16 by omega)
    have bK := hq.at (show 16 ≤ 32 by omega) a
    rw [e1] at bK
    have dQ : q[a] < 2 ^ 64 := lAx bK (by decide)
    have fF : IntKind.u64.wrap (w : Int) = (w : Int) := Bp (by omega)
    have f7 : ¬ ((w : Int) < 0) := by omega
    have bM := Ib (show w < 64 by omega)
    have am := Ic (b := w) dQ (by omega)
    refine EV.any (t := Bz4) [(b5, Cl 95 (q.map vw))] (lAg _ (lAe _)) ?_
    simp only [Aj, As, Ak, Au, reduceIte, Nat.reduceEqDiff]
    repeat' first | ((first | refine zo (fun lq aD => ?_) | refine zl ?_ | refine lAb _ (lAd (Cg (f := vw) bN) ?_) | fail); (repeat first | refine nz ?_ | simp only [fF, f7, bM, am])) | (refine ZB (fun tq aB => ?_) (fun tq aB => ?_) <;> (repeat first | refine nz ?_ | simp only [fF, f7, bM, am])) | exact zn | refine ZF ?_ | ((first | refine xm ?_ | refine xn ?_ | refine xw ?_ | fail); (repeat first | refine nz ?_ | simp only [fF, f7, bM, am])) | fail
    refine ⟨by rw [lA1, hq.len]; omega, ?_⟩
    rw [Ap vw q bN]
    repeat' first | (refine zl ?_; try refine nz ?_) | refine zq (fun lq tq aD aB => ?_) | refine zf ?_ | exact ⟨⟩ | fail
    repeat' first | refine su ?_ | refine rg ?_ | exact ⟨⟩ | fail
    rw [lAy, N0, orR, e1] at ih5
    refine JA ih5 ?_ (lA0 _)
    exact eE
   ·have jz : d = L.length - (i + 1) := by omega
    subst jz
    have lJ := oJ _ (lA5 _)
    generalize Ag (Qs e k i a) (L.length - (i + 1)) q1 = q2 at *
    repeat' first | fail
    refine JC (fun c : Nat => ([(0, .slice pa p.length pc), (3, pv xb 0), (4, pv b4 0), (5, pv b5 0), (6, vi k), (7, vi i), (8, vi a), (10, vi c)], N, [(b5, Cl 95 ((Ag (Tg p e k i a) c q2).map vw)), (b4, Cl 95 zs)])) (fun c => c ≤ p.length) (fun c => p.length - c) 0 rfl (lA8 _) ?env4 (lA0 _) ?_
    case env4 =>
     exact eE
    intro c hc ih4
    dsimp only at hc ih4 ⊢
    refine EV.seq ?_
    refine EV.seq ?_
    repeat' first | refine su ?_ | refine rg ?_ | (refine cX ?_ ?_ <;> intro h <;> try exact Ah h) | exact ⟨⟩ | fail
    ·have cJ : c < p.length := by omega
     have pA := oB c hc lJ
     have ih5 := ih4 (c + 1) (by omega) (by omega)
     simp only [Ag, Tg, hL] at ih5
     generalize Ag (Tg p e k i a) c q2 = q3 at *
     obtain ⟨pb, po, rfl, eL⟩ := aL c cJ
     obtain ⟨fb, fo, rfl, iQ⟩ := cT c cJ
     have cW : rd N pb (po + c * 6 + 1 + 1) 1 [vi (evAt p c).op.loc] := eL.pt 2 1 (by omega) rfl
     obtain ⟨aS, e1⟩ := pA.get (show c < 16 by omega)
     have bK := pA.at (show 16 ≤ 32 by omega) c
     rw [e1] at bK
     have dQ : q3[c] < 2 ^ 64 := lAx bK (by decide)
     have fG : IntKind.u64.wrap (a : Int) = (a : Int) := Bp (by omega)
     have cm : ¬ ((a : Int) < 0) := by omega
     have bM := Ib (show a < 64 by omega)
     have am := Ic (b := a) dQ (by omega)
     have un : RelOk 16 (Hq (decide (Af e c = -1) && decide ((evAt p c).op.loc = (k : Int)) && decide (a ≠ c)) q3 c a) := putIf_ok pA _ (by omega)
     have oJ3 := fun d hd => @oJ2 c d hd _ un
     generalize rB : Hq (decide (Af e c = -1) && decide ((evAt p c).op.loc = (k : Int)) && decide (a ≠ c)) q3 c a = q4 at *
     refine EV.seq ?_
     refine EV.block ?_
     refine EV.seq (JI (fun ρ' M' G' => M' = N ∧ (∀ q ∈ [(0, .slice (some ⟨pb, po, none⟩) p.length pc), (3, pv xb 0), (4, pv b4 0), (5, pv b5 0), (6, vi k), (7, vi i), (8, vi a), (10, vi c)], get ρ' q.1 = some q.2) ∧ G' = [(b5, Cl 95 (q4.map vw)), (b4, Cl 95 zs)]) ?_ ?_)
     ·intro k' key
      clear ih ihk ih2 ih3 ih4 ih5
      rw [← rB] at key
      repeat' first | refine st ?_ | (refine EV.reg ?_; (conv => (arg 2; whnf)); (repeat first | refine nx ?_ | simp only [fG, cm, bM, am])) | with_reducible assumption | (refine lAb _ (lAd (Cg (f := vw) aS) ?_); (repeat first | refine nx ?_ | simp only [fG, cm, bM, am])) | (refine JD ?_ (fun hc K' hK => ?_) ?_; rotate_left) | (refine cX ?_ ?_ <;> intro h <;> try exact Ah h) | refine ZF ?_ | ((first | refine xm ?_ | refine xn ?_ | fail); (repeat first | refine nx ?_ | simp only [fG, cm, bM, am])) | (refine xw ?_; (repeat first | refine nx ?_ | simp only [fG, cm, bM, am])) | fail
      ·refine ⟨by rw [lA1, pA.len]; omega, ?_⟩
       rw [Ap vw q3 aS]
       rw [Hq, if_pos (by simp at h ⊢; omega), N0, orR, e1] at key
       refine JH (key _ _ _ ⟨rfl, ?_, rfl⟩)
       exact eE
      ·rw [Hq, if_neg (by simp at h ⊢; omega)] at key
       refine JH (key _ _ _ ⟨rfl, ?_, rfl⟩)
       exact eE
     rintro ρ' M' G' ⟨e0, hρ, e2⟩
     rw [e0, e2]
     clear e0 e2
     refine JA (ρ' := [(0, .slice (some ⟨pb, po, none⟩) p.length pc), (3, pv xb 0), (4, pv b4 0), (5, pv b5 0), (6, vi k), (7, vi i), (8, vi a), (10, vi c)]) ?_ hρ (lA0 _)
     repeat' first | refine st ?_ | refine rg ?_ | exact ⟨⟩ | fail
     refine JC (fun d : Nat => ([(0, .slice (some ⟨pb, po, none⟩) p.length pc), (3, pv xb 0), (4, pv b4 0), (5, pv b5 0), (6, vi k), (7, vi i), (8, vi a), (10, vi c), (11, vi (i + 1 + d : Nat))], N, [(b5, Cl 95 ((Ag (Ni e k i a c) d q4).map vw)), (b4, Cl 95 zs)])) (fun d => d ≤ L.length - (i + 1)) (fun d => L.length - (i + 1) - d) 0 rfl (lA8 _) ?env5 (lA0 _) ?_
     case env5 =>
      exact eE
     intro d hd ih6
     dsimp only at hd ih6 ⊢
     obtain ⟨x, hx⟩ : ∃ x, x = i + 1 + d := ⟨_, rfl⟩
     rw [← hx]
     refine EV.seq ?_
     refine EV.seq ?_
     repeat' first | refine su ?_ | refine rg ?_ | (refine cX ?_ ?_ <;> intro h <;> try exact Ah h) | refine ZF ?_ | (refine xn ?_; try refine nx ?_) | exact ⟨⟩ | fail
     ·have fY : x < L.length := by omega
      have rC := oJ3 d hd
      have ih7 := ih6 (d + 1) (by omega) (by omega)
      simp only [Ag, Ni, hL] at ih7
      generalize Ag (Ni e k i a c) d q4 = q5 at *
      rw [← hx, show i + 1 + (d + 1) = x + 1 by omega] at ih7
      have fx := dH x fY
      have rA := f8 x fY
      obtain ⟨w, hw⟩ : ∃ w : Nat, Ae L x = w := ⟨(Ae L x).toNat, by omega⟩
      rw [hw] at fx ih7
      obtain ⟨ng, e5⟩ := rC.get (show c < 16 by omega)
      have oy := rC.at (show 16 ≤ 32 by omega) c
      rw [e5] at oy
      have uq : q5[c] < 2 ^ 64 := lAx oy (by decide)
      have fy : IntKind.u64.wrap (w : Int) = (w : Int) := Bp (by omega)
      have cl : ¬ ((w : Int) < 0) := by omega
      have ge := Ib (show w < 64 by omega)
      have lX := Ic (b := w) uq (by omega)
      repeat' first | refine st ?_ | refine rg ?_ | with_reducible assumption | (refine JD ?_ (fun hc K' hK => ?_) ?_; rotate_left) | (refine cX ?_ ?_ <;> intro h <;> try exact Ah h) | refine ZF ?_ | ((first | refine xm ?_ | refine xn ?_ | fail); try refine nx ?_) | exact ⟨⟩ | fail
      ·refine EV.any (t := At1) [(b5, Cl 95 (q5.map vw))] (lAg _ (lAe _)) ?_
       simp only [Aj, As, Ak, Au, reduceIte, Nat.reduceEqDiff]
       repeat' first | ((first | refine zo (fun lq aD => ?_) | refine zl ?_ | refine lAb _ (lAd (Cg (f := vw) ng) ?_) | fail); (repeat first | refine nz ?_ | simp only [fy, cl, ge, lX])) | (refine ZB (fun tq aB => ?_) (fun tq aB => ?_) <;> (repeat first | refine nz ?_ | simp only [fy, cl, ge, lX])) | exact zn | refine ZF ?_ | ((first | refine xm ?_ | refine xn ?_ | refine xw ?_ | fail); (repeat first | refine nz ?_ | simp only [fy, cl, ge, lX])) | fail
       refine ⟨by rw [lA1, rC.len]; omega, ?_⟩
       rw [Ap vw q5 ng]
       repeat' first | (refine zl ?_; try refine nz ?_) | refine zq (fun lq tq aD aB => ?_) | refine zf ?_ | exact ⟨⟩ | fail
       repeat' first | refine su ?_ | refine rg ?_ | exact ⟨⟩ | fail
       rw [Hq, if_pos (by simp at h ⊢; omega), lAy, N0, orR, e5] at ih7
       refine JA ih7 ?_ (lA0 _)
       exact eE
      ·rw [Hq, if_neg (by simp at h ⊢; omega)] at ih7
       refine JA ih7 ?_ (lA0 _)
       exact eE
     ·have jz : d = L.length - (i + 1) := by omega
      subst jz
      refine JA ih5 ?_ (lA0 _)
      exact eE
    ·have kA : c = p.length := by omega
     subst kA
     refine JA ih3 ?_ (lA0 _)
     exact eE
  ·have bO : i = (e.ord[k]?.getD []).length := by omega
   subst bO
   refine JA ihk ?_ (lA0 _)
   exact eE
 ·have eH : k = 3 := by omega
  subst eH
  have cH := loopK_ok hp hin 3 (lA5 _) bR
  have aS : Fp p e = Ca (Ag (Qt p e) 3 (Hr p e)) := rfl
  rw [aS]
  generalize Ag (Qt p e) 3 (Hr p e) = q at *
  have dI := fun G => Fa (M := N.add G) q cH
  repeat' first | ((first | refine Aq.call (dI _) ?_ | refine lAb _ (lAd (Gl (f := vw) cH.len) ?_) | fail); try refine nx ?_) | (refine xw ?_; refine nx ?_) | exact ⟨⟩ | fail
  refine ⟨by subst hzs; simp, by rw [lA1, cH.close.len], fun v hv => by obtain ⟨x, _, rfl⟩ := lAk.1 hv; rfl, ?_⟩
  rw [Aq6 (by rw [lA1, cH.close.len]) (by subst hzs; rfl)]
  (refine rt Q95_ok ?_; try with_reducible exact ⟨⟩)
  exact ⟨_, Bm (T := 95) (cs := (Ca q).map vw) (by simp) (by rw [lBr, lAw (by rw [lA1, cH.close.len]; exact lA5 _)]) (by rw [lA1, cH.close.len]; exact lA5 _), rfl⟩
end
section
variable {p : List Ev} (hp : p.length ≤ 16)
include hp
theorem Au9 (w : Nat) : ∀ m, m ≤ p.length → Ag (fun a s => Gf (gr p w a) s a) m 0 < 2 ^ 16 := fun m hm => Lh (n := p.length) (fun i s hi hs => Oc hs (by omega)) m 0 hm (by decide)
theorem Di4 (w : Nat) : ∀ m, m ≤ p.length → Ag (fun a s => Gf (tlC p w a) s a) m 0 < 2 ^ 16 := fun m hm => Lh (n := p.length) (fun i s hi hs => Oc hs (by omega)) m 0 hm (by decide)
end
theorem Xs {C : Cx Tryz.prog} {k : List RItem} {p : List Ev} {N : Aa} {pb po pc xb b4 b5 w c ch : Nat} {G : Own} (hp : p.length ≤ 16) (bJ : Aa4 p) (f5 : ∀ b, b < p.length → rd N pb (po + b * 6) 6 (Fq (evAt p b))) (gN : w < p.length) (cJ : c < p.length)
  (key : EV C [0, 1, 3, 4, 5, 6, 7, 8, 9, 10, 11, 12, 13, 14, 15] k [(0, .slice (some ⟨pb, po, none⟩) p.length pc), (3, pv xb 0), (4, pv b4 0), (5, pv b5 0), (6, vi w), (7, vw ch), (10, vi c), (11, vw (jT p w)), (12, vw (tlW p c))] N G) :
  EV C [0, 1, 3, 4, 5, 6, 7, 8, 9, 10, 11, 12, 13, 14, 15] (.code (.loop Ag2) :: .inBlock 8 :: k)
   [(13, vi 0), (0, .slice (some ⟨pb, po, none⟩) p.length pc), (3, pv xb 0), (4, pv b4 0), (5, pv b5 0), (6, vi w), (7, vw ch), (10, vi c), (11, vw 0), (12, vw 0)] N G := by
 refine JC (fun a : Nat => ([(0, .slice (some ⟨pb, po, none⟩) p.length pc), (3, pv xb 0), (4, pv b4 0), (5, pv b5 0), (6, vi w), (7, vw ch), (10, vi c), (11, vw (Ag (fun a s => Gf (gr p w a) s a) a 0)), (12, vw (Ag (fun a s => Gf (tlC p c a) s a) a 0)), (13, vi a)], N, G)) (fun a => a ≤ p.length) (fun a => p.length - a) 0 rfl (lA8 _) ?env1 (lA0 _) ?_
 case env1 =>
  exact eE
 intro a ha ih
 dsimp only at ha ih ⊢
 refine EV.seq ?_
 refine EV.seq ?_
 repeat' first | refine su ?_ | refine rg ?_ | (refine cX ?_ ?_ <;> intro h <;> try exact Ah h) | exact ⟨⟩ | fail
 ·have aW : a < p.length := by omega
  have ih2 := ih (a + 1) (by omega) (by omega)
  simp only [Ag] at ih2
  have fw := Au9 hp w a ha
  have jD := Di4 hp c a ha
  generalize Ag (fun a s => Gf (gr p w a) s a) a 0 = m1 at *
  generalize Ag (fun a s => Gf (tlC p c a) s a) a 0 = m2 at *
  have dQ : m1 < 2 ^ 64 := lAx fw (by decide)
  have eP : m2 < 2 ^ 64 := lAx jD (by decide)
  have fG : IntKind.u64.wrap (a : Int) = (a : Int) := Bp (by omega)
  have cm : ¬ ((a : Int) < 0) := by omega
  have iW := Ib (show a < 64 by omega)
  have rD := Ic (b := a) dQ (by omega)
  have rE := Ic (b := a) eP (by omega)
  have tP := f5 a aW
  have ur : rd N pb (po + a * 6 + 1) 5 [vi (evAt p a).op.kind, vi (evAt p a).op.loc, vi (evAt p a).op.v, vi (evAt p a).op.w, vi (evAt p a).op.ord] := tP.pt 1 5 (by omega) rfl
  have rF : rd N pb (po + a * 6 + 0) 1 [vi (evAt p a).th] := tP.pt 0 1 (by omega) rfl
  have rG : rd N pb (po + w * 6 + 0) 1 [vi (evAt p w).th] := (f5 w gN).pt 0 1 (by omega) rfl
  have rH : rd N pb (po + c * 6 + 0) 1 [vi (evAt p c).th] := (f5 c cJ).pt 0 1 (by omega) rfl
  simp only [lDc] at rF rG rH
  have f9 := bJ a aW
  have rI := fun G => Qw (M := N.add G) _ f9
  have rJ := fun G => Qx (M := N.add G) _ f9
  generalize lY : (evAt p a).op = o at *
  refine EV.seq ?_
  refine EV.block ?_
  refine EV.seq ?_
  repeat' first | refine rg ?_ | (with_reducible intro b; try refine nx ?_) | refine ZF ?_ | (refine xm ?_; try refine nx ?_) | (refine xw ?_; refine nx ?_) | exact ⟨⟩ | fail
  have ip := An (M := N) (G := (b, Cl 83 [vi o.kind, vi o.loc, vi o.v, vi o.w, vi o.ord]) :: G) (b := b) (off := 4) (n := 1) 0 rfl rfl (by simp)
  have ut := An (M := N) (G := (b, Cl 83 [vi o.kind, vi o.loc, vi o.v, vi o.w, vi o.ord]) :: G) (b := b) (off := 0) (n := 1) 0 rfl rfl (by simp)
  refine EV.seq (JI (fun ρ' M' G' => M' = N ∧ (∀ q ∈ [(0, .slice (some ⟨pb, po, none⟩) p.length pc), (3, pv xb 0), (4, pv b4 0), (5, pv b5 0), (6, vi w), (7, vw ch), (10, vi c), (11, vw (Gf (gr p w a) m1 a)), (12, vw m2), (13, vi a), (14, pv b 0)], get ρ' q.1 = some q.2) ∧ G' = (b, Cl 83 [vi o.kind, vi o.loc, vi o.v, vi o.w, vi o.ord]) :: G) ?_ ?_)
  ·intro k' key2
   clear ih ih2
   refine EV.seq ?_
   refine EV.any (t := At3) [(b, Cl 83 [vi o.kind, vi o.loc, vi o.v, vi o.w, vi o.ord])] (lAg _ (lAe _)) ?_
   simp only [Aj, As, Ak, Au, reduceIte, Nat.reduceEqDiff]
   repeat' first | ((refine ZE ?_ (fun lq aD hc => ?_) (fun lq aD => ?_); rotate_left) <;> (try (exfalso; simp at hc; done)) <;> try refine nz ?_) | ((first | refine zo (fun lq aD => ?_) | refine zl ?_ | refine lAb _ (lAd (rI _) ?_) | fail); try refine nz ?_) | refine zf ?_ | with_reducible rfl | refine ZF ?_ | ((first | refine xm ?_ | refine xiA rfl ?_ | fail); try refine nz ?_) | exact ⟨⟩ | fail
   have hh : (Dl3 o.ord && (decide ((a : Int) = (w : Int)) || decide (o.kind = 5) && decide ((evAt p a).th = (evAt p w).th) && decide ((a : Int) < (w : Int)))) = gr p w a := by
    simp [gr, Ev.rel, lY, Int.natCast_inj, Int.ofNat_lt]
   rw [hh]
   generalize gr p w a = y at *
   repeat' first | refine su ?_ | (refine EV.reg ?_; (conv => (arg 2; whnf)); (repeat first | refine nx ?_ | simp only [fG, cm, iW, rD])) | (refine cX ?_ ?_ <;> intro h <;> try exact Ah h) | fail
   ·rw [Gf, if_pos h] at key2
    refine JH (key2 _ _ _ ⟨rfl, ?_, rfl⟩)
    exact eE
   ·rw [Gf, if_neg (by rw [h]; decide)] at key2
    refine JH (key2 _ _ _ ⟨rfl, ?_, rfl⟩)
    exact eE
  ·rintro ρ' M' G' ⟨e0, hρ, e2⟩
   rw [e0, e2]
   clear e0 e2
   generalize Gf (gr p w a) m1 a = m3 at *
   refine JA (ρ' := [(0, .slice (some ⟨pb, po, none⟩) p.length pc), (3, pv xb 0), (4, pv b4 0), (5, pv b5 0), (6, vi w), (7, vw ch), (10, vi c), (11, vw m3), (12, vw m2), (13, vi a), (14, pv b 0)]) ?_ hρ (lA0 _)
   refine EV.seq ?_
   refine EV.any (t := At4) [(b, Cl 83 [vi o.kind, vi o.loc, vi o.v, vi o.w, vi o.ord])] (lAg _ (lAe _)) ?_
   simp only [Aj, As, Ak, Au, reduceIte, Nat.reduceEqDiff]
   repeat' first | ((refine ZE ?_ (fun lq aD hc => ?_) (fun lq aD => ?_); rotate_left) <;> (try (exfalso; simp at hc; done)) <;> try refine nz ?_) | ((first | refine zo (fun lq aD => ?_) | refine zl ?_ | refine lAb _ (lAd (rJ _) ?_) | fail); try refine nz ?_) | refine zf ?_ | with_reducible rfl | refine ZF ?_ | ((first | refine xm ?_ | refine xiA rfl ?_ | fail); try refine nz ?_) | exact ⟨⟩ | fail
   have hh : (Dl2 o.ord && (decide ((a : Int) = (c : Int)) || decide (o.kind = 5) && decide ((evAt p a).th = (evAt p c).th) && decide ((c : Int) < (a : Int)))) = tlC p c a := by
    simp [tlC, Ev.acq, lY, Int.natCast_inj, Int.ofNat_lt]
   rw [hh]
   generalize tlC p c a = y at *
   repeat' first | refine su ?_ | (refine EV.reg ?_; (conv => (arg 2; whnf)); (repeat first | refine nx ?_ | simp only [fG, cm, iW, rE])) | (refine cX ?_ ?_ <;> intro h <;> try exact Ah h) | fail
   ·rw [Gf, if_pos h] at ih2
    refine JA ih2 ?_ (lAq _ (lA0 _))
    exact eE
   ·rw [Gf, if_neg (by rw [h]; decide)] at ih2
    refine JA ih2 ?_ (lAq _ (lA0 _))
    exact eE
 ·have dd : a = p.length := by omega
  subst dd
  repeat' first | fail
  refine JA key ?_ (lA0 _)
  exact eE
theorem loopMA_ok {p : List Ev} (hp : p.length ≤ 16) {w b : Nat} : ∀ m, m ≤ p.length → ∀ {r : Rel}, RelOk 16 r → RelOk 16 (Ag (mtA p w b) m r) := fun m hm r h => loopN_ok (n := p.length) (fun a q ha hq => by
 unfold mtA; split
 ·exact hq.or a (Ak4 hp b)
 ·exact hq) m r hm h
theorem Ac2 {C : Cx Tryz.prog} {k : List RItem} {p : List Ev} {N : Aa} {pb po pc xb b4 b5 w c ch : Nat} {zs : List Value} {q1 : Rel} (hp : p.length ≤ 16) (jE : RelOk 16 q1)
  (key : EV C [0, 1, 3, 4, 5, 6, 7, 8, 9, 10, 11, 12, 13, 14, 15] k [(0, .slice (some ⟨pb, po, none⟩) p.length pc), (3, pv xb 0), (4, pv b4 0), (5, pv b5 0), (6, vi w), (7, vw ch), (10, vi c)] N [(b5, Cl 95 ((Ag (mtA p w c) p.length q1).map vw)), (b4, Cl 95 zs)]) :
  EV C [0, 1, 3, 4, 5, 6, 7, 8, 9, 10, 11, 12, 13, 14, 15] (.code (.seq (.reg At5) (.block 10 (.loop Ag3))) :: k)
   [(0, .slice (some ⟨pb, po, none⟩) p.length pc), (3, pv xb 0), (4, pv b4 0), (5, pv b5 0), (6, vi w), (7, vw ch), (10, vi c), (11, vw (jT p w)), (12, vw (tlW p c))] N [(b5, Cl 95 (q1.map vw)), (b4, Cl 95 zs)] := by
 have rK : jT p w < 2 ^ 16 := Au9 hp w _ (lA5 _)
 have mT := Ak4 hp c
 have rL : jT p w < 2 ^ 64 := lAx rK (by decide)
 have rM : tlW p c < 2 ^ 64 := lAx mT (by decide)
 repeat' first | refine st ?_ | refine rg ?_ | exact ⟨⟩ | fail
 refine JC (fun a : Nat => ([(0, .slice (some ⟨pb, po, none⟩) p.length pc), (3, pv xb 0), (4, pv b4 0), (5, pv b5 0), (6, vi w), (7, vw ch), (10, vi c), (11, vw (jT p w)), (12, vw (tlW p c)), (15, vi a)], N, [(b5, Cl 95 ((Ag (mtA p w c) a q1).map vw)), (b4, Cl 95 zs)])) (fun a => a ≤ p.length) (fun a => p.length - a) 0 rfl (lA8 _) ?env1 (lA0 _) ?_
 case env1 =>
  exact eE
 intro a ha ih
 dsimp only at ha ih ⊢
 refine EV.seq ?_
 refine EV.seq ?_
 repeat' first | refine su ?_ | refine rg ?_ | (refine cX ?_ ?_ <;> intro h <;> try exact Ah h) | exact ⟨⟩ | fail
 ·have aW : a < p.length := by omega
  have hq := loopMA_ok (w := w) (b := c) hp a ha jE
  have ih2 := ih (a + 1) (by omega) (by omega)
  simp only [Ag, mtA] at ih2
  generalize Ag (mtA p w c) a q1 = q at *
  generalize jT p w = hd at *
  generalize tlW p c = tl at *
  have fG : IntKind.u64.wrap (a : Int) = (a : Int) := Bp (by omega)
  have cm : ¬ ((a : Int) < 0) := by omega
  have az := Ke (b := a) rL (by omega)
  obtain ⟨dA, e1⟩ := hq.get (show a < 16 by omega)
  have bK := hq.at (show 16 ≤ 32 by omega) a
  rw [e1] at bK
  have dQ : q[a] < 2 ^ 64 := lAx bK (by decide)
  have am := Y4 dQ rM
  repeat' first | refine st ?_ | (refine EV.reg ?_; (conv => (arg 2; whnf)); (repeat first | refine nx ?_ | simp only [fG, cm, az, am])) | (refine lAb _ (lAd (Cg (f := vw) dA) ?_); (repeat first | refine nx ?_ | simp only [fG, cm, az, am])) | (refine cX ?_ ?_ <;> intro h <;> try exact Ah h) | refine ZF ?_ | (refine xw ?_; (repeat first | refine nx ?_ | simp only [fG, cm, az, am])) | fail
  ·refine ⟨by rw [lA1, hq.len]; omega, ?_⟩
   rw [Ap vw q dA]
   repeat' first | refine su ?_ | refine rg ?_ | exact ⟨⟩ | fail
   rw [if_pos (by simpa using h), orR, e1] at ih2
   refine JA ih2 ?_ (lA0 _)
   exact eE
  ·rw [if_neg (by simpa using h)] at ih2
   refine JA ih2 ?_ (lA0 _)
   exact eE
 ·have dd : a = p.length := by omega
  subst dd
  repeat' first | fail
  refine JA key ?_ (lA0 _)
  exact eE
theorem Av0 (r : Rel) : ok1 (r.map vw) := fun v hv => by obtain ⟨x, _, rfl⟩ := lAk.1 hv; rfl
theorem Za {x b : Nat} (hx : x < 2 ^ 64) (hb : b < 64) : decide (IntKind.u64.wrap ((BitVec.ofInt IntKind.u64.bits ((x : Int).fdiv (2 ^ min b IntKind.u64.bits)) &&& BitVec.ofInt IntKind.u64.bits 1).toNat : Int) = 0) = !x.testBit b := by
 have h := Ke hx hb
 have e0 : min b IntKind.u64.bits = b := lC0 (show b ≤ 64 by omega)
 rw [e0] at h ⊢
 have e1 : (x : Int).fdiv (2 ^ b) = ((x / 2 ^ b : Nat) : Int) := by
  rw [lDs _ (by exact_mod_cast lA8 _)]; simp
 have hd : x / 2 ^ b < 2 ^ 64 := lEg (lFi _ _) hx
 rw [e1, Y3 hd] at h ⊢
 have e : (BitVec.ofNat 64 (x / 2 ^ b) &&& BitVec.ofInt 64 1).toNat = (x / 2 ^ b) % 2 := by
  rw [lFc, lD5, lCh hd]
  show (x / 2 ^ b) &&& 1 = _
  exact lEx _
 have e2 : IntKind.u64.wrap ((BitVec.ofNat 64 (x / 2 ^ b) &&& BitVec.ofInt 64 1).toNat : Int) = ((x / 2 ^ b % 2 : Nat) : Int) := by rw [e, Bp (by omega)]
 change decide (IntKind.u64.wrap ((BitVec.ofNat 64 (x / 2 ^ b) &&& BitVec.ofInt 64 1).toNat : Int) = 1) = _ at h
 change decide (IntKind.u64.wrap ((BitVec.ofNat 64 (x / 2 ^ b) &&& BitVec.ofInt 64 1).toNat : Int) = 0) = _
 rw [e2] at h ⊢
 rw [← h, ← decide_not, decide_eq_decide]
 omega
section
variable {p : List Ev} {e : Exec} (hp : p.length ≤ 16)
include hp
theorem Zd {c : Nat} (hc : c < 2 ^ 16) : ∀ m, m ≤ p.length → Ag (chS e) m c < 2 ^ 16 := fun m hm => Lh (n := p.length) (fun i s hi hs => Oc hs (by omega)) m c hm hc
theorem Al5 {w : Nat} (hw : w < p.length) : ∀ k, chN p e k w < 2 ^ 16
 | 0 => lBk (by decide) (by omega)
 | k + 1 => by
  show Di3 p e (chN p e k w) < 2 ^ 16
  exact Zd hp (Al5 hw k) _ (lA5 _)
theorem loopMB_ok {w : Nat} : ∀ m, m ≤ p.length → ∀ {r : Rel}, RelOk 16 r → RelOk 16 (Ag (mtB p e w) m r) := fun m hm r h => loopN_ok (n := p.length) (fun b q hb hq => by
 unfold mtB; split
 ·exact hq
 ·exact loopMA_ok hp _ (lA5 _) hq) m r hm h
theorem loopMW_ok : ∀ m, m ≤ p.length → ∀ {r : Rel}, RelOk 16 r → RelOk 16 (Ag (mtW p e) m r) := fun m hm r h => loopN_ok (n := p.length) (fun w q hw hq => by
 unfold mtW; split
 ·exact loopMB_ok hp _ (lA5 _) hq
 ·exact hq) m r hm h
end
section
variable {M : Aa}
theorem Xt (p : List Ev) (s : Value) (hs : Sl M 6 Fq s p) (hp : p.length ≤ 16) (bJ : Aa4 p) (e : Exec) (v : Value) (hv : IsX M v e) (aj : e.frm.length = p.length) (ax : e.dn.length = p.length) (be : ∀ i, i < p.length → Af e i < p.length) :
  Con Tryz.prog 95 #[s, v] M [] fun u _ _ => u = E9 (Li p e) := by
 obtain ⟨pa, pc, rfl, an⟩ := hs
 obtain ⟨f, d, o, n, rfl, ⟨fa, fc, rfl, bc⟩, ⟨da, dc, rfl, aH⟩, ⟨oa, oc, ovs, rfl, ar, bQ, bi⟩, ⟨na, nc, rfl, _⟩⟩ := hv
 refine Con.enter Q91_ok (args := [.slice pa p.length pc, .agg #[.slice fa e.frm.length fc, .slice da e.dn.length dc, .slice oa e.ord.length oc, .slice na e.fen.length nc]]) (by simp [Q91]) fun w0 => ?_
 simp only [Q91, A9]
 repeat' first | refine st ?_ | refine rg ?_ | (with_reducible intro b; try refine nx ?_) | exact ⟨⟩ | fail
 obtain ⟨b5, rfl⟩ : ∃ x, x = b := ⟨_, rfl⟩
 obtain ⟨b4, rfl⟩ : ∃ x, x = b := ⟨_, rfl⟩
 obtain ⟨xb, rfl⟩ : ∃ x, x = b := ⟨_, rfl⟩
 obtain ⟨zs, hzs⟩ : ∃ zs : List Value, zs = [vw 0, vw 0, vw 0, vw 0, vw 0, vw 0, vw 0, vw 0, vw 0, vw 0, vw 0, vw 0, vw 0, vw 0, vw 0, vw 0] := ⟨_, rfl⟩
 refine EV.frz [(xb, Cl 37 [.slice fa e.frm.length fc, .slice da e.dn.length dc, .slice oa e.ord.length oc, .slice na e.fen.length nc])] ?_
 generalize hR : M.add _ = N
 have aA : M.le N := hR ▸ JB _ _
 have bX : rd N xb 0 4 [.slice fa e.frm.length fc, .slice da e.dn.length dc, .slice oa e.ord.length oc, .slice na e.fen.length nc] := hR ▸ An 0 rfl rfl (by simp)
 clear hR
 have cF := bX.pt 0 1 (by omega) rfl
 have bK := bX.pt 1 1 (by omega) rfl
 simp only [lBi] at cF bK
 have cS := an.mono aA
 refine JC (fun w : Nat => ([(0, .slice pa p.length pc), (3, pv xb 0), (4, pv b4 0), (5, pv b5 0), (6, vi w)], N, [(b5, Cl 95 ((Ag (mtW p e) w B1).map vw)), (b4, Cl 95 zs)])) (fun w => w ≤ p.length) (fun w => p.length - w) 0 rfl (lA8 _) ?env1 (by subst hzs; exact lA0 _) ?_
 case env1 =>
  exact eE
 intro w hw ih
 dsimp only at hw ih ⊢
 refine EV.seq ?_
 refine EV.seq ?_
 repeat' first | refine su ?_ | refine rg ?_ | (refine cX ?_ ?_ <;> intro h <;> try exact Ah h) | exact ⟨⟩ | fail
 ·have gN : w < p.length := by omega
  obtain ⟨pb, po, rfl, jY⟩ := Sl.at (sz := 6) (enc := Fq) (fun _ => rfl) (by decide) cS (by omega)
  obtain ⟨fb, fo, rfl, nh⟩ := Sl.at (sz := 1) (enc := ei) (fun _ => rfl) (by decide) bc (by omega)
  obtain ⟨db, dof, rfl, jZ⟩ := Sl.at (sz := 1) (enc := eb) (fun _ => rfl) (by decide) aH (by omega)
  have f5 : ∀ b, b < p.length → rd N pb (po + b * 6) 6 (Fq (evAt p b)) := fun b hb => by
   have := jY b hb
   rwa [← Dc hb] at this
  have cT : ∀ b, b < p.length → rd N fb (fo + b) 1 [vi (Af e b)] := fun b hb => (Cj nh b (by omega)).mono aA
  have dJ : ∀ b, b < p.length → rd N db (dof + b) 1 [vb (B7 e.dn b)] := fun b hb => by
   have := (jZ b (by omega)).mono aA
   rw [lAu] at this
   rw [B7, lA2 (by omega)]; exact this
  clear bQ bi bc an cS jY nh jZ aH
  have lR := loopMW_ok (e := e) hp w hw zero16_ok
  have ihk := ih (w + 1) (by omega) (by omega)
  simp only [Ag, mtW] at ihk
  generalize Ag (mtW p e) w B1 = q0 at *
  have pZ := dJ w gN
  cases mC : B7 e.dn w with
  | false =>
   rw [mC] at pZ ihk
   repeat' first | refine st ?_ | refine rg ?_ | (refine cX ?_ ?_ <;> intro h <;> try exact Ah h) | refine ZF ?_ | ((first | refine xm ?_ | refine xn ?_ | fail); try refine nx ?_) | exact ⟨⟩ | fail
   refine JA ihk ?_ (lA0 _)
   exact eE
  | true =>
   rw [mC] at pZ ihk
   have fy : IntKind.u64.wrap (w : Int) = (w : Int) := Bp (by omega)
   have cl : ¬ ((w : Int) < 0) := by omega
   have ge := Ib (show w < 64 by omega)
   repeat' first | refine st ?_ | (refine EV.reg ?_; (conv => (arg 2; whnf)); (repeat first | refine nx ?_ | simp only [fy, cl, ge])) | (refine cX ?_ ?_ <;> intro h <;> try exact Ah h) | refine ZF ?_ | ((first | refine xm ?_ | refine xn ?_ | fail); (repeat first | refine nx ?_ | simp only [fy, cl, ge])) | fail
   refine JC (fun r : Nat => ([(0, .slice (some ⟨pb, po, none⟩) p.length pc), (3, pv xb 0), (4, pv b4 0), (5, pv b5 0), (6, vi w), (7, vw (chN p e r w)), (8, vi r)], N, [(b5, Cl 95 ((q0).map vw)), (b4, Cl 95 zs)])) (fun r => r ≤ p.length) (fun r => p.length - r) 0 rfl (lA8 _) ?env2 (lA0 _) ?_
   case env2 =>
    exact eE
   intro r hr ih2
   dsimp only at hr ih2 ⊢
   repeat' first | refine st ?_ | refine rg ?_ | (refine cX ?_ ?_ <;> intro h <;> try exact Ah h) | exact ⟨⟩ | fail
   ·have bj : r < p.length := by omega
    have kS := Al5 (e := e) hp gN r
    have ih3 := ih2 (r + 1) (by omega) (by omega)
    rw [show chN p e (r + 1) w = Ag (chS e) p.length (chN p e r w) from rfl] at ih3
    generalize chN p e r w = c0 at *
    refine JC (fun a : Nat => ([(0, .slice (some ⟨pb, po, none⟩) p.length pc), (3, pv xb 0), (4, pv b4 0), (5, pv b5 0), (6, vi w), (7, vw (Ag (chS e) a c0)), (8, vi r), (9, vi a)], N, [(b5, Cl 95 ((q0).map vw)), (b4, Cl 95 zs)])) (fun a => a ≤ p.length) (fun a => p.length - a) 0 rfl (lA8 _) ?env3 (lA0 _) ?_
    case env3 =>
     exact eE
    intro a ha ih4
    dsimp only at ha ih4 ⊢
    refine EV.seq ?_
    refine EV.seq ?_
    repeat' first | refine su ?_ | refine rg ?_ | (refine cX ?_ ?_ <;> intro h <;> try exact Ah h) | exact ⟨⟩ | fail
    ·have aW : a < p.length := by omega
     have hc := Zd (e := e) hp kS a ha
     have ih5 := ih4 (a + 1) (by omega) (by omega)
     simp only [Ag, chS] at ih5
     generalize Ag (chS e) a c0 = c at *
     have j0 := dJ a aW
     have gf := cT a aW
     have fG : IntKind.u64.wrap (a : Int) = (a : Int) := Bp (by omega)
     have cm : ¬ ((a : Int) < 0) := by omega
     have iW := Ib (show a < 64 by omega)
     have dQ : c < 2 ^ 64 := lAx hc (by decide)
     have am := Ic (b := a) dQ (by omega)
     by_cases h0 : 0 ≤ Af e a
     ·obtain ⟨u, hu⟩ : ∃ u : Nat, Af e a = u := ⟨(Af e a).toNat, by omega⟩
      have lZ := be a aW
      rw [hu] at gf lZ ih5
      have kB : IntKind.u64.wrap (u : Int) = (u : Int) := Bp (by omega)
      have ci : ¬ ((u : Int) < 0) := by omega
      have az := Ke (b := u) dQ (by omega)
      rw [lAy, decide_eq_true (show (0 : Int) ≤ (u : Int) by omega), lEm] at ih5
      generalize qO : B7 e.dn a = y at *
      have tQ : decide ((0 : Int) ≤ (u : Int)) = true := decide_eq_true (by omega)
      repeat' first | refine st ?_ | (refine EV.reg ?_; (conv => (arg 2; whnf)); (repeat first | refine nx ?_ | simp only [fG, cm, iW, am, kB, ci, az, tQ, lEm])) | with_reducible assumption | (refine JD ?_ (fun hc K' hK => ?_) ?_; rotate_left) | (refine cX ?_ ?_ <;> intro h <;> try exact Ah h) | refine ZF ?_ | ((first | refine xm ?_ | refine xn ?_ | fail); (repeat first | refine nx ?_ | simp only [fG, cm, iW, am, kB, ci, az, tQ, lEm])) | fail
      ·rw [Gf, if_pos (by simpa using h)] at ih5
       refine JA ih5 ?_ (lA0 _)
       exact eE
      ·rw [Gf, if_neg (by rw [lEr, lBj]; simpa using h)] at ih5
       refine JA ih5 ?_ (lA0 _)
       exact eE
     ·have bw : decide ((0 : Int) ≤ Af e a) = false := decide_eq_false h0
      rw [bw, lF7, lCc, Gf, if_neg (by decide)] at ih5
      generalize qO : B7 e.dn a = y at *
      repeat' first | refine st ?_ | (refine EV.reg ?_; (conv => (arg 2; whnf)); (repeat first | refine nx ?_ | simp only [bw, lF7])) | with_reducible assumption | (refine JD ?_ (fun hc K' hK => ?_) ?_; rotate_left) | (refine cX ?_ ?_ <;> intro h <;> try exact Ah h) | refine ZF ?_ | ((first | refine xm ?_ | refine xn ?_ | fail); (repeat first | refine nx ?_ | simp only [bw, lF7])) | (exfalso; simp at hc; done) | fail
      refine JA ih5 ?_ (lA0 _)
      exact eE
    ·have dd : a = p.length := by omega
     subst dd
     refine JA ih3 ?_ (lA0 _)
     exact eE
   ·have hre : r = p.length := by omega
    subst hre
    have eD : chN p e p.length w = chW p e w := rfl
    have aS := Al5 (e := e) hp gN p.length
    rw [eD] at aS
    rw [eD]
    have kC : chW p e w < 2 ^ 64 := lAx aS (by decide)
    rw [if_pos rfl] at ihk
    have pI := fun m hm => loopMB_ok (e := e) (w := w) hp m hm lR
    refine JC (fun c : Nat => ([(0, .slice (some ⟨pb, po, none⟩) p.length pc), (3, pv xb 0), (4, pv b4 0), (5, pv b5 0), (6, vi w), (7, vw (chW p e w)), (10, vi c)], N, [(b5, Cl 95 ((Ag (mtB p e w) c q0).map vw)), (b4, Cl 95 zs)])) (fun c => c ≤ p.length) (fun c => p.length - c) 0 rfl (lA8 _) ?env4 (lA0 _) ?_
    case env4 =>
     exact eE
    intro c hc ih3
    dsimp only at hc ih3 ⊢
    refine EV.seq ?_
    refine EV.seq ?_
    repeat' first | refine su ?_ | refine rg ?_ | (refine cX ?_ ?_ <;> intro h <;> try exact Ah h) | exact ⟨⟩ | fail
    ·have cJ : c < p.length := by omega
     have jE := pI c hc
     have ih4 := ih3 (c + 1) (by omega) (by omega)
     simp only [Ag, mtB] at ih4
     generalize Ag (mtB p e w) c q0 = q1 at *
     have iQ := cT c cJ
     generalize g6 : chW p e w = ch at *
     by_cases hgo : (decide (Af e c < 0) || !ch.testBit (Af e c).toNat) = true
     ·rw [if_pos hgo] at ih4
      by_cases h0 : Af e c < 0
      ·have eM : decide (Af e c < 0) = true := decide_eq_true h0
       repeat' first | refine st ?_ | (refine EV.reg ?_; (conv => (arg 2; whnf)); (repeat first | refine nx ?_ | simp only [eM, Bool.true_or])) | (refine JD ?_ (fun hc K' hK => ?_) ?_; rotate_left) | (refine cX ?_ ?_ <;> intro h <;> try exact Ah h) | refine ZF ?_ | ((first | refine xm ?_ | refine xn ?_ | fail); (repeat first | refine nx ?_ | simp only [eM, Bool.true_or])) | (exfalso; simp at hc; done) | exact false | fail
       refine JA ih4 ?_ (lA0 _)
       exact eE
      ·obtain ⟨u, hu⟩ : ∃ u : Nat, Af e c = u := ⟨(Af e c).toNat, by omega⟩
       have lZ := be c cJ
       rw [hu] at iQ lZ hgo
       have kB : IntKind.u64.wrap (u : Int) = (u : Int) := Bp (by omega)
       have ci : ¬ ((u : Int) < 0) := by omega
       have az := Za (b := u) kC (by omega)
       have bw : decide ((u : Int) < 0) = false := decide_eq_false ci
       rw [bw, lDw, lAy] at hgo
       repeat' first | refine st ?_ | (refine EV.reg ?_; (conv => (arg 2; whnf)); (repeat first | refine nx ?_ | simp only [kB, ci, az, bw, lDw, hgo])) | with_reducible assumption | (refine JD ?_ (fun hc K' hK => ?_) ?_; rotate_left) | (refine cX ?_ ?_ <;> intro h <;> try exact Ah h) | refine ZF ?_ | ((first | refine xm ?_ | refine xn ?_ | fail); (repeat first | refine nx ?_ | simp only [kB, ci, az, bw, lDw, hgo])) | fail
       refine JA ih4 ?_ (lA0 _)
       exact eE
     ·rw [if_neg hgo] at ih4
      have dV : (decide (Af e c < 0) || !ch.testBit (Af e c).toNat) = false := by simpa using hgo
      rw [lBq] at dV
      have h0 : ¬ Af e c < 0 := of_decide_eq_false dV.1
      obtain ⟨u, hu⟩ : ∃ u : Nat, Af e c = u := ⟨(Af e c).toNat, by omega⟩
      have lZ := be c cJ
      rw [hu] at iQ lZ dV
      have kB : IntKind.u64.wrap (u : Int) = (u : Int) := Bp (by omega)
      have ci : ¬ ((u : Int) < 0) := by omega
      have az := Za (b := u) kC (by omega)
      have bw : decide ((u : Int) < 0) = false := decide_eq_false ci
      have rN := dV.2
      rw [lAy] at rN
      repeat' first | refine st ?_ | (refine EV.reg ?_; (conv => (arg 2; whnf)); (repeat first | refine nx ?_ | simp only [kB, ci, az, bw, lDw, rN])) | with_reducible assumption | (refine JD ?_ (fun hc K' hK => ?_) ?_; rotate_left) | (refine cX ?_ ?_ <;> intro h <;> try exact Ah h) | refine ZF ?_ | ((first | refine xm ?_ | refine xn ?_ | fail); (repeat first | refine nx ?_ | simp only [kB, ci, az, bw, lDw, rN])) | fail
      refine Xs (w := w) (c := c) hp bJ f5 gN cJ ?_
      refine Ac2 hp jE ?_
      repeat' first | refine su ?_ | refine rg ?_ | exact ⟨⟩ | fail
      refine JA ih4 ?_ (lA0 _)
      exact eE
    ·have kA : c = p.length := by omega
     subst kA
     refine JA ihk ?_ (lA0 _)
     exact eE
 ·have uu : w = p.length := by omega
  subst uu
  have bN : (Ag (mtW p e) p.length B1).length = 16 := (loopMW_ok (e := e) hp _ (lA5 _) zero16_ok).len
  have aS : Li p e = Ag (mtW p e) p.length B1 := rfl
  rw [aS]
  generalize Ag (mtW p e) p.length B1 = q at *
  repeat' first | refine st ?_ | refine rg ?_ | (refine lAb _ (lAd (Gl (f := vw) bN) ?_); try refine nx ?_) | (refine xw ?_; refine nx ?_) | exact ⟨⟩ | fail
  refine ⟨by subst hzs; simp, by rw [lA1, bN], Av0 _, ?_⟩
  rw [Aq6 (by rw [lA1, bN]) (by subst hzs; rfl)]
  (refine rt Q91_ok ?_; try with_reducible exact ⟨⟩)
  exact ⟨_, Bm (T := 95) (cs := q.map vw) (by simp) (by rw [lBr, lAw (by rw [lA1, bN]; exact lA5 _)]) (by rw [lA1, bN]; exact lA5 _), rfl⟩
end
section
variable {M : Aa}
theorem Jd (p : List Ev) (s : Value) (hs : Sl M 6 Fq s p) (hp : p.length ≤ 16) (bJ : Aa4 p) (e : Exec) (v : Value) (hv : IsX M v e) (aj : e.frm.length = p.length) (ax : e.dn.length = p.length) (be : ∀ i, i < p.length → Af e i < p.length)
  (hl : e.fen.length ≤ 16) (hin : ∀ k, k < e.fen.length → 0 ≤ Ae e.fen k ∧ Ae e.fen k < 16) :
  Con Tryz.prog 53 #[s, v] M [] fun u _ _ => u = E9 (Mb p e) := by
 have aM := hs
 have bY := hv
 obtain ⟨pa, pc, rfl, an⟩ := hs
 obtain ⟨f, d, o, n, rfl, ⟨fa, fc, rfl, bc⟩, ⟨da, dc, rfl, aH⟩, ⟨oa, oc, ovs, rfl, ar, bQ, bi⟩, ⟨na, nc, rfl, _⟩⟩ := hv
 refine Con.enter Q84_ok (args := [.slice pa p.length pc, .agg #[.slice fa e.frm.length fc, .slice da e.dn.length dc, .slice oa e.ord.length oc, .slice na e.fen.length nc]]) (by simp [Q84]) fun w0 => ?_
 simp only [Q84, A9]
 have eN := fun G => (show Aq _ _ _ (M.add G) _ from Fr (M := M.add G) p _ (aM.mono (JB _ _)) hp)
 have rO := fun G => (show Aq _ _ _ (M.add G) _ from Xt (M := M.add G) p _ (aM.mono (JB _ _)) hp bJ e _ (IsX.mono (JB _ _) bY) aj ax be)
 have fd := fun G => (show Aq _ _ _ (M.add G) _ from Kf (M := M.add G) e _ (IsX.mono (JB _ _) bY) hl hin)
 have gg := thrR_ok (p := p) hp
 have rP := meetsR_ok (p := p) (e := e) hp
 have gu := turnsR_ok (fen := e.fen) hin
 have fe := fun G => (show Aq _ _ _ (M.add G) _ from Dn (M := M.add G) _ _ rP gu)
 have ff := fun G => (show Aq _ _ _ (M.add G) _ from Dn (M := M.add G) _ _ gg (unionR_ok rP gu))
 have f9 := unionR_ok gg (unionR_ok rP gu)
 have dI := fun G => (show Aq _ _ _ (M.add G) _ from Fa (M := M.add G) _ f9)
 repeat' first | refine st ?_ | refine rg ?_ | (with_reducible intro b; try refine nx ?_) | exact ⟨⟩ | fail
 obtain ⟨b4, rfl⟩ : ∃ x, x = b := ⟨_, rfl⟩
 obtain ⟨xb, rfl⟩ : ∃ x, x = b := ⟨_, rfl⟩
 refine EV.any (t := Bz3) [(xb, Cl 37 [.slice fa e.frm.length fc, .slice da e.dn.length dc, .slice oa e.ord.length oc, .slice na e.fen.length nc])] (lAq _ (lA0 _)) ?_
 simp only [Aj, As, Ak, Au, reduceIte, Nat.reduceEqDiff]
 repeat' first | ((first | refine zo (fun lq aD => ?_) | refine zl ?_ | fail); try refine nz ?_) | refine zq (fun lq tq aD aB => ?_) | ((first | with_reducible refine Aq.call (eN _) ?_ | with_reducible refine Aq.call (rO _) ?_ | with_reducible refine Aq.call (fd _) ?_ | with_reducible refine Aq.call (fe _) ?_ | with_reducible refine Aq.call (ff _) ?_ | with_reducible refine Aq.call (dI _) ?_ | fail); try refine nz ?_) | (refine ZA (fun tq aB => ?_) (fun tq aB => ?_) <;> try refine nz ?_) | (refine ZB (fun tq aB => ?_) (fun tq aB => ?_) <;> try refine nz ?_) | exact zn | ((first | refine xrA rfl ?_ | refine xw ?_ | refine lAd (Aa.le_refl _) (lAd (Ax ?_) ?_); focus ((repeat' first | exact lA0 _ | exact lAe _ | exact lAh _ _ | refine lAg _ ?_ | refine lAo ?_ _ | refine lA9 ?_ | refine lAq _ ?_); done) | fail); try refine nz ?_) | exact ⟨⟩ | fail
 have gB : (Mb p e).length = 16 := (f9.close).len
 have pW : Ca (Cu (T9 p) (Cu (Li p e) (F9 e.fen))) = Mb p e := rfl
 rw [pW]
 refine ⟨by rw [lA1, gB], Av0 _, ?_⟩
 rw [Aq6 (by rw [lA1, gB]) rfl]
 repeat' first | (refine zl ?_; try refine nz ?_) | refine zq (fun lq tq aD aB => ?_) | refine zf ?_ | exact ⟨⟩ | fail
 (refine rt Q84_ok ?_; try with_reducible exact ⟨⟩)
 exact ⟨_, Bm (T := 95) (cs := (Mb p e).map vw) (by simp) (by rw [lBr, lAw (by rw [lA1, gB]; exact lA5 _)]) (by rw [lA1, gB]; exact lA5 _), rfl⟩
theorem Ac3 (p : List Ev) (s : Value) (hs : Sl M 6 Fq s p) (hp : p.length ≤ 16) (dt : ∀ i, i < p.length → 0 ≤ (evAt p i).op.kind ∧ (evAt p i).op.kind ≤ 5) (e : Exec) (v : Value) (hv : IsX M v e) (aj : e.frm.length = p.length)
  (eG : e.ord.length = 3) (hin : ∀ k, k < 3 → ∀ i, i < (e.ord[k]?.getD []).length → 0 ≤ Ae (e.ord[k]?.getD []) i ∧ Ae (e.ord[k]?.getD []) i < p.length) (aO : ∀ k, k < 3 → (e.ord[k]?.getD []).length ≤ 16) :
  Aq Tryz.prog 55 #[s, v] M (vb (Xn p e)) := by
 obtain ⟨pa, pc, rfl, an⟩ := hs
 obtain ⟨f, d, o, n, rfl, ⟨fa, fc, rfl, bc⟩, ⟨da, dc, rfl, aH⟩, ⟨oa, oc, ovs, rfl, ar, bQ, bi⟩, ⟨na, nc, rfl, _⟩⟩ := hv
 obtain ⟨ob, oo, rfl, bC⟩ := Dj.at bQ ar bi (by omega)
 refine Con.enter Q92_ok (args := [.slice pa p.length pc, .agg #[.slice fa e.frm.length fc, .slice da e.dn.length dc, .slice (some ⟨ob, oo, none⟩) e.ord.length oc, .slice na e.fen.length nc]]) (by simp [Q92]) fun w0 => ?_
 simp only [Q92, A9]
 repeat' first | refine st ?_ | refine rg ?_ | (with_reducible intro b; try refine nx ?_) | exact ⟨⟩ | fail
 obtain ⟨xb, rfl⟩ : ∃ x, x = b := ⟨_, rfl⟩
 refine EV.frz [(xb, Cl 37 [.slice fa e.frm.length fc, .slice da e.dn.length dc, .slice (some ⟨ob, oo, none⟩) e.ord.length oc, .slice na e.fen.length nc])] ?_
 generalize hR : M.add _ = N
 have aA : M.le N := hR ▸ JB _ _
 have bX : rd N xb 0 4 [.slice fa e.frm.length fc, .slice da e.dn.length dc, .slice (some ⟨ob, oo, none⟩) e.ord.length oc, .slice na e.fen.length nc] := hR ▸ An 0 rfl rfl (by simp)
 clear hR
 have cF := bX.pt 0 1 (by omega) rfl
 have bk := bX.pt 2 1 (by omega) rfl
 simp only [lBi] at cF bk
 have cS := an.mono aA
 have aL : ∀ b, b < p.length → ∃ pb po, pa = some ⟨pb, po, none⟩ ∧ rd N pb (po + b * 6) 6 (Fq (evAt p b)) := fun b hb => by
  obtain ⟨pb, po, e1, hat⟩ := Sl.at (sz := 6) (enc := Fq) (fun _ => rfl) (by decide) cS (by omega)
  have := hat b hb
  rw [← Dc hb] at this
  exact ⟨pb, po, e1, this⟩
 have cT : ∀ b, b < p.length → ∃ fb fo, fa = some ⟨fb, fo, none⟩ ∧ rd N fb (fo + b) 1 [vi (Af e b)] := fun b hb => by
  obtain ⟨fb, fo, e1, hat⟩ := Sl.at (sz := 1) (enc := ei) (fun _ => rfl) (by decide) bc (by omega)
  exact ⟨fb, fo, e1, (Cj hat b (by omega)).mono aA⟩
 have bs : ∀ k, k < 3 → ∃ a' c', rd N ob (oo + k) 1 [.slice a' (e.ord[k]?.getD []).length c'] ∧ rdS N 1 a' (e.ord[k]?.getD []).length ((e.ord[k]?.getD []).flatMap ei) := fun k hk => by
  obtain ⟨a', c', h1, _, h2⟩ := bC k (by omega)
  rw [lAu] at h1
  rw [lA2 (show k < e.ord.length by omega), lAn]
  exact ⟨a', c', h1.mono aA, h2.mono aA⟩
 clear bC bQ bi bc an cS
 refine JC (fun k : Nat => ([(0, .slice pa p.length pc), (3, pv xb 0), (4, vb false), (5, vi k)], N, [])) (fun k => k ≤ 3 ∧ ∀ x, x < k → C0 p e (e.ord[x]?.getD []) = false) (fun k => 3 - k) 0 rfl ⟨lA8 _, fun x hx => absurd hx (lBn _)⟩ ?env1 (lAe _) ?_
 case env1 =>
  exact eE
 rintro k ⟨hk, aI⟩ ih
 dsimp only at hk aI ih ⊢
 repeat' first | refine st ?_ | refine rg ?_ | (refine cX ?_ ?_ <;> intro h <;> try exact Ah h) | exact ⟨⟩ | fail
 ·have af : k < 3 := by omega
  obtain ⟨la, lc, ed, cn⟩ := bs k af
  have f8 := hin k af
  have qz := aO k af
  have ihk := fun h => ih (k + 1) ⟨by omega, h⟩ (by omega)
  have uv : ∀ x, x < k + 1 → (x = k → C0 p e (e.ord[k]?.getD []) = false) → C0 p e (e.ord[x]?.getD []) = false := fun x hx h => by
   by_cases gn : x = k
   ·rw [gn]; exact h gn
   ·exact aI x (by omega)
  have bV : C0 p e (e.ord[k]?.getD []) = true → Xn p e = false := fun h => by
   unfold Xn
   rw [lBx.2 ⟨k, lAl.2 af, h⟩]; rfl
  generalize (e.ord[k]?.getD []) = L at *
  refine JC (fun i : Nat => ([(0, .slice pa p.length pc), (3, pv xb 0), (4, vb false), (5, vi k), (6, vi i)], N, [])) (fun i => i ≤ L.length ∧ ∀ x, x < i → S0 p e L x = false) (fun i => L.length - i) 0 rfl ⟨lA8 _, fun x hx => absurd hx (lBn _)⟩ ?env2 (lAe _) ?_
  case env2 =>
   exact eE
  rintro i ⟨hi, cK⟩ ih2
  dsimp only at hi cK ih2 ⊢
  refine EV.seq ?_
  refine EV.seq ?_
  repeat' first | refine su ?_ | refine rg ?_ | (refine cX ?_ ?_ <;> intro h <;> try exact Ah h) | refine ZF ?_ | (refine xn ?_; try refine nx ?_) | exact ⟨⟩ | fail
  ·have aC : i < L.length := by omega
   obtain ⟨wb, wo, rfl, bA⟩ := Sl.at (sz := 1) (enc := ei) (fun _ => rfl) (by decide) cn (by omega)
   have dH := Cj bA
   obtain ⟨a, ha⟩ : ∃ a : Nat, Ae L i = a := ⟨(Ae L i).toNat, by have := f8 i aC; omega⟩
   have kg := dH i aC
   have jX : a < p.length := by have := f8 i aC; omega
   rw [ha] at kg
   obtain ⟨pb, po, rfl, eL⟩ := aL a jX
   obtain ⟨fb, fo, rfl, iQ⟩ := cT a jX
   have cW : rd N pb (po + a * 6 + 1) 5 [vi (evAt p a).op.kind, vi (evAt p a).op.loc, vi (evAt p a).op.v, vi (evAt p a).op.w, vi (evAt p a).op.ord] := eL.pt 1 5 (by omega) rfl
   have cD := fun G => Gd (M := N.add G) (evAt p a).op
   rw [Dg (dt a jX)] at cD
   have bt : S0 p e L i = ((evAt p a).reads && decide (Af e a ≠ Ed L i)) := by rw [S0, ha, lAy]
   refine EV.seq ?_
   refine EV.block ?_
   refine EV.seq ?_
   repeat' first | refine rg ?_ | refine ZF ?_ | ((first | refine xm ?_ | refine xn ?_ | fail); try refine nx ?_) | exact ⟨⟩ | fail
   refine EV.seq ?_
   repeat' first | refine rg ?_ | exact ⟨⟩ | fail
   refine EV.seq (JI (fun ρ' M' G' => M' = N ∧ (∀ q ∈ [(0, .slice (some ⟨pb, po, none⟩) p.length pc), (3, pv xb 0), (4, vb false), (5, vi k), (6, vi i), (7, vi a), (8, vi (Ed L i))], get ρ' q.1 = some q.2) ∧ G' = []) ?_ ?_)
   ·intro k' key
    clear ih ihk ih2
    repeat' first | refine st ?_ | refine rg ?_ | (refine cX ?_ ?_ <;> intro h <;> try exact Ah h) | refine ZF ?_ | (refine xn ?_; try refine nx ?_) | exact ⟨⟩ | fail
    ·obtain ⟨j, rfl⟩ : ∃ j, i = j + 1 := ⟨i - 1, by omega⟩
     have mV := dH j (by omega)
     have ej : IntKind.i64.wrap (((j + 1 : Nat) : Int) - 1) = (j : Int) := by rw [w64 (by omega) (by omega)]; omega
     repeat' first | refine ZF ?_ | fail
     simp only [ej, lAy]
     refine ⟨_, mV.mono (JB _ _), ?_⟩
     refine JH (key _ _ _ ⟨rfl, ?_, rfl⟩)
     exact eE
    ·obtain rfl : i = 0 := by omega
     refine JH (key _ _ _ ⟨rfl, ?_, rfl⟩)
     exact eE
   ·rintro ρ' M' G' ⟨e0, hρ, e2⟩
    rw [e0, e2]
    clear e0 e2
    refine JA (ρ' := [(0, .slice (some ⟨pb, po, none⟩) p.length pc), (3, pv xb 0), (4, vb false), (5, vi k), (6, vi i), (7, vi a), (8, vi (Ed L i))]) ?_ hρ (lA0 _)
    repeat' first | refine st ?_ | refine rg ?_ | with_reducible assumption | (refine Aq.call (cD _) ?_; try refine nx ?_) | (refine JD ?_ (fun hc K' hK => ?_) ?_; rotate_left) | (refine cX ?_ ?_ <;> intro h <;> try exact Ah h) | refine ZF ?_ | ((first | refine xm ?_ | refine xn ?_ | fail); try refine nx ?_) | exact ⟨⟩ | fail
    ·have hb : S0 p e L i = true := by rw [bt]; simpa using h
     have uw := bV (lBx.2 ⟨i, lAl.2 aC, hb⟩)
     (refine rt Q92_ok ?_; try with_reducible exact ⟨⟩)
     rw [uw]
    ·have hb : S0 p e L i = false := by rw [bt, lBj]; simpa using h
     refine JA (ih2 (i + 1) ⟨by omega, fun x hx => ?_⟩ (by omega)) ?_ (lA0 _)
     ·by_cases e1 : x = i
      ·subst e1; exact hb
      ·exact cK x (by omega)
     ·exact eE
  ·have bO : i = L.length := by omega
   subst bO
   refine JA (ihk fun x hx => uv x hx fun _ => ?_) ?_ (lA0 _)
   ·cases hb : C0 p e L with
    | false => rfl
    | true =>
     obtain ⟨x, hx, h2⟩ := lBx.1 hb
     rw [cK x (lAl.1 hx)] at h2; cases h2
   ·exact eE
 ·have : Xn p e = true := by
   unfold Xn
   rw [lB6, lF5]
   intro x hx
   rw [aI x (by have := lAl.1 hx; omega)]; decide
  (refine rt Q92_ok ?_; try with_reducible exact ⟨⟩)
  rw [this]
end
abbrev rkG (s : Rk) (rb lb kb fb : Nat) : Own :=
 [(fb, Cl 4 (s.f.map vb)), (kb, Cl 4 (s.k.map vb)), (lb, Cl 3 (s.l.map vi)), (rb, Cl 3 (s.r.map vi))]
theorem Aq7 {p : List Ev} {i : Nat} {s : Rk} {n : Nat} (h : s.Len n) : (Sa p i s).Len n := by
 unfold Sa
 refine ⟨h.r, ?_, h.k, by simp [h.f]⟩
 show List.length (if _ then _ else _) = n
 split
 ·simp [h.l]
 ·split <;> simp [h.l]
theorem Sj {p : List Ev} {f : List Int} {i : Nat} {s : Rk} {n : Nat} (h : s.Len n) : (C8 p f i s).Len n := by
 unfold C8
 split
 ·exact h
 ·have h1 : (B5 f i s).Len n := ⟨by unfold B5; dsimp only; split <;> simp [h.r], h.l, by simp [B5, h.k], h.f⟩
  unfold Hg
  split
  ·exact ⟨h1.r, by simp [h1.l], h1.k, by simp [h1.f]⟩
  ·exact h1
theorem Hy {g : Nat → Rk → Rk} {n : Nat} (hg : ∀ i s, s.Len n → (g i s).Len n) : ∀ m {s : Rk}, s.Len n → (Ag g m s).Len n
 | 0, _, h => h
 | m + 1, _, h => hg m _ (Hy hg m h)
theorem Aq8 (n : Nat) : (⟨List.replicate n 0, List.replicate n 0, List.replicate n false, List.replicate n false⟩ : Rk).Len n := ⟨by simp, by simp, by simp, by simp⟩
theorem Nq {C : Cx Tryz.prog} {k : List RItem} {p : List Ev} {N : Aa} {pb po pc xb rb lb kb fb r a : Nat} {t : Rk} (hp : p.length ≤ 16) (aW : a < p.length)
  (eL : rd N pb (po + a * 6) 6 (Fq (evAt p a))) (bh : t.Len p.length) (hk : (evAt p a).op.kind = 2)
  (ih4 : EV C [0, 1, 3, 4, 5, 6, 7, 8, 9, 10, 11, 12, 13, 14, 45] k [(0, .slice (some ⟨pb, po, none⟩) p.length pc), (3, pv xb 0), (7, Av rb p.length p.length), (8, Av lb p.length p.length), (9, Av kb p.length p.length), (10, Av fb p.length p.length), (13, vi r), (14, vi (a + 1 : Nat))] N (rkG (Hg p a t) rb lb kb fb)) :
  EV C [0, 1, 3, 4, 5, 6, 7, 8, 9, 10, 11, 12, 13, 14, 45] (.code (.any Yc) :: .code (.reg Af8) :: .inBlock 6 :: .code (.reg Af9) :: k)
   [(0, .slice (some ⟨pb, po, none⟩) p.length pc), (3, pv xb 0), (7, Av rb p.length p.length), (8, Av lb p.length p.length), (9, Av kb p.length p.length), (10, Av fb p.length p.length), (13, vi r), (14, vi a)] N (rkG t rb lb kb fb) := by
 have ux : rd N pb (po + a * 6 + 1 + 2) 1 [vi (evAt p a).op.v] := eL.pt 3 1 (by omega) rfl
 have ay := bh.r
 have bL := bh.l
 have dp := bh.k
 have dN := bh.f
 have jP : a < t.r.length := by omega
 have cZ : a < t.l.length := by omega
 have kz : a < t.f.length := by omega
 have eR : t.r[a]?.getD 0 = t.r[a] := by rw [lA2 jP]; rfl
 rw [Hg, if_pos hk, eR] at ih4
 refine EV.any (t := Yc) [(rb, Cl 3 (t.r.map vi))] (lAq _ (lAq _ (lAq _ (lA0 _)))) ?_
 simp only [Aj, As, Ak, Au, reduceIte, Nat.reduceEqDiff]
 repeat' first | ((first | refine zo (fun lq aD => ?_) | refine zl ?_ | refine lAb _ (lAd (Cg (f := vi) jP) ?_) | fail); try refine nz ?_) | (refine ZB (fun tq aB => ?_) (fun tq aB => ?_) <;> try refine nz ?_) | exact zn | refine ZF ?_ | ((first | refine xm ?_ | refine xw ?_ | fail); try refine nz ?_) | exact ⟨⟩ | fail
 refine ⟨by rw [lA1]; omega, ?_⟩
 rw [Ap vi t.l cZ]
 repeat' first | (refine zl ?_; try refine nz ?_) | refine zq (fun lq tq aD aB => ?_) | refine zf ?_ | exact ⟨⟩ | fail
 repeat' first | refine su ?_ | (refine EV.reg ?_; (conv => (arg 2; whnf)); (repeat first | refine nx ?_ | simp only [Ap, lA1, dN, aW])) | refine ZF ?_ | (refine xw ?_; (repeat first | refine nx ?_ | simp only [Ap, lA1, dN, aW])) | fail
 refine JA ih4 ?_ (lA0 _)
 exact eE
theorem Tx {C : Cx Tryz.prog} {k : List RItem} {p : List Ev} {e : Exec} {N : Aa} {pa : Option Addr} {pc xb rb lb kb fb r a : Nat} {t : Rk} {fa : Option Addr} {fc : Nat} (hp : p.length ≤ 16) (aW : a < p.length) (aj : e.frm.length = p.length) (be : ∀ i, i < p.length → Af e i < p.length)
  (cF : rd N xb 0 1 [.slice fa e.frm.length fc])
  (cT : ∀ b, b < p.length → ∃ fb fo, fa = some ⟨fb, fo, none⟩ ∧ rd N fb (fo + b) 1 [vi (Af e b)])
  (aL : ∀ b, b < p.length → ∃ pb po, pa = some ⟨pb, po, none⟩ ∧ rd N pb (po + b * 6) 6 (Fq (evAt p b)))
  (bh : t.Len p.length)
  (ih4 : EV C [0, 1, 3, 4, 5, 6, 7, 8, 9, 10, 11, 12, 13, 14, 45] k [(0, .slice pa p.length pc), (3, pv xb 0), (7, Av rb p.length p.length), (8, Av lb p.length p.length), (9, Av kb p.length p.length), (10, Av fb p.length p.length), (13, vi r), (14, vi (a + 1 : Nat))] N (rkG (C8 p e.frm a t) rb lb kb fb)) :
  EV C [0, 1, 3, 4, 5, 6, 7, 8, 9, 10, 11, 12, 13, 14, 45] (.code (.seq (.block 6 (.seq (.seq (.reg As5) (.cond (.t 95) (.exit 6) .skip)) (.seq (.reg As6) (.seq (.seq (.reg As7) (.cond (.t 104) (.reg As8) .skip)) (.seq (.reg As9) (.cond (.t 122) (.seq (.any Yc) (.reg Af8)) .skip)))))) (.reg Af9)) :: k)
   [(0, .slice pa p.length pc), (3, pv xb 0), (7, Av rb p.length p.length), (8, Av lb p.length p.length), (9, Av kb p.length p.length), (10, Av fb p.length p.length), (13, vi r), (14, vi a)] N (rkG t rb lb kb fb) := by
 obtain ⟨pb, po, rfl, eL⟩ := aL a aW
 obtain ⟨qb, qo, rfl, iQ⟩ := cT a aW
 have lZ := be a aW
 have dt : rd N pb (po + a * 6 + 1 + 0) 1 [vi (evAt p a).op.kind] := eL.pt 1 1 (by omega) rfl
 have ux : rd N pb (po + a * 6 + 1 + 2) 1 [vi (evAt p a).op.v] := eL.pt 3 1 (by omega) rfl
 simp only [lDc] at dt
 rw [C8] at ih4
 have ay := bh.r
 have bL := bh.l
 have dp := bh.k
 have dN := bh.f
 have jP : a < t.r.length := by omega
 have cZ : a < t.l.length := by omega
 have eT : a < t.k.length := by omega
 have kz : a < t.f.length := by omega
 have eK : t.K a = t.k[a] := by rw [Rk.K, lA2 eT]; rfl
 have efr : B4 e.frm a = Af e a := rfl
 rw [eK, efr] at ih4
 refine EV.seq ?_
 refine EV.block ?_
 cases hK : t.k[a] with
 | true =>
  rw [hK, if_pos (by simp)] at ih4
  repeat' first | refine st ?_ | (refine EV.reg ?_; (conv => (arg 2; whnf)); (repeat first | refine nx ?_ | simp only [hK])) | (refine lAb _ (lAd (Cg (f := vb) eT) ?_); (repeat first | refine nx ?_ | simp only [hK])) | (refine A4.intro (fun hc => ?_) (fun hc => ?_) <;> try simp only [ne_eq, lBd, lB9, not_true_eq_false, not_false_eq_true, reduceCtorEq] at hc <;> try (exfalso; first | exact hc | omega | (simp at hc; done))) | (refine cX ?_ ?_ <;> intro h <;> try exact Ah h) | refine ZF ?_ | fail
  refine JA ih4 ?_ (lA0 _)
  exact eE
 | false =>
  rw [hK, lDw] at ih4
  by_cases h0 : 0 ≤ Af e a
  ·obtain ⟨u, hu⟩ : ∃ u : Nat, Af e a = u := ⟨(Af e a).toNat, by omega⟩
   rw [hu] at iQ lZ
   have rQ : u < t.f.length := by omega
   have bN : u < t.l.length := by omega
   have eM : decide ((0 : Int) ≤ (u : Int)) = true := decide_eq_true (by omega)
   have eF : t.F u = t.f[u] := by rw [Rk.F, lA2 rQ]; rfl
   rw [hu, eM, lC5, lAy, eF] at ih4
   cases hF : t.f[u] with
   | false =>
    rw [hF, if_pos (by simp)] at ih4
    repeat' first | refine st ?_ | (refine EV.reg ?_; (conv => (arg 2; whnf)); (repeat first | refine nx ?_ | simp only [hK, hF, eM])) | with_reducible assumption | ((first | refine lAb _ (lAd (Cg (f := vb) rQ) ?_) | refine lAb _ (lAd (Cg (f := vb) eT) ?_) | fail); (repeat first | refine nx ?_ | simp only [hK, hF, eM])) | (refine JD ?_ (fun hc K' hK => ?_) ?_; rotate_left) | (refine cX ?_ ?_ <;> intro h <;> try exact Ah h) | refine ZF ?_ | ((first | refine xm ?_ | refine xn ?_ | fail); (repeat first | refine nx ?_ | simp only [hK, hF, eM])) | fail
    refine JA ih4 ?_ (lA0 _)
    exact eE
   | true =>
    rw [hF, if_neg (by simp)] at ih4
    have eR : B5 e.frm a t = { t with k := t.k.set a true, r := t.r.set a t.l[u] } := by
     unfold B5
     rw [efr, hu, if_pos (by omega), lAy, lA2 bN]; rfl
    rw [eR] at ih4
    repeat' first | refine st ?_ | (refine EV.reg ?_; (conv => (arg 2; whnf)); (repeat first | refine nx ?_ | simp only [hK, hF, eM, Ap, lA1, ay, bL, dp, dN, aW])) | with_reducible assumption | ((first | refine lAb _ (lAd (Cg (f := vi) bN) ?_) | refine lAb _ (lAd (Cg (f := vb) rQ) ?_) | refine lAb _ (lAd (Cg (f := vb) eT) ?_) | fail); (repeat first | refine nx ?_ | simp only [hK, hF, eM, Ap, lA1, ay, bL, dp, dN, aW])) | (refine JD ?_ (fun hc K' hK => ?_) ?_; rotate_left) | (refine cX ?_ ?_ <;> intro h <;> try exact Ah h) | refine ZF ?_ | ((first | refine xm ?_ | refine xn ?_ | fail); (repeat first | refine nx ?_ | simp only [hK, hF, eM, Ap, lA1, ay, bL, dp, dN, aW])) | (refine xw ?_; (repeat first | refine nx ?_ | simp only [hK, hF, eM, Ap, lA1, ay, bL, dp, dN, aW])) | fail
    ·refine JA (Nq (t := { t with k := t.k.set a true, r := t.r.set a t.l[u] }) hp aW eL ⟨by simp [ay], bL, by simp [dp], dN⟩ (by assumption) ih4) ?_ (lA0 _)
     exact eE
    ·rw [Hg, if_neg (by assumption)] at ih4
     refine JA ih4 ?_ (lA0 _)
     exact eE
  ·have bw : decide ((0 : Int) ≤ Af e a) = false := decide_eq_false h0
   have eR : B5 e.frm a t = { t with k := t.k.set a true } := by
    unfold B5
    rw [efr, if_neg h0]
   rw [bw, lCc, if_neg (by simp), eR] at ih4
   repeat' first | refine st ?_ | (refine EV.reg ?_; (conv => (arg 2; whnf)); (repeat first | refine nx ?_ | simp only [hK, bw, Ap, lA1, ay, bL, dp, dN, aW])) | (refine lAb _ (lAd (Cg (f := vb) eT) ?_); (repeat first | refine nx ?_ | simp only [hK, bw, Ap, lA1, ay, bL, dp, dN, aW])) | (refine A4.intro (fun hc => ?_) (fun hc => ?_) <;> try simp only [ne_eq, lBd, lB9, not_true_eq_false, not_false_eq_true, reduceCtorEq] at hc <;> try (exfalso; first | exact hc | omega | (simp at hc; done))) | (refine cX ?_ ?_ <;> intro h <;> try exact Ah h) | refine ZF ?_ | ((first | refine xm ?_ | refine xn ?_ | fail); (repeat first | refine nx ?_ | simp only [hK, bw, Ap, lA1, ay, bL, dp, dN, aW])) | (refine xw ?_; (repeat first | refine nx ?_ | simp only [hK, bw, Ap, lA1, ay, bL, dp, dN, aW])) | fail
   ·refine JA (Nq (t := { t with k := t.k.set a true }) hp aW eL ⟨ay, bL, by simp [dp], dN⟩ (by assumption) ih4) ?_ (lA0 _)
    exact eE
   ·rw [Hg, if_neg (by assumption)] at ih4
    refine JA ih4 ?_ (lA0 _)
    exact eE
section
variable {M : Aa}
theorem Hh (p : List Ev) (s : Value) (hs : Sl M 6 Fq s p) (hp : p.length ≤ 16) (e : Exec) (v : Value) (hv : IsX M v e) (aj : e.frm.length = p.length) (be : ∀ i, i < p.length → Af e i < p.length) :
  Con Tryz.prog 43 #[s, v] M [] fun u M' G' => ∃ rb lb kb, u = .tuple #[Av rb p.length p.length, Av lb p.length p.length, Av kb p.length p.length] ∧ (Bh p e.frm).Len p.length ∧ 
   G' = [(kb, Cl 4 ((Bh p e.frm).k.map vb)), (lb, Cl 3 ((Bh p e.frm).l.map vi)), (rb, Cl 3 ((Bh p e.frm).r.map vi))] := by
 obtain ⟨pa, pc, rfl, an⟩ := hs
 obtain ⟨f, d, o, n, rfl, ⟨fa, fc, rfl, bc⟩, ⟨da, dc, rfl, aH⟩, ⟨oa, oc, ovs, rfl, ar, bQ, bi⟩, ⟨na, nc, rfl, _⟩⟩ := hv
 refine Con.enter Q94_ok (args := [.slice pa p.length pc, .agg #[.slice fa e.frm.length fc, .slice da e.dn.length dc, .slice oa e.ord.length oc, .slice na e.fen.length nc]]) (by simp [Q94]) fun w0 => ?_
 simp only [Q94, A9]
 repeat' first | refine st ?_ | (refine EV.reg ?_; (conv => (arg 2; whnf)); (repeat first | refine nx ?_ | simp only [Ba])) | (with_reducible intro b; (repeat first | refine nx ?_ | simp only [Ba])) | refine ZF ?_ | fail
 obtain ⟨fb, rfl⟩ : ∃ x, x = b := ⟨_, rfl⟩
 obtain ⟨kb, rfl⟩ : ∃ x, x = b := ⟨_, rfl⟩
 obtain ⟨lb, rfl⟩ : ∃ x, x = b := ⟨_, rfl⟩
 obtain ⟨rb, rfl⟩ : ∃ x, x = b := ⟨_, rfl⟩
 obtain ⟨xb, rfl⟩ : ∃ x, x = b := ⟨_, rfl⟩
 refine EV.frz [(xb, Cl 37 [.slice fa e.frm.length fc, .slice da e.dn.length dc, .slice oa e.ord.length oc, .slice na e.fen.length nc])] ?_
 generalize hR : M.add _ = N
 have aA : M.le N := hR ▸ JB _ _
 have bX : rd N xb 0 4 [.slice fa e.frm.length fc, .slice da e.dn.length dc, .slice oa e.ord.length oc, .slice na e.fen.length nc] := hR ▸ An 0 rfl rfl (by simp)
 clear hR
 have cF := bX.pt 0 1 (by omega) rfl
 simp only [lBi] at cF
 have cS := an.mono aA
 have cT : ∀ b, b < p.length → ∃ fb fo, fa = some ⟨fb, fo, none⟩ ∧ rd N fb (fo + b) 1 [vi (Af e b)] := fun b hb => by
  obtain ⟨fb, fo, e1, hat⟩ := Sl.at (sz := 1) (enc := ei) (fun _ => rfl) (by decide) bc (by omega)
  exact ⟨fb, fo, e1, (Cj hat b (by omega)).mono aA⟩
 have aL : ∀ b, b < p.length → ∃ pb po, pa = some ⟨pb, po, none⟩ ∧ rd N pb (po + b * 6) 6 (Fq (evAt p b)) := fun b hb => by
  obtain ⟨pb, po, e1, hat⟩ := Sl.at (sz := 6) (enc := Fq) (fun _ => rfl) (by decide) cS (by omega)
  have := hat b hb
  rw [← Dc hb] at this
  exact ⟨pb, po, e1, this⟩
 clear bQ bi bc an cS aH
 have fV : ∀ m, (Ag (Sa p) m ⟨List.replicate p.length 0, List.replicate p.length 0, List.replicate p.length false, List.replicate p.length false⟩).Len p.length := fun m => Hy (fun i s h => Aq7 h) m (Aq8 _)
 refine JC (fun a : Nat => ([(0, .slice pa p.length pc), (3, pv xb 0), (7, Av rb p.length p.length), (8, Av lb p.length p.length), (9, Av kb p.length p.length), (10, Av fb p.length p.length), (11, vi a)], N, rkG (Ag (Sa p) a ⟨List.replicate p.length 0, List.replicate p.length 0, List.replicate p.length false, List.replicate p.length false⟩) rb lb kb fb)) (fun a => a ≤ p.length) (fun a => p.length - a) 0 rfl (lA8 _) ?env1 ?sub1 ?_
 case env1 =>
  exact eE
 case sub1 =>
  simp only [rkG, Ag, lDz]
  exact lA0 _
 intro a ha ih
 dsimp only at ha ih ⊢
 refine EV.seq ?_
 refine EV.seq ?_
 repeat' first | refine su ?_ | refine rg ?_ | (refine cX ?_ ?_ <;> intro h <;> try exact Ah h) | exact ⟨⟩ | fail
 ·have aW : a < p.length := by omega
  have bh := fV a
  have ih2 := ih (a + 1) (by omega) (by omega)
  simp only [Ag] at ih2
  generalize Ag (Sa p) a ⟨List.replicate p.length 0, List.replicate p.length 0, List.replicate p.length false, List.replicate p.length false⟩ = s at *
  obtain ⟨pb, po, rfl, eL⟩ := aL a aW
  have cW : rd N pb (po + a * 6 + 1) 5 [vi (evAt p a).op.kind, vi (evAt p a).op.loc, vi (evAt p a).op.v, vi (evAt p a).op.w, vi (evAt p a).op.ord] := eL.pt 1 5 (by omega) rfl
  have e1 : Sa p a s = ⟨s.r, if (evAt p a).op.kind = 1 then s.l.set a (evAt p a).op.v else if (evAt p a).op.kind = 3 ∨ (evAt p a).op.kind = 4 then s.l.set a (evAt p a).op.w else s.l, s.k, s.f.set a (!decide ((evAt p a).op.kind = 2))⟩ := by simp [Sa]
  rw [e1] at ih2
  clear e1
  generalize (evAt p a).op = o at *
  have dN := bh.f
  have bL := bh.l
  have kz : a < s.f.length := by omega
  have cZ : a < s.l.length := by omega
  repeat' first | refine st ?_ | (refine EV.reg ?_; (conv => (arg 2; whnf)); (repeat first | refine nx ?_ | simp only [Ap, lA1, dN, bL, aW])) | (refine cX ?_ ?_ <;> intro h <;> try exact Ah h) | (with_reducible intro b; (repeat first | refine nx ?_ | simp only [Ap, lA1, dN, bL, aW])) | refine ZF ?_ | ((first | refine xm ?_ | refine xiA rfl ?_ | fail); (repeat first | refine nx ?_ | simp only [Ap, lA1, dN, bL, aW])) | (refine xw ?_; (repeat first | refine nx ?_ | simp only [Ap, lA1, dN, bL, aW])) | fail
  all_goals
   first
    | rw [if_pos (show o.kind = 1 by assumption)] at ih2
    | rw [if_neg (show ¬ o.kind = 1 by assumption), if_pos (show o.kind = 3 ∨ o.kind = 4 by omega)] at ih2
    | rw [if_neg (show ¬ o.kind = 1 by assumption), if_neg (show ¬ (o.kind = 3 ∨ o.kind = 4) by omega)] at ih2
   refine JA ih2 ?_ (lAq _ (lA0 _))
   exact eE
 ·have dd : a = p.length := by omega
  subst dd
  have rR : Ag (Sa p) p.length ⟨List.replicate p.length 0, List.replicate p.length 0, List.replicate p.length false, List.replicate p.length false⟩ = rk0 p := rfl
  have ni : (rk0 p).Len p.length := fV p.length
  rw [rR]
  repeat' first | refine st ?_ | refine rg ?_ | exact ⟨⟩ | fail
  obtain ⟨s0, aM⟩ : ∃ x, x = rk0 p := ⟨_, rfl⟩
  rw [← aM] at ni ⊢
  have fw : ∀ m, (Ag (fun _ s => Jx p e.frm s) m s0).Len p.length := fun m => Hy (fun i s h => Hy (fun i s h => Sj h) _ h) m ni
  refine JC (fun r : Nat => ([(0, .slice pa p.length pc), (3, pv xb 0), (7, Av rb p.length p.length), (8, Av lb p.length p.length), (9, Av kb p.length p.length), (10, Av fb p.length p.length), (13, vi r)], N, rkG (Ag (fun _ s => Jx p e.frm s) r s0) rb lb kb fb)) (fun r => r ≤ p.length + 1) (fun r => p.length + 1 - r) 0 rfl (lA8 _) ?env2 (lA0 _) ?_
  case env2 =>
   exact eE
  intro r hr ih
  dsimp only at hr ih ⊢
  refine EV.seq ?_
  refine EV.seq ?_
  repeat' first | refine su ?_ | refine rg ?_ | (refine cX ?_ ?_ <;> intro h <;> try exact Ah h) | exact ⟨⟩ | fail
  ·have bj : r ≤ p.length := by omega
   have bh := fw r
   have ih2 := ih (r + 1) (by omega) (by omega)
   rw [show Ag (fun _ s => Jx p e.frm s) (r + 1) s0 = Jx p e.frm (Ag (fun _ s => Jx p e.frm s) r s0) from rfl] at ih2
   generalize Ag (fun _ s => Jx p e.frm s) r s0 = s at *
   rw [Jx] at ih2
   have jD : ∀ m, (Ag (C8 p e.frm) m s).Len p.length := fun m => Hy (fun i s h => Sj h) m bh
   repeat' first | refine st ?_ | refine rg ?_ | exact ⟨⟩ | fail
   refine JC (fun a : Nat => ([(0, .slice pa p.length pc), (3, pv xb 0), (7, Av rb p.length p.length), (8, Av lb p.length p.length), (9, Av kb p.length p.length), (10, Av fb p.length p.length), (13, vi r), (14, vi a)], N, rkG (Ag (C8 p e.frm) a s) rb lb kb fb)) (fun a => a ≤ p.length) (fun a => p.length - a) 0 rfl (lA8 _) ?env3 (lA0 _) ?_
   case env3 =>
    exact eE
   intro a ha ih3
   dsimp only at ha ih3 ⊢
   refine EV.seq ?_
   refine EV.seq ?_
   repeat' first | refine su ?_ | refine rg ?_ | (refine cX ?_ ?_ <;> intro h <;> try exact Ah h) | exact ⟨⟩ | fail
   ·have aW : a < p.length := by omega
    have rS := jD a
    have ih4 := ih3 (a + 1) (by omega) (by omega)
    simp only [Ag] at ih4
    generalize Ag (C8 p e.frm) a s = t at *
    refine JA (Tx hp aW aj be cF cT aL rS ih4) ?_ (lA0 _)
    exact eE
   ·have dd : a = p.length := by omega
    subst dd
    refine JA ih2 ?_ (lA0 _)
    exact eE
  ·have hre : r = p.length + 1 := by omega
   subst hre
   have bR : Ag (fun _ s => Jx p e.frm s) (p.length + 1) s0 = Bh p e.frm := by subst_vars; rfl
   have bL := fw (p.length + 1)
   rw [bR] at bL ⊢
   repeat' first | refine st ?_ | refine rg ?_ | exact ⟨⟩ | fail
   refine JE (G' := [(kb, Cl 4 ((Bh p e.frm).k.map vb)), (lb, Cl 3 ((Bh p e.frm).l.map vi)), (rb, Cl 3 ((Bh p e.frm).r.map vi))]) (ρ' := [(4, Av rb p.length p.length), (5, Av lb p.length p.length), (6, Av kb p.length p.length)]) ?_ ?env9
   case env9 =>
    exact eE
   (refine rt Q94_ok ?_; try with_reducible exact ⟨⟩)
   exact ⟨_, _, _, rfl, bL, rfl⟩
end
def Ty (p : List Ev) (e : Exec) : Bool := (List.range p.length).all fun a => (Bh p e.frm).K a
section
variable {M : Aa}
theorem Kg (p : List Ev) (s : Value) (hs : Sl M 6 Fq s p) (hp : p.length ≤ 16) (e : Exec) (v : Value) (hv : IsX M v e) (aj : e.frm.length = p.length) (be : ∀ i, i < p.length → Af e i < p.length) :
  Con Tryz.prog 45 #[s, v] M [] fun u M' _ => (Ty p e = false ∧ u = .tuple #[.slice none 0 0, .slice none 0 0, vb false]) ∨
   (Ty p e = true ∧ ∃ rv lv, u = .tuple #[rv, lv, vb true] ∧ Sl M' 1 ei rv (Bh p e.frm).r ∧ Sl M' 1 ei lv (Bh p e.frm).l) := by
 have aM := hs
 have bY := hv
 obtain ⟨pa, pc, rfl, an⟩ := hs
 obtain ⟨f, d, o, n, rfl, ⟨fa, fc, rfl, bc⟩, ⟨da, dc, rfl, aH⟩, ⟨oa, oc, ovs, rfl, ar, bQ, bi⟩, ⟨na, nc, rfl, _⟩⟩ := hv
 refine Con.enter Q83_ok (args := [.slice pa p.length pc, .agg #[.slice fa e.frm.length fc, .slice da e.dn.length dc, .slice oa e.ord.length oc, .slice na e.fen.length nc]]) (by simp [Q83]) fun w0 => ?_
 simp only [Q83, A9]
 repeat' first | refine st ?_ | refine rg ?_ | ((first | with_reducible intro b | refine xrA rfl ?_ | fail); try refine nx ?_) | exact ⟨⟩ | fail
 refine Con.callS (G1 := []) (Hh p _ aM hp e _ bY aj be) ?_
 rintro v M1 G1 bv ⟨rb, lb, kb, rfl, aG, rfl⟩
 refine JG [] ?_
 generalize hR : M1.add _ = N
 have aA : M.le N := hR ▸ Aa.le_trans bv (JB _ _)
 have lA : ∀ a, a < p.length → rd N kb a 1 [vb ((Bh p e.frm).K a)] := fun a ha => by
  have h1 : a < (Bh p e.frm).k.length := by rw [aG.k]; exact ha
  have h2 := Cg (M := M1) (G := [(kb, Cl 4 ((Bh p e.frm).k.map vb)), (lb, Cl 3 ((Bh p e.frm).l.map vi)), (rb, Cl 3 ((Bh p e.frm).r.map vi))]) (b := kb) (f := vb) h1
  rw [Rk.K, lA2 h1, lAn]
  rw [← hR]
  exact h2.mono (fun b o h => h.imp id fun h => lD6 _ h)
 have ay := aG.r
 have bL := aG.l
 have cn : Sl N 1 ei (Av rb p.length p.length) (Bh p e.frm).r := ⟨some ⟨rb, 0, none⟩, p.length, by rw [ay], .inr ⟨rb, 0, rfl, by
  rw [← hR, A0, ay, lAu]
  exact An 2 rfl (by rw [lBr, lAw (by rw [lA1, ay]; exact lA5 _)]) (by rw [lA1, ay]; omega)⟩⟩
 have gT : Sl N 1 ei (Av lb p.length p.length) (Bh p e.frm).l := ⟨some ⟨lb, 0, none⟩, p.length, by rw [bL], .inr ⟨lb, 0, rfl, by
  rw [← hR, A0, bL, lAu]
  exact An 1 rfl (by rw [lBr, lAw (by rw [lA1, bL]; exact lA5 _)]) (by rw [lA1, bL]; omega)⟩⟩
 clear hR
 repeat' first | refine st ?_ | refine rg ?_ | exact ⟨⟩ | fail
 refine JC (fun a : Nat => ([(0, .slice pa p.length pc), (7, Av rb p.length p.length), (8, Av lb p.length p.length), (9, Av kb p.length p.length), (10, vi a)], N, [])) (fun a => a ≤ p.length ∧ ∀ x, x < a → (Bh p e.frm).K x = true) (fun a => p.length - a) 0 rfl ⟨lA8 _, fun x hx => absurd hx (lBn _)⟩ ?env1 (lAe _) ?_
 case env1 =>
  exact eE
 rintro a ⟨ha, hall⟩ ih
 dsimp only at ha hall ih ⊢
 refine EV.seq ?_
 refine EV.seq ?_
 repeat' first | refine su ?_ | refine rg ?_ | (refine cX ?_ ?_ <;> intro h <;> try exact Ah h) | exact ⟨⟩ | fail
 ·have aW : a < p.length := by omega
  have uy := lA a aW
  have ih2 := fun h => ih (a + 1) ⟨by omega, h⟩ (by omega)
  generalize hK : (Bh p e.frm).K a = y at *
  repeat' first | refine st ?_ | refine rg ?_ | (refine cX ?_ ?_ <;> intro h <;> try exact Ah h) | refine ZF ?_ | (refine xm ?_; try refine nx ?_) | exact ⟨⟩ | fail
  ·have aI : Ty p e = false := by
    unfold Ty
    rw [lDo]
    exact ⟨a, lAl.2 aW, by rw [hK]; simpa using h⟩
   (refine rt Q83_ok ?_; try with_reducible exact ⟨⟩)
   first | exact .inl aI | exact .inl ⟨aI, rfl⟩ | exact ⟨aI, rfl⟩
  ·have hy : y = true := by simpa using h
   refine JA (ih2 fun x hx => ?_) ?_ (lA0 _)
   ·by_cases e1 : x = a
    ·rw [e1, hK]; exact hy
    ·exact hall x (by omega)
   ·exact eE
 ·have bV : Ty p e = true := by
   unfold Ty
   rw [lAz]
   intro x hx
   exact hall x (by have := lAl.1 hx; omega)
  repeat' first | refine st ?_ | refine rg ?_ | exact ⟨⟩ | fail
  (refine rt Q83_ok ?_; try with_reducible exact ⟨⟩)
  exact .inr ⟨bV, _, _, rfl, cn, gT⟩
theorem Nr (p : List Ev) (s : Value) (hs : Sl M 6 Fq s p) (hp : p.length ≤ 16) (e : Exec) (v : Value) (hv : IsX M v e) (ax : e.dn.length = p.length) (rv kv : Value) (fH : Sl M 1 ei rv (Bh p e.frm).r) (gE : Sl M 1 eb kv (Bh p e.frm).k) (aG : (Bh p e.frm).Len p.length) :
  Aq Tryz.prog 44 #[s, v, rv, kv] M (vb ((List.range p.length).all (Hv p e))) := by
 obtain ⟨pa, pc, rfl, an⟩ := hs
 obtain ⟨ra, rc, rfl, cn⟩ := fH
 obtain ⟨ka, kc, rfl, lA⟩ := gE
 obtain ⟨f, d, o, n, rfl, ⟨fa, fc, rfl, bc⟩, ⟨da, dc, rfl, aH⟩, ⟨oa, oc, ovs, rfl, ar, bQ, bi⟩, ⟨na, nc, rfl, _⟩⟩ := hv
 rw [aG.r] at cn
 rw [aG.k] at lA
 refine Con.enter Q100_ok (args := [.slice pa p.length pc, .agg #[.slice fa e.frm.length fc, .slice da e.dn.length dc, .slice oa e.ord.length oc, .slice na e.fen.length nc], .slice ra (Bh p e.frm).r.length rc, .slice ka (Bh p e.frm).k.length kc]) (by simp [Dj3]) fun w0 => ?_
 simp only [Dj3, A9]
 rw [aG.r, aG.k]
 repeat' first | refine st ?_ | refine rg ?_ | (with_reducible intro b; try refine nx ?_) | exact ⟨⟩ | fail
 obtain ⟨xb, rfl⟩ : ∃ x, x = b := ⟨_, rfl⟩
 refine EV.frz [(xb, Cl 37 [.slice fa e.frm.length fc, .slice da e.dn.length dc, .slice oa e.ord.length oc, .slice na e.fen.length nc])] ?_
 generalize hR : M.add _ = N
 have aA : M.le N := hR ▸ JB _ _
 have bX : rd N xb 0 4 [.slice fa e.frm.length fc, .slice da e.dn.length dc, .slice oa e.ord.length oc, .slice na e.fen.length nc] := hR ▸ An 0 rfl rfl (by simp)
 clear hR
 have bK := bX.pt 1 1 (by omega) rfl
 simp only [lBi] at bK
 refine JC (fun a : Nat => ([(0, .slice pa p.length pc), (2, .slice ra p.length rc), (3, .slice ka p.length kc), (5, pv xb 0), (8, vb false), (9, vi a)], N, [])) (fun a => a ≤ p.length ∧ ∀ x, x < a → Hv p e x = true) (fun a => p.length - a) 0 rfl ⟨lA8 _, fun x hx => absurd hx (lBn _)⟩ ?env1 (lAe _) ?_
 case env1 =>
  exact eE
 rintro a ⟨ha, hall⟩ ih
 dsimp only at ha hall ih ⊢
 refine EV.seq ?_
 refine EV.seq ?_
 repeat' first | refine su ?_ | refine rg ?_ | (refine cX ?_ ?_ <;> intro h <;> try exact Ah h) | exact ⟨⟩ | fail
 ·have aW : a < p.length := by omega
  have ih2 := fun h => ih (a + 1) ⟨by omega, h⟩ (by omega)
  have aI : Hv p e a = false → (List.range p.length).all (Hv p e) = false := fun h => lDo.2 ⟨a, lAl.2 aW, by rw [h]; decide⟩
  have cw : Hv p e a = true → ∀ x, x < a + 1 → Hv p e x = true := fun h x hx => by
   by_cases e1 : x = a
   ·rw [e1]; exact h
   ·exact hall x (by omega)
  have rT : rdS N 1 ra (Bh p e.frm).r.length ((Bh p e.frm).r.flatMap ei) := by rw [aG.r]; exact cn.mono aA
  have rU : rdS N 1 ka (Bh p e.frm).k.length ((Bh p e.frm).k.flatMap eb) := by rw [aG.k]; exact lA.mono aA
  obtain ⟨pb, po, rfl, jY⟩ := Sl.at (sz := 6) (enc := Fq) (fun _ => rfl) (by decide) (an.mono aA) (by omega)
  obtain ⟨rb, ro, rfl, rV⟩ := Sl.at (sz := 1) (enc := ei) (fun _ => rfl) (by decide) rT (by rw [aG.r]; omega)
  obtain ⟨kb, ko, rfl, rW⟩ := Sl.at (sz := 1) (enc := eb) (fun _ => rfl) (by decide) rU (by rw [aG.k]; omega)
  obtain ⟨db, dof, rfl, jZ⟩ := Sl.at (sz := 1) (enc := eb) (fun _ => rfl) (by decide) (aH.mono aA) (by omega)
  have eL := jY a aW
  rw [← Dc aW] at eL
  have cW : rd N pb (po + a * 6 + 1) 5 [vi (evAt p a).op.kind, vi (evAt p a).op.loc, vi (evAt p a).op.v, vi (evAt p a).op.w, vi (evAt p a).op.ord] := eL.pt 1 5 (by omega) rfl
  have lr : rd N rb (ro + a) 1 [vi ((Bh p e.frm).R a)] := by
   have h1 : a < (Bh p e.frm).r.length := by rw [aG.r]; exact aW
   have := rV a h1
   rw [lAu] at this
   rw [Rk.R, lA2 h1]; exact this
  have uy : rd N kb (ko + a) 1 [vb ((Bh p e.frm).K a)] := by
   have h1 : a < (Bh p e.frm).k.length := by rw [aG.k]; exact aW
   have := rW a h1
   rw [lAu] at this
   rw [Rk.K, lA2 h1]; exact this
  have j0 : rd N db (dof + a) 1 [vb (B7 e.dn a)] := by
   have := jZ a (by omega)
   rw [lAu] at this
   rw [B7, lA2 (by omega)]; exact this
  have ik : Hv p e a = (!(Bh p e.frm).K a || !((decide ((evAt p a).op.kind = 3) && (B7 e.dn a != decide ((Bh p e.frm).R a = (evAt p a).op.v))) || (decide ((evAt p a).op.kind = 4) && B7 e.dn a && decide ((Bh p e.frm).R a ≠ (evAt p a).op.v)))) := rfl
  rw [ik] at aI cw
  generalize (evAt p a).op = o at *
  generalize (Bh p e.frm).R a = R at *
  generalize (Bh p e.frm).K a = K at *
  generalize B7 e.dn a = D at *
  refine EV.seq ?_
  refine EV.block ?_
  repeat' first | refine st ?_ | refine rg ?_ | (refine cX ?_ ?_ <;> intro h <;> try exact Ah h) | (with_reducible intro b; try refine nx ?_) | refine ZF ?_ | (refine xm ?_; try refine nx ?_) | (refine xw ?_; refine nx ?_) | exact ⟨⟩ | fail
  ·refine JA (ih2 (cw (by simp_all))) ?_ (lAe _)
   exact eE
  ·have uz : K = true := by simpa using h
   subst uz
   refine EV.any (t := At0) [(b, Cl 83 [vi o.kind, vi o.loc, vi o.v, vi o.w, vi o.ord])] (lA0 _) ?_
   simp only [Aj, As, Ak, Au, reduceIte, Nat.reduceEqDiff]
   repeat' first | ((refine ZE ?_ (fun lq aD hc => ?_) (fun lq aD => ?_); rotate_left) <;> (try (exfalso; simp at hc; done)) <;> try refine nz ?_) | ((first | refine zo (fun lq aD => ?_) | refine zl ?_ | fail); try refine nz ?_) | refine zf ?_ | with_reducible rfl | refine ZF ?_ | ((first | refine xm ?_ | refine xn ?_ | refine xiA rfl ?_ | fail); try refine nz ?_) | exact ⟨⟩ | fail
   have vA : (decide (o.kind = 3) && (D != decide (R = o.v)) || decide (o.kind = 4) && D && decide (R ≠ o.v)) = (decide (o.kind = 3) && !(D == decide (R = o.v)) || decide (o.kind = 4) && D && !decide (R = o.v)) := by
    simp [bne]
   rw [vA] at aI cw
   generalize (decide (o.kind = 3) && !(D == decide (R = o.v)) || decide (o.kind = 4) && D && !decide (R = o.v)) = Y at *
   repeat' first | refine st ?_ | refine rg ?_ | (refine cX ?_ ?_ <;> intro h <;> try exact Ah h) | exact ⟨⟩ | fail
   ·(refine rt Q100_ok ?_; try with_reducible exact ⟨⟩)
    rw [aI (by rw [h]; rfl)]
   ·refine JA (ih2 (cw (by rw [h]; rfl))) ?_ (lAe _)
    exact eE
 ·have : (List.range p.length).all (Hv p e) = true := lAz.2 fun x hx => hall x (by have := lAl.1 hx; omega)
  repeat' first | refine st ?_ | refine rg ?_ | exact ⟨⟩ | fail
  (refine rt Q100_ok ?_; try with_reducible exact ⟨⟩)
  rw [this]
end
theorem Bh6 {p : List Ev} {e : Exec} {a : Nat} : EvR p e a ↔ (Bx (evAt p a).op = false → Af e a = -2) ∧ (Bx (evAt p a).op = true → -1 ≤ Af e a ∧ Af e a < p.length) ∧ ((evAt p a).op.kind = 1 ∨ (evAt p a).op.kind = 2 → B7 e.dn a = true) ∧ (Ay (evAt p a).op = false → B7 e.dn a = false) ∧
  (Bx (evAt p a).op = true → 0 ≤ Af e a → B7 e.dn (Af e a).toNat = true ∧ (evAt p (Af e a).toNat).op.loc = (evAt p a).op.loc ∧ Ay (evAt p (Af e a).toNat).op = true) :=
 ⟨fun h => ⟨h.out, h.src, h.do1, h.do0, h.src2⟩, fun ⟨a, b, c, d, e⟩ => ⟨a, b, c, d, e⟩⟩
theorem Tz {C : Cx Tryz.prog} {k : List RItem} {p : List Ev} {e : Exec} {N : Aa} {pa : Option Addr} {pc xb : Nat} {fa da : Option Addr} {fc dc : Nat} (hp : p.length ≤ 16) (dt : ∀ i, i < p.length → 0 ≤ (evAt p i).op.kind ∧ (evAt p i).op.kind ≤ 5) (aj : e.frm.length = p.length) (ax : e.dn.length = p.length)
  (cF : rd N xb 0 1 [.slice fa e.frm.length fc]) (bK : rd N xb 1 1 [.slice da e.dn.length dc])
  (cT : ∀ b, b < p.length → ∃ fb fo, fa = some ⟨fb, fo, none⟩ ∧ rd N fb (fo + b) 1 [vi (Af e b)])
  (dJ : ∀ b, b < p.length → ∃ db dof, da = some ⟨db, dof, none⟩ ∧ rd N db (dof + b) 1 [vb (B7 e.dn b)])
  (aL : ∀ b, b < p.length → ∃ pb po, pa = some ⟨pb, po, none⟩ ∧ rd N pb (po + b * 6) 6 (Fq (evAt p b)))
  (aI : ¬ Shape p e → ∀ k ρ G, get ρ 4 = some (vb false) → EV C [0, 1, 3, 4, 5, 6, 7, 8, 9, 10, 11, 12, 13, 14, 15, 16] (.code .ret :: k) ρ N G)
  (key : (∀ a, a < p.length → EvR p e a) → EV C [0, 1, 3, 4, 5, 6, 7, 8, 9, 10, 11, 12, 13, 14, 15, 16] k [(0, .slice pa p.length pc), (3, pv xb 0), (4, vb false), (5, vi (A5 p).length)] N []) :
  EV C [0, 1, 3, 4, 5, 6, 7, 8, 9, 10, 11, 12, 13, 14, 15, 16] (.code (.loop Wx) :: .inBlock 0 :: k) [(6, vi 0), (0, .slice pa p.length pc), (3, pv xb 0), (4, vb false), (5, vi 0)] N [] := by
 refine JC (fun a : Nat => ([(0, .slice pa p.length pc), (3, pv xb 0), (4, vb false), (5, vi (Cq a fun i => (evAt p i).strong).length), (6, vi a)], N, [])) (fun a => a ≤ p.length ∧ ∀ x, x < a → EvR p e x) (fun a => p.length - a) 0 rfl ⟨lA8 _, fun x hx => absurd hx (lBn _)⟩ ?env1 (lAe _) ?_
 case env1 =>
  exact eE
 rintro a ⟨ha, hall⟩ ih
 dsimp only at ha hall ih ⊢
 refine EV.seq ?_
 refine EV.seq ?_
 repeat' first | refine su ?_ | refine rg ?_ | (refine cX ?_ ?_ <;> intro h <;> try exact Ah h) | exact ⟨⟩ | fail
 ·have aW : a < p.length := by omega
  have ih2 := fun h => ih (a + 1) ⟨by omega, h⟩ (by omega)
  have cw : EvR p e a → ∀ x, x < a + 1 → EvR p e x := fun h x hx => by
   by_cases e1 : x = a
   ·rw [e1]; exact h
   ·exact hall x (by omega)
  have bt : ¬ EvR p e a → ∀ k ρ G, get ρ 4 = some (vb false) → EV C [0, 1, 3, 4, 5, 6, 7, 8, 9, 10, 11, 12, 13, 14, 15, 16] (.code .ret :: k) ρ N G := fun h => aI fun hs => h (hs.evR dt aW)
  have aP : (Cq a fun i => (evAt p i).strong).length ≤ a := A8 _ _
  rw [Ft] at ih2
  generalize (Cq a fun i => (evAt p i).strong) = L at *
  obtain ⟨pb, po, rfl, eL⟩ := aL a aW
  obtain ⟨fb, fo, rfl, iQ⟩ := cT a aW
  obtain ⟨db, dof, rfl, sq⟩ := dJ a aW
  have cW : rd N pb (po + a * 6 + 1) 5 [vi (evAt p a).op.kind, vi (evAt p a).op.loc, vi (evAt p a).op.v, vi (evAt p a).op.w, vi (evAt p a).op.ord] := eL.pt 1 5 (by omega) rfl
  have j4 := Bh6 (p := p) (e := e) (a := a)
  have j5 : (evAt p a).strong = Nn (evAt p a).op := rfl
  rw [j5] at ih2
  generalize lY : (evAt p a).op = o at *
  generalize hfe : Af e a = f at *
  generalize jz : B7 e.dn a = D at *
  have cD := fun G => Gd (M := N.add G) o
  have gh := fun G => Fb (M := N.add G) o
  have l5 := fun G => Ie (M := N.add G) o
  refine EV.seq ?_
  refine EV.block ?_
  refine EV.seq ?_
  repeat' first | refine rg ?_ | (with_reducible intro b; try refine nx ?_) | refine ZF ?_ | (refine xm ?_; try refine nx ?_) | (refine xw ?_; refine nx ?_) | exact ⟨⟩ | fail
  refine EV.seq ?_
  repeat' first | refine rg ?_ | refine ZF ?_ | ((first | refine xm ?_ | refine xn ?_ | fail); try refine nx ?_) | exact ⟨⟩ | fail
  refine EV.seq ?_
  repeat' first | refine st ?_ | refine rg ?_ | with_reducible assumption | ((first | with_reducible refine Aq.call (gh _) ?_ | with_reducible refine Aq.call (cD _) ?_ | fail); try refine nx ?_) | (refine JD ?_ (fun hc K' hK => ?_) ?_; rotate_left) | (refine cX ?_ ?_ <;> intro h <;> try exact Ah h) | refine ZF ?_ | ((first | refine xm ?_ | refine xn ?_ | refine xrA rfl ?_ | refine xiA rfl ?_ | fail); try refine nx ?_) | exact ⟨⟩ | fail
  ·refine bt (fun hE => ?_) _ _ _ rfl
   obtain ⟨g1, g2, g3, g4, _⟩ := j4.1 hE
   clear j4
   cases hr : Bx o <;> cases hw : Ay o <;> cases D <;> simp [hr, hw] at h g1 g2 g3 g4 <;> omega
  have hc : (Bx o = false → f = -2) ∧ (Bx o = true → -1 ≤ f ∧ f < p.length) ∧ (o.kind = 1 ∨ o.kind = 2 → D = true) ∧ (Ay o = false → D = false) := by
   clear j4
   cases hr : Bx o <;> cases hw : Ay o <;> cases D <;> simp [hr, hw] at h ⊢ <;> omega
  refine JA (ρ' := [(0, .slice (some ⟨pb, po, none⟩) p.length pc), (3, pv xb 0), (4, vb false), (5, vi L.length), (6, vi a), (7, pv b 0), (8, vi f)]) ?_ ?env2 (lA0 _)
  case env2 =>
   exact eE
  clear h
  obtain ⟨c1, c2, c3, c4⟩ := hc
  have cR : EvR p e a → EV C [0, 1, 3, 4, 5, 6, 7, 8, 9, 10, 11, 12, 13, 14, 15, 16] (.code (.seq (.reg As2) (.cond (.t 139) (.reg As3) .skip)) :: .inBlock 1 :: .code (.reg As4) :: .inLoop Wx :: .inBlock 0 :: k) [(0, .slice (some ⟨pb, po, none⟩) p.length pc), (3, pv xb 0), (4, vb false), (5, vi L.length), (6, vi a), (7, pv b 0), (8, vi f)] N [(b, Cl 83 [vi o.kind, vi o.loc, vi o.v, vi o.w, vi o.ord])] := by
   intro hE
   have ih3 := ih2 (cw hE)
   clear ih ih2 cw bt aI key j4
   generalize Nn o = y at *
   repeat' first | refine st ?_ | refine rg ?_ | (refine Aq.call (l5 _) ?_; try refine nx ?_) | (refine cX ?_ ?_ <;> intro h <;> try exact Ah h) | (refine xrA rfl ?_; try refine nx ?_) | exact ⟨⟩ | fail
   ·rw [if_pos (by assumption)] at ih3
    simp only [lA4, lB3, lC1] at ih3
    refine JA ih3 ?_ (lAe _)
    exact eE
   ·have hy : ¬ y = true := by simp_all
    rw [if_neg hy, lAa] at ih3
    refine JA ih3 ?_ (lAe _)
    exact eE
  cases hr : Bx o with
  | false =>
   simp only [hr] at cD
   refine EV.any (t := Yb) [(b, Cl 83 [vi o.kind, vi o.loc, vi o.v, vi o.w, vi o.ord])] (lA0 _) ?_
   simp only [Aj, As, Ak, Au, reduceIte, Nat.reduceEqDiff]
   repeat' first | ((refine ZE ?_ (fun lq aD hc => ?_) (fun lq aD => ?_); rotate_left) <;> (try (exfalso; simp at hc; done)) <;> try refine nz ?_) | ((first | refine zo (fun lq aD => ?_) | refine zl ?_ | refine lAb _ (lAd (cD _) ?_) | fail); try refine nz ?_) | refine zf ?_ | (refine xrA rfl ?_; try refine nz ?_) | exact false | exact ⟨⟩ | fail
   repeat' first | refine su ?_ | (refine cX ?_ ?_ <;> intro h <;> try exact Ah h) | fail
   refine JA (cR (j4.2 ⟨c1, c2, c3, c4, fun h => by rw [hr] at h; cases h⟩)) ?_ (lA0 _)
   exact eE
  | true =>
   simp only [hr] at cD
   obtain ⟨d1, d2⟩ := c2 hr
   by_cases h0 : 0 ≤ f
   ·obtain ⟨u, rfl⟩ : ∃ u : Nat, f = u := ⟨f.toNat, by omega⟩
    have bN : u < p.length := by omega
    obtain ⟨pb', po', e1, mD⟩ := aL u bN
    obtain ⟨rfl, rfl⟩ : pb = pb' ∧ po = po' := by simpa using e1
    obtain ⟨db', dof', e2, pB⟩ := dJ u bN
    obtain ⟨rfl, rfl⟩ : db = db' ∧ dof = dof' := by simpa using e2
    have vB : rd N pb (po + u * 6 + 1) 5 [vi (evAt p u).op.kind, vi (evAt p u).op.loc, vi (evAt p u).op.v, vi (evAt p u).op.w, vi (evAt p u).op.ord] := mD.pt 1 5 (by omega) rfl
    have bL : rd N pb (po + u * 6 + 1 + 1) 1 [vi (evAt p u).op.loc] := mD.pt 2 1 (by omega) rfl
    have rX := fun G => Fb (M := N.add G) (evAt p u).op
    have eM : decide ((0 : Int) ≤ (u : Int)) = true := decide_eq_true h0
    rw [lAy] at j4
    generalize (evAt p u).op = q at *
    generalize vC : B7 e.dn u = Du at *
    refine EV.any (t := Yb) [(b, Cl 83 [vi o.kind, vi o.loc, vi o.v, vi o.w, vi o.ord])] (lA0 _) ?_
    simp only [Aj, As, Ak, Au, reduceIte, Nat.reduceEqDiff]
    repeat' first | ((refine ZE ?_ (fun lq aD hc => ?_) (fun lq aD => ?_); rotate_left) <;> (try (exfalso; simp at hc; done)) <;> (repeat first | refine nz ?_ | simp only [eM])) | ((first | refine zo (fun lq aD => ?_) | refine zl ?_ | refine lAb _ (lAd (cD _) ?_) | refine lAb _ (lAd (rX _) ?_) | fail); (repeat first | refine nz ?_ | simp only [eM])) | refine zf ?_ | with_reducible rfl | refine ZF ?_ | ((first | refine xm ?_ | refine xn ?_ | refine xrA rfl ?_ | refine xiA rfl ?_ | fail); (repeat first | refine nz ?_ | simp only [eM])) | fail
    obtain ⟨Y, hY⟩ : ∃ Y, (true && true && (!Du || !decide (q.loc = o.loc) || !Ay q)) = Y := ⟨_, rfl⟩
    rw [hY]
    repeat' first | refine su ?_ | (refine cX ?_ ?_ <;> intro h <;> try exact Ah h) | fail
    ·refine EV.seq ?_
     repeat' first | refine rg ?_ | exact ⟨⟩ | fail
     refine bt (fun hE => ?_) _ _ _ rfl
     obtain ⟨_, _, _, _, g5⟩ := j4.1 hE
     obtain ⟨q1, q2, q3⟩ := g5 hr (by omega)
     simp [q1, q2, q3] at hY
     rw [hY] at h; cases h
    ·have hq : Du = true ∧ q.loc = o.loc ∧ Ay q = true := by
      rw [h] at hY
      simpa [and_assoc] using hY
     refine JA (cR (j4.2 ⟨c1, c2, c3, c4, fun _ _ => hq⟩)) ?_ (lA0 _)
     exact eE
   ·have bw : decide ((0 : Int) ≤ f) = false := decide_eq_false h0
    refine EV.any (t := Yb) [(b, Cl 83 [vi o.kind, vi o.loc, vi o.v, vi o.w, vi o.ord])] (lA0 _) ?_
    simp only [Aj, As, Ak, Au, reduceIte, Nat.reduceEqDiff]
    repeat' first | ((refine ZE ?_ (fun lq aD hc => ?_) (fun lq aD => ?_); rotate_left) <;> (try (exfalso; simp at hc; done)) <;> (repeat first | refine nz ?_ | simp only [bw])) | ((first | refine zo (fun lq aD => ?_) | refine zl ?_ | refine lAb _ (lAd (cD _) ?_) | fail); (repeat first | refine nz ?_ | simp only [bw])) | refine zf ?_ | with_reducible rfl | (refine xrA rfl ?_; (repeat first | refine nz ?_ | simp only [bw])) | exact false | fail
    repeat' first | refine su ?_ | (refine cX ?_ ?_ <;> intro h <;> try exact Ah h) | fail
    refine JA (cR (j4.2 ⟨c1, c2, c3, c4, fun _ h => absurd h h0⟩)) ?_ (lA0 _)
    exact eE
 ·have dd : a = p.length := by omega
  subst dd
  repeat' first | fail
  refine JA (key fun x hx => hall x hx) ?_ (lA0 _)
  exact eE
end Go.EV
