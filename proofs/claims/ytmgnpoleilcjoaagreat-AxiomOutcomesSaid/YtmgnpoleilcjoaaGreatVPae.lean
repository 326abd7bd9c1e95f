/- Part of the proof of a statement about executions of litmus programs: walks and laws. -/
import Derived.Test.YtmgnpoleilcjoaaGreatVPad
import Derived.Test.YtmgnpoleilcjoaaGreatVPac
import Derived.Shelf.SortG.Plain
import Derived.Shelf.SortG.SortNone
import Derived.Shelf.SlGeneric
import Derived.Ground.SlgnProg
import Derived.Test.YtmgnpoleilcjoaaGreatProg
import Derived.Test.YtmgnpoleilcjoaaGreatVPab
set_option maxHeartbeats 8000000
set_option maxRecDepth 8000
set_option linter.unusedSimpArgs false
set_option linter.unusedVariables false
set_option linter.unusedSectionVars false
namespace Go.EV
open Go.Proofs
structure Rk where
 r : List Int
 l : List Int
 k : List Bool
 f : List Bool
def Rk.R (s : Rk) (i : Nat) : Int := s.r[i]?.getD 0
def Rk.L (s : Rk) (i : Nat) : Int := s.l[i]?.getD 0
def Rk.K (s : Rk) (i : Nat) : Bool := s.k[i]?.getD false
def Rk.F (s : Rk) (i : Nat) : Bool := s.f[i]?.getD false
structure Rk.Len (s : Rk) (n : Nat) : Prop where
 r : s.r.length = n
 l : s.l.length = n
 k : s.k.length = n
 f : s.f.length = n
def Rr (p : List Ev) (i : Nat) (s : Rk) : Rk :=
 { s with f := s.f.set i (decide ((evAt p i).op.kind ≠ 2)), l := if (evAt p i).op.kind = 1 then s.l.set i (evAt p i).op.v else if (evAt p i).op.kind = 3 ∨ (evAt p i).op.kind = 4 then s.l.set i (evAt p i).op.w else s.l }
def rk0 (p : List Ev) : Rk := Ag (Rr p) p.length ⟨List.replicate p.length 0, List.replicate p.length 0, List.replicate p.length false, List.replicate p.length false⟩
def B1 (f : List Int) (i : Nat) (s : Rk) : Rk := { s with k := s.k.set i true, r := if 0 ≤ B0 f i then s.r.set i (s.l[(B0 f i).toNat]?.getD 0) else s.r }
def Gm (p : List Ev) (i : Nat) (s : Rk) : Rk := if (evAt p i).op.kind = 2 then { s with l := s.l.set i (IntKind.i64.wrap (s.r[i]?.getD 0 + (evAt p i).op.v)), f := s.f.set i true } else s
def C4 (p : List Ev) (f : List Int) (i : Nat) (s : Rk) : Rk :=
 if s.K i || (decide (0 ≤ B0 f i) && !s.F (B0 f i).toNat) then s else Gm p i (B1 f i s)
def Jb (p : List Ev) (f : List Int) (s : Rk) : Rk := Ag (C4 p f) p.length s
def Bg (p : List Ev) (f : List Int) : Rk := Ag (fun _ s => Jb p f s) (p.length + 1) (rk0 p)
section
variable {p : List Ev} {f : List Int}
structure Rk.Ok (p : List Ev) (f : List Int) (s : Rk) : Prop where
 len : s.Len p.length
 out : ∀ i, i < p.length → (evAt p i).reads = false → s.R i = 0
 kn : ∀ i, i < p.length → (evAt p i).reads = true → s.K i = true → Kn p f i (s.R i)
 no : ∀ i, s.K i = false → s.R i = 0
 st : ∀ i, i < p.length → (evAt p i).op.kind = 1 → s.F i = true ∧ s.L i = (evAt p i).op.v
 cs : ∀ i, i < p.length → ((evAt p i).op.kind = 3 ∨ (evAt p i).op.kind = 4) → s.F i = true ∧ s.L i = (evAt p i).op.w
 ad : ∀ i, i < p.length → (evAt p i).op.kind = 2 → (s.F i = true ↔ s.K i = true) ∧ (s.K i = true → s.L i = IntKind.i64.wrap (s.R i + (evAt p i).op.v))
theorem Xz (p : List Ev) : ∀ m, m ≤ p.length → (Ag (Rr p) m ⟨List.replicate p.length 0, List.replicate p.length 0, List.replicate p.length false, List.replicate p.length false⟩).Len p.length ∧
  (∀ i, (Ag (Rr p) m ⟨List.replicate p.length 0, List.replicate p.length 0, List.replicate p.length false, List.replicate p.length false⟩).R i = 0) ∧
  (∀ i, (Ag (Rr p) m ⟨List.replicate p.length 0, List.replicate p.length 0, List.replicate p.length false, List.replicate p.length false⟩).K i = false) ∧
  (∀ i, (Ag (Rr p) m ⟨List.replicate p.length 0, List.replicate p.length 0, List.replicate p.length false, List.replicate p.length false⟩).F i = (decide (i < m) && decide ((evAt p i).op.kind ≠ 2))) ∧
  (∀ i, i < m → ((evAt p i).op.kind = 1 → (Ag (Rr p) m ⟨List.replicate p.length 0, List.replicate p.length 0, List.replicate p.length false, List.replicate p.length false⟩).L i = (evAt p i).op.v) ∧
   (((evAt p i).op.kind = 3 ∨ (evAt p i).op.kind = 4) → (Ag (Rr p) m ⟨List.replicate p.length 0, List.replicate p.length 0, List.replicate p.length false, List.replicate p.length false⟩).L i = (evAt p i).op.w))
 | 0, _ => by
  refine ⟨⟨by simp [Ag], by simp [Ag], by simp [Ag], by simp [Ag]⟩, fun i => ?_, fun i => ?_, fun i => ?_, fun i h => by omega⟩
  ·simp only [Ag, Rk.R, lBv]; split <;> rfl
  ·simp only [Ag, Rk.K, lBv]; split <;> rfl
  ·simp only [Ag, Rk.F, lBv]
   have : decide (i < 0) = false := decide_eq_false (lBy _)
   rw [this, lCa]; split <;> rfl
 | m + 1, hm => by
  obtain ⟨hl, h1, h2, h3, h4⟩ := Xz p m (by omega)
  rw [Ag]
  generalize Ag (Rr p) m ⟨List.replicate p.length 0, List.replicate p.length 0, List.replicate p.length false, List.replicate p.length false⟩ = s at hl h1 h2 h3 h4 ⊢
  have bA : m < s.f.length := by rw [hl.f]; omega
  have bV : m < s.l.length := by rw [hl.l]; omega
  refine ⟨⟨hl.r, ?_, hl.k, by simp [Rr, hl.f]⟩, h1, h2, fun i => ?_, fun i hi => ?_⟩
  ·unfold Rr; dsimp only; split
   ·simp [hl.l]
   ·split <;> simp [hl.l]
  ·show (s.f.set m (decide ((evAt p m).op.kind ≠ 2)))[i]?.getD false = _
   rw [Be bA]
   by_cases fO : i = m
   ·subst fO; simp
   ·rw [if_neg fO]
    have : decide (i < m + 1) = decide (i < m) := by rw [decide_eq_decide]; omega
    rw [this]; exact h3 i
  ·have hL : (Rr p m s).L i = if i = m then (if (evAt p m).op.kind = 1 then (evAt p m).op.v else if (evAt p m).op.kind = 3 ∨ (evAt p m).op.kind = 4 then (evAt p m).op.w else s.L i) else s.L i := by
    unfold Rr Rk.L
    dsimp only
    split
    ·rw [Be bV]
    ·split
     ·rw [Be bV]
     ·split <;> rfl
   rw [hL]
   by_cases fO : i = m
   ·subst fO
    rw [if_pos rfl]
    refine ⟨fun hk => by rw [if_pos hk], fun hk => by rw [if_neg (by omega), if_pos hk]⟩
   ·rw [if_neg fO]; exact h4 i (by omega)
theorem rk0_ok (p : List Ev) (f : List Int) : (rk0 p).Ok p f := by
 obtain ⟨hl, h1, h2, h3, h4⟩ := Xz p p.length (lA5 _)
 refine ⟨hl, fun i _ _ => h1 i, fun i _ _ h => ?_, fun i _ => h1 i, fun i hi hk => ⟨?_, (h4 i hi).1 hk⟩, fun i hi hk => ⟨?_, (h4 i hi).2 hk⟩, fun i hi hk => ⟨?_, fun h => ?_⟩⟩
 ·have := h2 i
  rw [show (rk0 p).K i = false from this] at h; cases h
 ·show (rk0 p).F i = true
  have := h3 i
  rw [show (rk0 p).F i = _ from this, decide_eq_true hi]; simp [hk]
 ·show (rk0 p).F i = true
  have := h3 i
  rw [show (rk0 p).F i = _ from this, decide_eq_true hi]; simp; omega
 ·have e1 : (rk0 p).K i = false := h2 i
  have e2 : (rk0 p).F i = _ := h3 i
  rw [e1, e2]; simp [hk]
 ·have e1 : (rk0 p).K i = false := h2 i
  rw [e1] at h; cases h
theorem rkStep_ok (hf : C9 p f) (hs : Ll p f) (aa : ∀ i, i < p.length → (evAt p i).reads = false → B0 f i < 0) {s : Rk} {i : Nat} (hi : i < p.length) (h : s.Ok p f) : (C4 p f i s).Ok p f := by
 unfold C4
 split
 ·exact h
 rename_i hc
 simp only [lAq, lA6, decide_eq_true_eq, lB8, not_or, not_and, lFa] at hc
 obtain ⟨jy, qD⟩ := hc
 have hl := h.len
 have d7 : i < s.k.length := by rw [hl.k]; exact hi
 have io : i < s.r.length := by rw [hl.r]; exact hi
 obtain ⟨x, hx, ib⟩ : ∃ x, (B1 f i s).r = (if 0 ≤ B0 f i then s.r.set i x else s.r) ∧ ((evAt p i).reads = true → Kn p f i (if 0 ≤ B0 f i then x else s.R i)) := by
  refine ⟨s.l[(B0 f i).toNat]?.getD 0, rfl, fun hr => ?_⟩
  rcases hf.2 i hi hr with h0 | ⟨h0, h1⟩
  ·have oF : B0 f i = -1 := h0
   rw [if_neg (by omega), h.no i jy]; exact .init hi hr oF
  ·have oF : 0 ≤ B0 f i := h0
   rw [if_pos oF]
   obtain ⟨w, hw⟩ : ∃ w : Nat, B0 f i = w := ⟨(B0 f i).toNat, by omega⟩
   have cU : (B0 f i).toNat = w := by omega
   obtain ⟨cF, k1, k4⟩ := hs i w hi hr hw
   have hF : s.F w = true := by
    have := qD oF
    rw [cU] at this
    simpa using this
   rw [cU]
   show Kn p f i (s.L w)
   by_cases q1 : (evAt p w).op.kind = 1
   ·rw [(h.st w cF q1).2]; exact .store hi hr hw q1
   ·by_cases q2 : (evAt p w).op.kind = 2
    ·obtain ⟨a1, a2⟩ := h.ad w cF q2
     have j7 := a1.1 hF
     rw [a2 j7]; exact .add hi hr hw q2 (h.kn w cF (by simp [Ev.reads, q2]) j7)
    ·rw [(h.cs w cF (by omega)).2]; exact .cas hi hr hw (by omega)
 have qE : ∀ j, (B1 f i s).R j = if j = i ∧ 0 ≤ B0 f i then x else s.R j := by
  intro j
  unfold Rk.R
  rw [hx]
  by_cases h0 : 0 ≤ B0 f i
  ·rw [if_pos h0, Be io]
   by_cases ay : j = i
   ·rw [if_pos ay, if_pos ⟨ay, h0⟩]
   ·rw [if_neg ay, if_neg (fun h => ay h.1)]
  ·rw [if_neg h0, if_neg (fun h => h0 h.2)]
 have mn : ∀ j, (B1 f i s).K j = if j = i then true else s.K j := fun j => Be d7
 have sD : (B1 f i s).l = s.l := rfl
 have sE : (B1 f i s).f = s.f := rfl
 have cq : (B1 f i s).Len p.length := ⟨by rw [hx]; split <;> simp [hl.r], hl.l, by simp [B1, hl.k], hl.f⟩
 have hne : ∀ j, j ≠ i → (B1 f i s).R j = s.R j := fun j hj => by rw [qE, if_neg (fun h => hj h.1)]
 have jc : ∀ j, j < p.length → (evAt p j).reads = false → (B1 f i s).R j = 0 := fun j hj hr => by
  rw [qE]
  split
  ·rename_i hc; have := aa j hj hr; rw [hc.1] at this; omega
  ·exact h.out j hj hr
 have mo : ∀ j, j < p.length → (evAt p j).reads = true → (B1 f i s).K j = true → Kn p f j ((B1 f i s).R j) := fun j hj hr dJ => by
  by_cases ay : j = i
  ·subst ay
   have := ib hr
   rw [qE]
   by_cases h0 : 0 ≤ B0 f j
   ·rw [if_pos h0] at this; rw [if_pos ⟨rfl, h0⟩]; exact this
   ·rw [if_neg h0] at this; rw [if_neg (fun h => h0 h.2)]; exact this
  ·rw [hne j ay]; rw [mn, if_neg ay] at dJ; exact h.kn j hj hr dJ
 have mp : ∀ j, (B1 f i s).K j = false → (B1 f i s).R j = 0 := fun j dJ => by
  rw [mn] at dJ
  by_cases ay : j = i
  ·rw [if_pos ay] at dJ; cases dJ
  ·rw [if_neg ay] at dJ; rw [hne j ay]; exact h.no j dJ
 unfold Gm
 split
 ·rename_i bh
  have cG : i < (B1 f i s).l.length := by rw [cq.l]; exact hi
  have kR : i < (B1 f i s).f.length := by rw [cq.f]; exact hi
  generalize bm : B1 f i s = s1 at *
  have kf : ∀ j, ({ s1 with l := s1.l.set i (IntKind.i64.wrap (s1.r[i]?.getD 0 + (evAt p i).op.v)), f := s1.f.set i true } : Rk).L j = if j = i then IntKind.i64.wrap (s1.R i + (evAt p i).op.v) else s.L j := fun j => by
   show (s1.l.set i _)[j]?.getD 0 = _
   rw [Be cG]; split
   ·rfl
   ·show s1.l[j]?.getD 0 = _; rw [sD]; rfl
  have kg : ∀ j, ({ s1 with l := s1.l.set i (IntKind.i64.wrap (s1.r[i]?.getD 0 + (evAt p i).op.v)), f := s1.f.set i true } : Rk).F j = if j = i then true else s.F j := fun j => by
   show (s1.f.set i true)[j]?.getD false = _
   rw [Be kR]; split
   ·rfl
   ·show s1.f[j]?.getD false = _; rw [sE]; rfl
  refine ⟨⟨cq.r, by simp [cq.l], cq.k, by simp [cq.f]⟩, jc, mo, mp, fun j hj dJ => ?_, fun j hj dJ => ?_, fun j hj dJ => ?_⟩
  ·rw [kg, kf, if_neg (fun e => by subst e; omega), if_neg (fun e => by subst e; omega)]; exact h.st j hj dJ
  ·rw [kg, kf, if_neg (fun e => by subst e; omega), if_neg (fun e => by subst e; omega)]; exact h.cs j hj dJ
  ·rw [kg, kf]
   show ((if j = i then true else s.F j) = true ↔ s1.K j = true) ∧ (s1.K j = true → _ = IntKind.i64.wrap (s1.R j + _))
   by_cases ay : j = i
   ·subst ay
    rw [if_pos rfl, if_pos rfl, mn, if_pos rfl]
    exact ⟨Iff.rfl, fun _ => rfl⟩
   ·rw [if_neg ay, if_neg ay, mn, if_neg ay, hne j ay]
    exact h.ad j hj dJ
 ·rename_i bh
  have kf : ∀ j, (B1 f i s).L j = s.L j := fun j => by unfold Rk.L; rw [sD]
  have kg : ∀ j, (B1 f i s).F j = s.F j := fun j => by unfold Rk.F; rw [sE]
  refine ⟨cq, jc, mo, mp, fun j hj dJ => ?_, fun j hj dJ => ?_, fun j hj dJ => ?_⟩
  ·rw [kg, kf]; exact h.st j hj dJ
  ·rw [kg, kf]; exact h.cs j hj dJ
  ·have ay : j ≠ i := fun e => by subst e; exact bh dJ
   rw [kg, kf, mn, if_neg ay, hne j ay]
   exact h.ad j hj dJ
theorem Ut {s : Rk} {i x : Nat} (hl : i < s.k.length) (h : s.K x = true) : (C4 p f i s).K x = true := by
 unfold C4
 split
 ·exact h
 ·have h1 : (B1 f i s).K x = true := by
   show (s.k.set i true)[x]?.getD false = true
   rw [Be hl]; split
   ·rfl
   ·exact h
  unfold Gm
  split
  ·exact h1
  ·exact h1
theorem Wk {s : Rk} {i : Nat} (hl : i < s.k.length) (h : B0 f i < 0 ∨ s.F (B0 f i).toNat = true) : (C4 p f i s).K i = true := by
 unfold C4
 split
 ·rename_i hc
  simp only [lAq, lA6, decide_eq_true_eq, lB8] at hc
  rcases hc with hc | ⟨h0, h1⟩
  ·exact hc
  ·rcases h with h | h
   ·omega
   ·rw [h] at h1; cases h1
 ·have h1 : (B1 f i s).K i = true := by
   show (s.k.set i true)[i]?.getD false = true
   rw [Be hl, if_pos rfl]
  unfold Gm
  split
  ·exact h1
  ·exact h1
theorem Za {s : Rk} {i x : Nat} (hl : i < s.f.length) (h : s.F x = true) : (C4 p f i s).F x = true := by
 unfold C4
 split
 ·exact h
 ·have h1 : (B1 f i s).F x = true := h
  unfold Gm
  split
  ·show ((B1 f i s).f.set i true)[x]?.getD false = true
   rw [Be (by exact hl)]; split
   ·rfl
   ·exact h1
  ·exact h1
theorem Nt (hf : C9 p f) (hs : Ll p f) (aa : ∀ i, i < p.length → (evAt p i).reads = false → B0 f i < 0) {s : Rk} (h : s.Ok p f) : ∀ m, m ≤ p.length → (Ag (C4 p f) m s).Ok p f ∧
  (∀ x, s.K x = true → (Ag (C4 p f) m s).K x = true) ∧ (∀ x, s.F x = true → (Ag (C4 p f) m s).F x = true) ∧
  (∀ i, i < m → (B0 f i < 0 ∨ s.F (B0 f i).toNat = true) → (Ag (C4 p f) m s).K i = true)
 | 0, _ => ⟨h, fun _ h => h, fun _ h => h, fun i hi => by omega⟩
 | m + 1, hm => by
  obtain ⟨h1, h2, h3, h4⟩ := Nt hf hs aa h m (by omega)
  have hk : m < (Ag (C4 p f) m s).k.length := by rw [h1.len.k]; omega
  have sF : m < (Ag (C4 p f) m s).f.length := by rw [h1.len.f]; omega
  refine ⟨rkStep_ok hf hs aa (by omega) h1, fun x hx => Ut hk (h2 x hx), fun x hx => Za sF (h3 x hx), fun i hi hx => ?_⟩
  by_cases fO : i = m
  ·subst fO
   exact Wk hk (hx.imp id (h3 _))
  ·exact Ut hk (h4 i (by omega) hx)
theorem rkAll_ok (hf : C9 p f) (hs : Ll p f) (aa : ∀ i, i < p.length → (evAt p i).reads = false → B0 f i < 0) : ∀ k, (Ag (fun _ s => Jb p f s) k (rk0 p)).Ok p f
 | 0 => rk0_ok p f
 | k + 1 => (Nt hf hs aa (rkAll_ok hf hs aa k) _ (lA5 _)).1
theorem Rs (hf : C9 p f) (hs : Ll p f) (aa : ∀ i, i < p.length → (evAt p i).reads = false → B0 f i < 0) : ∀ (m i : Nat), i < p.length → (evAt p i).reads = true → (Ag (fun _ s => Jb p f s) (m + 1) (rk0 p)).K i = false →
  ∃ g : Nat → Nat, g 0 = i ∧ (∀ j, j ≤ m → g j < p.length) ∧ ∀ j, j < m → B0 f (g j) = (g (j + 1) : Nat) ∧ (evAt p (g (j + 1))).op.kind = 2
 | 0, i, hi, _, _ => ⟨fun _ => i, rfl, fun _ _ => hi, fun j hj => by omega⟩
 | m + 1, i, hi, hr, hk => by
  have ae := rkAll_ok hf hs aa (m + 1)
  obtain ⟨_, _, _, h4⟩ := Nt hf hs aa ae _ (lA5 _)
  have aP : ¬ (B0 f i < 0 ∨ (Ag (fun _ s => Jb p f s) (m + 1) (rk0 p)).F (B0 f i).toNat = true) := fun h => by
   have : (Ag (fun _ s => Jb p f s) (m + 1 + 1) (rk0 p)).K i = true := h4 i hi h
   rw [hk] at this; cases this
  have h0 : ¬ B0 f i < 0 := fun h => aP (.inl h)
  obtain ⟨w, hw⟩ : ∃ w : Nat, B0 f i = w := ⟨(B0 f i).toNat, by omega⟩
  have cU : (B0 f i).toNat = w := by omega
  have hF : ¬ (Ag (fun _ s => Jb p f s) (m + 1) (rk0 p)).F w = true := fun h => aP (.inr (by rw [cU]; exact h))
  obtain ⟨cF, k1, k4⟩ := hs i w hi hr hw
  have bh : (evAt p w).op.kind = 2 := by
   apply lBc; intro h2
   by_cases q1 : (evAt p w).op.kind = 1
   ·exact hF (ae.st w cF q1).1
   ·exact hF (ae.cs w cF (by omega)).1
  have j7 : (Ag (fun _ s => Jb p f s) (m + 1) (rk0 p)).K w = false := by
   cases hq : (Ag (fun _ s => Jb p f s) (m + 1) (rk0 p)).K w with
   | false => rfl
   | true => exact absurd ((ae.ad w cF bh).1.2 hq) hF
  obtain ⟨g, g1, g2, g3⟩ := Rs hf hs aa m w cF (by simp [Ev.reads, bh]) j7
  refine ⟨fun j => if j = 0 then i else g (j - 1), rfl, fun j hj => ?_, fun j hj => ?_⟩
  ·by_cases h0 : j = 0
   ·simp [h0, hi]
   ·simp only [h0, if_false]; exact g2 _ (by omega)
  ·by_cases h0 : j = 0
   ·subst h0; simpa [g1] using ⟨hw, bh⟩
   ·have := g3 (j - 1) (by omega)
    rw [show j - 1 + 1 = j by omega] at this
    simpa [h0] using this
theorem Cw4 (hf : C9 p f) (hs : Ll p f) (aa : ∀ i, i < p.length → (evAt p i).reads = false → B0 f i < 0) {i : Nat} (hi : i < p.length) (hr : (evAt p i).reads = true) : ((Bg p f).K i = true ↔ ∃ x, Kn p f i x) ∧ ∀ x, Kn p f i x → (Bg p f).R i = x := by
 have ae := rkAll_ok hf hs aa (p.length + 1)
 have hall : ∀ x, Kn p f i x → (Bg p f).K i = true := by
  intro x hx
  cases h : (Bg p f).K i with
  | true => rfl
  | false =>
   exfalso
   obtain ⟨g, g1, g2, g3⟩ := Rs hf hs aa p.length i hi hr h
   obtain ⟨G, e1, e2⟩ := Up (F := B0 f) (Q := fun w => (evAt p w).op.kind = 2) (lA5 _) g2 g3
   exact hx.ends G (e1.trans g1) e2
 exact ⟨⟨fun h => ⟨_, ae.kn i hi hr h⟩, fun ⟨x, hx⟩ => hall x hx⟩, fun x hx => (ae.kn i hi hr (hall x hx)).uniq hx⟩
theorem Aq9 (hf : C9 p f) (hs : Ll p f) (aa : ∀ i, i < p.length → (evAt p i).reads = false → B0 f i < 0) {i : Nat} (hi : i < p.length) (hr : (evAt p i).reads = false) : (Bg p f).K i = true :=
 (Nt hf hs aa (rkAll_ok hf hs aa p.length) _ (lA5 _)).2.2.2 i hi (.inl (aa i hi hr))
end
theorem Shape.outLt {p : List Ev} {e : Exec} (h : Shape p e) : ∀ i, i < p.length → (evAt p i).reads = false → B0 e.frm i < 0 := fun i hi hr => by
 have : B0 e.frm i = -2 := h.out i hi hr
 omega
theorem Am8 {p : List Ev} {e : Exec} (hs : Shape p e) (al : Tz p e) : ∀ i, i < p.length → (Bg p e.frm).R i = (Aw p e.frm).R i ∧ (1 ≤ (evAt p i).op.kind → (evAt p i).op.kind ≤ 4 → (Bg p e.frm).L i = (Aw p e.frm).W i) := by
 intro i hi
 have ae := rkAll_ok hs.fromOk hs.srcOk hs.outLt (p.length + 1)
 have hw := hs.words al
 have hR : (Bg p e.frm).R i = (Aw p e.frm).R i := by
  cases hr : (evAt p i).reads with
  | false => rw [hw.out i hi hr]; exact ae.out i hi hr
  | true => exact (Cw4 hs.fromOk hs.srcOk hs.outLt hi hr).2 _ (Rq hs al hi hr)
 refine ⟨hR, fun h1 h4 => ?_⟩
 by_cases k1 : (evAt p i).op.kind = 1
 ·rw [hw.store i hi k1]; exact (ae.st i hi k1).2
 ·by_cases k2 : (evAt p i).op.kind = 2
  ·have hr : (evAt p i).reads = true := by simp [Ev.reads, k2]
   have hK := (Cw4 hs.fromOk hs.srcOk hs.outLt hi hr).1.2 ⟨_, Rq hs al hi hr⟩
   rw [hw.add i hi k2, ← hR]; exact (ae.ad i hi k2).2 hK
  ·rw [hw.cas i hi (by omega)]; exact (ae.cs i hi (by omega)).2
theorem Wl {l m : List Int} (hl : l.Nodup) (hm : m.Nodup) (h : ∀ x, x ∈ l ↔ x ∈ m) : l.Perm m := (List.perm_ext_iff_of_nodup hl hm).2 h
structure Emb (p q : List Ev) (ι j : Nat → Nat) (σ : Int → Int) : Prop where
 lt : ∀ a, a < p.length → ι a < q.length
 inv : ∀ a, a < p.length → j (ι a) = a
 back : ∀ b, b < q.length → (evAt q b).op.kind ≠ 5 → j b < p.length ∧ ι (j b) = b
 sb : ∀ a b, a < b → b < p.length → (evAt p a).th = (evAt p b).th → ι a < ι b ∧ (evAt q (ι a)).th = (evAt q (ι b)).th
 kind : ∀ a, a < p.length → (evAt q (ι a)).op.kind = (evAt p a).op.kind
 v : ∀ a, a < p.length → (evAt q (ι a)).op.v = (evAt p a).op.v
 w : ∀ a, a < p.length → (evAt q (ι a)).op.w = (evAt p a).op.w
 loc : ∀ a, a < p.length → (evAt p a).op.kind ≠ 5 → (evAt q (ι a)).op.loc = σ (evAt p a).op.loc
 rel : ∀ a, a < p.length → (evAt p a).rel = true → (evAt q (ι a)).rel = true
 acq : ∀ a, a < p.length → (evAt p a).acq = true → (evAt q (ι a)).acq = true
 strong : ∀ a, a < p.length → (evAt p a).strong = true → (evAt q (ι a)).strong = true
 σ3 : ∀ k, 0 ≤ k → k < 3 → 0 ≤ σ k ∧ σ k < 3
 σi : ∀ k k', 0 ≤ k → k < 3 → 0 ≤ k' → k' < 3 → σ k = σ k' → k = k'
theorem Jv {p : List Ev} {x : Int} : x ∈ Ba p ↔ ∃ i : Nat, x = i ∧ i < p.length ∧ (evAt p i).strong = true := by
 rw [Ba, B5]
 constructor
 ·rintro ⟨i, h1, h2, h3⟩; exact ⟨i, h3, h1, h2⟩
 ·rintro ⟨i, h3, h1, h2⟩; exact ⟨i, h1, h2, h3⟩
section
variable {p q : List Ev} {ι j : Nat → Nat} {σ : Int → Int} {e : Exec}
section
variable (H : Emb p q ι j σ) (hp : POk p) (hq : POk q) (qF : Nn q) (hs : Shape q e)
include H hs
include hp in
include hp in
omit hs in
omit hs in
omit hs in
include qF in
omit H hs in
include hp in
include hp qF in
include hp in
include hp hq qF in
omit H hs in
include hp in
end
end
theorem Cm {α β : Type} {f : α → List β} : ∀ {l : List α}, l.Nodup → (∀ x ∈ l, (f x).Nodup) → (∀ x ∈ l, ∀ y ∈ l, x ≠ y → ∀ z, z ∈ f x → z ∉ f y) → (l.flatMap f).Nodup
 | [], _, _, _ => lCe
 | x :: l, h1, h2, h3 => by
  obtain ⟨a, b⟩ := lD0.1 h1
  rw [lC4, lCb]
  refine ⟨h2 x (lAz ..), Cm b (fun y hy => h2 y (lB6 _ hy)) (fun y hy z hz => h3 y (lB6 _ hy) z (lB6 _ hz)), ?_⟩
  intro u hu v hv e
  subst e
  obtain ⟨y, hy, hv⟩ := lB3.1 hv
  exact h3 x (lAz ..) y (lB6 _ hy) (fun e => a (e ▸ hy)) u hu hv
theorem Ha {α β : Type} {f : α → β} {l : List α} (h : l.Nodup) (hi : ∀ x ∈ l, ∀ y ∈ l, f x = f y → x = y) : (l.map f).Nodup := by
 rw [lBt, lDn]
 exact List.Pairwise.imp_of_mem (fun {a b} ha hb hne he => hne (hi a ha b hb he)) (lBt.1 h)
theorem Mo (n : Nat) : (List.range n).Nodup := List.nodup_range
theorem Uu (p : List Ev) : (Gu p).Nodup := by
 refine Ha (Mo _) fun a ha b hb he => ?_
 rw [lAn] at ha hb
 refine Nat.eq_of_testBit_eq fun j => ?_
 by_cases hj : j < (Bn p).length
 ·have hin : Ae (Bn p) j ∈ Bn p := Gw.2 ⟨j, hj, rfl⟩
  obtain ⟨w, aT, _, dD⟩ := B5.1 hin
  have h1 := (Kq p a w aT _ (lA5 _)).1 j hj dD
  have h2 := (Kq p b w aT _ (lA5 _)).1 j hj dD
  unfold Ih at he
  rw [← h1, ← h2, he]
 ·rw [lEz (lAv ha (lCf (by decide) (by omega))), lEz (lAv hb (lCf (by decide) (by omega)))]
theorem Kz {p : List Ev} : ∀ (n : Nat) (l : List Int), l.length = n → l.Pairwise (· < ·) → (Bw p n l).Nodup
 | 0, _, _, _ => by simp [Bw]
 | n + 1, l, hl, ha => by
  refine Cm (Mo _) (fun i hi => ?_) (fun i hi j hj hne z hz gw => ?_)
  ·rw [lAn] at hi
   split
   ·exact lCe
   ·refine Ha (Kz n _ (by rw [lD7 (by omega)]; omega) (ha.sublist (lF6 ..))) fun x _ y _ e => ?_
    simpa using e
  ·rw [lAn] at hi hj
   have key : ∀ i, z ∈ (if D8 p l i = true then [] else (Bw p n (l.eraseIdx i)).map (Ae l i :: ·)) → z.head? = some (Ae l i) := by
    intro i h
    split at h
    ·exact absurd h lB4
    ·obtain ⟨m, _, rfl⟩ := lAi.1 h; rfl
   have h1 := key i hz
   have h2 := key j gw
   rw [h1] at h2
   exact hne (Ae7 ha (by omega) (by omega) (Option.some.inj h2))
theorem K0 {p : List Ev} {l : List Int} (h : l.Pairwise (· < ·)) : (Cn p l).Nodup := Kz _ l rfl h
theorem K1 {p : List Ev} {dn : List Bool} : ∀ (k : Nat) (loc : Int), (Bs p dn k loc).Nodup
 | 0, _ => by simp [Bs]
 | k + 1, loc => by
  refine Cm (K0 (Ei _ _ _)) (fun x _ => Ha (K1 k (loc + 1)) fun a _ b _ e => by simpa using e) (fun x _ y _ hne z hz gw => ?_)
  obtain ⟨a, _, rfl⟩ := lAi.1 hz
  obtain ⟨b, _, e⟩ := lAi.1 gw
  simp only [List.cons.injEq] at e
  exact hne e.1.symm
theorem Mp {p : List Ev} {dn : List Bool} {ord : List (List Int)} (hc : ∀ i, (Bd p dn ord i).Nodup) : ∀ (k i : Nat), (B9 p dn ord k i).Nodup
 | 0, _ => by simp [B9]
 | k + 1, i => by
  refine Cm (hc i) (fun x _ => Ha (Mp hc k (i + 1)) fun a _ b _ e => by simpa using e) (fun x _ y _ hne z hz gw => ?_)
  obtain ⟨a, _, rfl⟩ := lAi.1 hz
  obtain ⟨b, _, e⟩ := lAi.1 gw
  simp only [List.cons.injEq] at e
  exact hne e.1.symm
theorem S4 {p : List Ev} {dn : List Bool} {ord : List (List Int)} (ho : ord ∈ On p dn) (i : Nat) : (Bd p dn ord i).Nodup := by
 unfold Bd
 split
 ·simp
 ·split
  ·simp
  ·unfold H4
   rcases hq : ord[(evAt p i).op.loc.toNat]? with _ | l
   ·simp
   ·rw [lAr]
    obtain ⟨hk, rfl⟩ := lCt.1 hq
    obtain ⟨h1, h2⟩ := (Fo 3 0 ord).1 ho
    have hm := h2 (evAt p i).op.loc.toNat (by omega)
    rw [hq, lAr] at hm
    have hp := Ey hm
    refine lD0.2 ⟨fun h => ?_, (hp.nodup_iff).2 (Fp (Ei _ _ _))⟩
    obtain ⟨w, hw, _⟩ := Bc.1 (hp.mem_iff.1 h)
    omega
theorem Uv (p : List Ev) : (Ca p).Nodup := by
 have hF : ∀ dn ord frm z, z ∈ Fm p dn ord frm → z.dn = dn ∧ z.ord = ord ∧ z.frm = frm := by
  intro dn ord frm z h
  unfold Fm at h
  split at h
  ·obtain ⟨h, _⟩ := lCl.1 h
   obtain ⟨f, _, rfl⟩ := lAi.1 h
   exact ⟨rfl, rfl, rfl⟩
  ·exact absurd h lB4
 have hO : ∀ dn ord z, z ∈ L7 p dn ord → z.dn = dn ∧ z.ord = ord := by
  intro dn ord z h
  obtain ⟨f, _, h⟩ := lB3.1 h
  have := hF _ _ _ _ h; exact ⟨this.1, this.2.1⟩
 have hD : ∀ dn z, z ∈ Jh p dn → z.dn = dn := by
  intro dn z h
  obtain ⟨o, _, h⟩ := lB3.1 h
  exact (hO _ _ _ h).1
 refine Cm (Uu p) (fun dn _ => ?_) (fun x _ y _ hne z h1 h2 => hne ((hD _ _ h1).symm.trans (hD _ _ h2)))
 refine Cm (K1 3 0) (fun ord ho => ?_) (fun x _ y _ hne z h1 h2 => hne ((hO _ _ _ h1).2.symm.trans (hO _ _ _ h2).2))
 refine Cm (Mp (S4 ho) _ _) (fun frm _ => ?_) (fun x _ y _ hne z h1 h2 => hne ((hF _ _ _ _ h1).2.2.symm.trans (hF _ _ _ _ h2).2.2))
 unfold Fm
 split
 ·refine List.Nodup.sublist List.filter_sublist (Ha (K0 (I0 p)) fun a _ b _ e => ?_)
  simpa using e
 ·exact lCe
abbrev vw (n : Nat) : Value := .int .u64 n
theorem X0 {x : Nat} (h : x < 2 ^ 64) : BitVec.ofInt IntKind.u64.bits (x : Int) = (BitVec.ofNat 64 x : BitVec IntKind.u64.bits) := lFc 64 x
theorem Bo {x : Nat} (h : x < 2 ^ 64) : IntKind.u64.wrap (x : Int) = x := by
 have e : (2 : Int) ^ IntKind.u64.bits = 18446744073709551616 := rfl
 have e3 : IntKind.u64.signed = false := rfl
 have h' : x < 18446744073709551616 := h
 simp only [IntKind.wrap, e, e3, lCa]
 simp only [lC5, if_false]
 omega
theorem X1 {x y : Nat} (hx : x < 2 ^ 64) (hy : y < 2 ^ 64) : IntKind.u64.wrap ((BitVec.ofInt IntKind.u64.bits (x : Int) ||| BitVec.ofInt IntKind.u64.bits (y : Int)).toNat : Int) = ((x ||| y : Nat) : Int) := by
 rw [X0 hx, X0 hy]
 have e : (BitVec.ofNat 64 x ||| BitVec.ofNat 64 y).toNat = x ||| y := by
  rw [BitVec.toNat_or, lD4, lD4, lCg hx, lCg hy]
 show IntKind.u64.wrap ((BitVec.ofNat 64 x ||| BitVec.ofNat 64 y).toNat : Int) = _
 rw [e]
 exact Bo (lCn hx hy)
theorem Ht {b : Nat} (hb : b < 64) : IntKind.u64.wrap (1 * 2 ^ min b IntKind.u64.bits) = ((2 ^ b : Nat) : Int) := by
 rw [show IntKind.u64.bits = 64 from rfl, lBx (by omega), Int.one_mul]
 rw [show ((2 : Int) ^ b) = ((2 ^ b : Nat) : Int) from by simp]
 exact Bo (lBe (by decide) hb)
theorem Hu {x b : Nat} (hx : x < 2 ^ 64) (hb : b < 64) : IntKind.u64.wrap ((BitVec.ofInt IntKind.u64.bits (x : Int) ||| BitVec.ofInt IntKind.u64.bits (2 ^ b)).toNat : Int) = ((x ||| 2 ^ b : Nat) : Int) := by
 have := X1 (y := 2 ^ b) hx (lBe (by decide) hb)
 rwa [show ((2 ^ b : Nat) : Int) = 2 ^ b from by simp] at this
theorem Jw {x b : Nat} (hx : x < 2 ^ 64) (hb : b < 64) : decide (IntKind.u64.wrap ((BitVec.ofInt IntKind.u64.bits ((x : Int).fdiv (2 ^ min b IntKind.u64.bits)) &&& BitVec.ofInt IntKind.u64.bits 1).toNat : Int) = 1) = x.testBit b := by
 have e0 : min b IntKind.u64.bits = b := lBx (show b ≤ 64 by omega)
 rw [e0]
 have e1 : (x : Int).fdiv (2 ^ b) = ((x / 2 ^ b : Nat) : Int) := by
  rw [lDr _ (by exact_mod_cast lA8 _)]; simp
 have hd : x / 2 ^ b < 2 ^ 64 := lEd (lFh _ _) hx
 rw [e1, X0 hd]
 have e : (BitVec.ofNat 64 (x / 2 ^ b) &&& BitVec.ofInt 64 1).toNat = (x / 2 ^ b) % 2 := by
  rw [lF9, lD4, lCg hd]
  show (x / 2 ^ b) &&& 1 = _
  exact lEu _
 show decide (IntKind.u64.wrap ((BitVec.ofNat 64 (x / 2 ^ b) &&& BitVec.ofInt 64 1).toNat : Int) = 1) = _
 rw [e, Bo (by omega)]
 rw [lDz]
 simp only [decide_eq_decide]
 omega
abbrev E0 (r : Rel) : Value := .agg (r.map vw).toArray
section
variable {M : Aa}
theorem Iq (r : Rel) (hr : RelOk 16 r) : As Tryz.prog 46 #[E0 r] M (vb (Bi r)) := by
 refine Con.enter Q84_ok (args := [E0 r]) (by simp [Q84]) fun w0 => ?_
 simp only [Q84, A9]
 have kh : (r.map vw).length = 16 := by rw [lA1, hr.len]
 have aq := hr.len
 repeat' first | refine st ?_ | refine rg ?_ | (with_reducible intro b; try refine nx ?_) | exact ⟨⟩ | fail
 refine JC (fun i : Nat => ([(1, pv b 0), (3, vi i)], M, [(b, Cl 95 (r.map vw))])) (fun i => i ≤ 16 ∧ ∀ a, a < i → A3 r a a = false) (fun i => 16 - i) 0 rfl ⟨lA8 _, fun a ha => absurd ha (lBy _)⟩ ?env1 (lA0 _) ?_
 case env1 =>
  exact eE
 rintro i ⟨hi, aP⟩ ih
 dsimp only at hi aP ih ⊢
 repeat' first | refine st ?_ | refine rg ?_ | (refine cX ?_ ?_ <;> intro h <;> try exact Ai h) | refine ZF ?_ | exact ⟨⟩ | fail
 ·have aC : i < 16 := by omega
  obtain ⟨cG, ei⟩ := hr.get aC
  have sG := hr.at (show 16 ≤ 32 by omega) i
  rw [ei] at sG
  have qG : r[i] < 2 ^ 64 := lAv sG (by decide)
  have lN : IntKind.u64.wrap (i : Int) = (i : Int) := Bo (by omega)
  have hin : ¬ ((i : Int) < 0) := by omega
  have ar := Jw (b := i) qG (by omega)
  have hh : A3 r i i = r[i].testBit i := by simp only [A3, ei]
  repeat' first | refine st ?_ | (refine EV.reg ?_; (conv => (arg 2; whnf)); (repeat first | refine nx ?_ | simp only [lN, hin])) | (refine lA9 _ (lAd (Cd (f := vw) cG) ?_); (repeat first | refine nx ?_ | simp only [lN, hin])) | (refine cX ?_ ?_ <;> intro h <;> try exact Ai h) | fail
  ·have ht : r[i].testBit i = true := by rw [← ar]; exact decide_eq_true h
   have : Bi r = true := by
    simp only [Bi, lCc, lAn]
    exact ⟨i, cG, by rw [hh, ht]⟩
   (refine rt Q84_ok ?_; try with_reducible exact ⟨⟩)
   rw [this]
  ·have ht : r[i].testBit i = false := by rw [← ar]; exact decide_eq_false h
   refine JA (ih (i + 1) ⟨by omega, fun a ha => ?_⟩ (by omega)) ?_ (lA0 _)
   ·by_cases e : a = i
    ·subst e; rw [hh, ht]
    ·exact aP a (by omega)
   ·exact eE
 ·have : Bi r = false := Tu (i := i) aP (by omega)
  (refine rt Q84_ok ?_; try with_reducible exact ⟨⟩)
  rw [this]
theorem Fq (r t : Rel) (hr : RelOk 16 r) (ht : RelOk 16 t) : Con Tryz.prog 48 #[E0 r, E0 t] M [] fun v _ _ => v = E0 (C3 r t) := by
 refine Con.enter Q95_ok (args := [E0 r, E0 t]) (by simp [Q95]) fun w0 => ?_
 simp only [Q95, A9]
 have aq := hr.len
 have aS := ht.len
 repeat' first | refine st ?_ | refine rg ?_ | (with_reducible intro b; try refine nx ?_) | exact ⟨⟩ | fail
 obtain ⟨b3, rfl⟩ : ∃ x, x = b := ⟨_, rfl⟩
 rename_i b1
 obtain ⟨b2, rfl⟩ : ∃ x, x = b := ⟨_, rfl⟩
 obtain ⟨zs, hzs⟩ : ∃ zs : List Value, zs = [vw 0, vw 0, vw 0, vw 0, vw 0, vw 0, vw 0, vw 0, vw 0, vw 0, vw 0, vw 0, vw 0, vw 0, vw 0, vw 0] := ⟨_, rfl⟩
 have aX : ∀ i, i ≤ 16 → RelOk 16 (Ag (Hs t) i r) := fun i hi => loopN_ok (n := 16) (fun i q hi hq => hq.or i (ht.lt i)) i r hi hr
 refine JC (fun i : Nat => ([(2, pv b1 0), (3, pv b2 0), (4, pv b3 0), (5, vi i)], M, [(b3, Cl 95 zs), (b2, Cl 95 (t.map vw)), (b1, Cl 95 ((Ag (Hs t) i r).map vw))])) (fun i => i ≤ 16) (fun i => 16 - i) 0 rfl (lA8 _) ?env1 (by subst hzs; exact lA0 _) ?_
 case env1 =>
  exact eE
 intro i hi ih
 dsimp only at hi ih ⊢
 repeat' first | refine st ?_ | refine rg ?_ | (refine cX ?_ ?_ <;> intro h <;> try exact Ai h) | exact ⟨⟩ | fail
 ·have aC : i < 16 := by omega
  have hq := aX i (by omega)
  obtain ⟨cG, e1⟩ := hq.get aC
  obtain ⟨lh, e2⟩ := ht.get aC
  have bP := hq.at (show 16 ≤ 32 by omega) i
  have bi := ht.at (show 16 ≤ 32 by omega) i
  rw [e1] at bP
  rw [e2] at bi
  have ih2 := ih (i + 1) (by omega) (by omega)
  simp only [Ag, Hs] at ih2
  generalize Ag (Hs t) i r = q at *
  have aj := X1 (show q[i] < 2 ^ 64 from lAv bP (by decide)) (show t[i] < 2 ^ 64 from lAv bi (by decide))
  refine EV.any (t := Bo5) [(b2, Cl 95 (t.map vw)), (b1, Cl 95 (q.map vw))] (lAp _ (lA0 _)) ?_
  simp only [An, Aq, Al, Au, reduceIte, Nat.reduceEqDiff]
  repeat' first | ((first | refine zo (fun lq aD => ?_) | refine zl ?_ | refine lA9 _ (lAd (Cd (f := vw) cG) ?_) | refine lA9 _ (lAd (Cd (f := vw) lh) ?_) | fail); (repeat first | refine nz ?_ | simp only [aj])) | (refine ZB (fun tq aA => ?_) (fun tq aA => ?_) <;> (repeat first | refine nz ?_ | simp only [aj])) | exact zn | refine ZF ?_ | (refine xw ?_; (repeat first | refine nz ?_ | simp only [aj])) | fail
  refine ⟨by rw [lA1, hq.len]; omega, ?_⟩
  rw [Ao vw q cG]
  repeat' first | (refine zl ?_; try refine nz ?_) | refine zq (fun lq tq aD aA => ?_) | refine zf ?_ | exact ⟨⟩ | fail
  repeat' first | refine su ?_ | refine rg ?_ | exact ⟨⟩ | fail
  rw [e1, e2] at ih2
  refine JA ih2 ?_ (lA0 _)
  exact eE
 ·have bO : i = 16 := by omega
  subst bO
  have bM : (Ag (Hs t) 16 r).length = 16 := (aX 16 (lA5 _)).len
  refine ⟨_, Fu (f := vw) bM, _, zs, [], _, rfl, by subst hzs; simp, by rw [lA1, bM], fun v hv => by obtain ⟨x, _, rfl⟩ := lAi.1 hv; rfl, ?_⟩
  rw [lA1, bM, show zs.drop 16 = [] by subst hzs; rfl, lAa, lAg]
  (refine rt Q95_ok ?_; try with_reducible exact ⟨⟩)
  exact ⟨_, Fu (f := vw) bM, rfl⟩
theorem F5 (r : Rel) (hr : RelOk 16 r) : Con Tryz.prog 47 #[E0 r] M [] fun v _ _ => v = E0 (B8 r) := by
 refine Con.enter Q85_ok (args := [E0 r]) (by simp [Q85]) fun w0 => ?_
 simp only [Q85, A9]
 have aq := hr.len
 repeat' first | refine st ?_ | refine rg ?_ | (with_reducible intro b; try refine nx ?_) | exact ⟨⟩ | fail
 obtain ⟨b3, rfl⟩ : ∃ x, x = b := ⟨_, rfl⟩
 obtain ⟨b1, rfl⟩ : ∃ x, x = b := ⟨_, rfl⟩
 obtain ⟨zs, hzs⟩ : ∃ zs : List Value, zs = [vw 0, vw 0, vw 0, vw 0, vw 0, vw 0, vw 0, vw 0, vw 0, vw 0, vw 0, vw 0, vw 0, vw 0, vw 0, vw 0] := ⟨_, rfl⟩
 refine JC (fun k : Nat => ([(1, pv b1 0), (2, pv b3 0), (3, vi k)], M, [(b3, Cl 95 zs), (b1, Cl 95 ((closeGo r k).map vw))])) (fun k => k ≤ 16) (fun k => 16 - k) 0 rfl (lA8 _) ?env1 (by subst hzs; exact lA0 _) ?_
 case env1 =>
  exact eE
 intro k hk ih
 dsimp only at hk ih ⊢
 have hgo := hr.closeGo k
 repeat' first | refine st ?_ | refine rg ?_ | (refine cX ?_ ?_ <;> intro h <;> try exact Ai h) | exact ⟨⟩ | fail
 ·have ak : k < 16 := by omega
  have ihk := ih (k + 1) (by omega) (by omega)
  have bz := fun a => hgo.closeRow k a
  simp only [closeGo, aq] at ihk
  generalize closeGo r k = g at *
  refine JC (fun a : Nat => ([(1, pv b1 0), (2, pv b3 0), (3, vi k), (4, vi a)], M, [(b3, Cl 95 zs), (b1, Cl 95 ((closeRow g k a).map vw))])) (fun a => a ≤ 16) (fun a => 16 - a) 0 rfl (lA8 _) ?env2 (lA0 _) ?_
  case env2 =>
   exact eE
  intro a ha ih2
  dsimp only at ha ih2 ⊢
  repeat' first | refine st ?_ | refine rg ?_ | (refine cX ?_ ?_ <;> intro h <;> try exact Ai h) | refine ZF ?_ | exact ⟨⟩ | fail
  ·have aU : a < 16 := by omega
   have hq := bz a
   obtain ⟨cm, e1⟩ := hq.get aU
   obtain ⟨gE, e2⟩ := hq.get ak
   have bP := hq.at (show 16 ≤ 32 by omega) a
   have bi := hq.at (show 16 ≤ 32 by omega) k
   rw [e1] at bP
   rw [e2] at bi
   have ih3 := ih2 (a + 1) (by omega) (by omega)
   simp only [closeRow] at ih3
   generalize closeRow g k a = q at *
   have cx : q[a] < 2 ^ 64 := lAv bP (by decide)
   have dQ : q[k] < 2 ^ 64 := lAv bi (by decide)
   have aj := X1 cx dQ
   have ar := Jw (b := k) cx (by omega)
   have sH : IntKind.u64.wrap (k : Int) = (k : Int) := Bo (by omega)
   have hkn : ¬ ((k : Int) < 0) := by omega
   repeat' first | refine su ?_ | (refine EV.reg ?_; (conv => (arg 2; whnf)); (repeat first | refine nx ?_ | simp only [sH, hkn])) | (refine lA9 _ (lAd (Cd (f := vw) cm) ?_); (repeat first | refine nx ?_ | simp only [sH, hkn])) | (refine cX ?_ ?_ <;> intro h <;> try exact Ai h) | fail
   ·have ht : q[a].testBit k = true := by rw [← ar]; exact decide_eq_true h
    refine EV.any (t := Bo2) [(b1, Cl 95 (q.map vw))] (lAp _ (lA0 _)) ?_
    simp only [An, Aq, Al, Au, reduceIte, Nat.reduceEqDiff]
    repeat' first | ((first | refine zo (fun lq aD => ?_) | refine zl ?_ | refine lA9 _ (lAd (Cd (f := vw) cm) ?_) | refine lA9 _ (lAd (Cd (f := vw) gE) ?_) | fail); (repeat first | refine nz ?_ | simp only [aj])) | (refine ZB (fun tq aA => ?_) (fun tq aA => ?_) <;> (repeat first | refine nz ?_ | simp only [aj])) | exact zn | refine ZF ?_ | (refine xw ?_; (repeat first | refine nz ?_ | simp only [aj])) | fail
    refine ⟨by rw [lA1, hq.len]; omega, ?_⟩
    rw [Ao vw q cm]
    repeat' first | (refine zl ?_; try refine nz ?_) | refine zq (fun lq tq aD aA => ?_) | refine zf ?_ | exact ⟨⟩ | fail
    repeat' first | refine su ?_ | refine rg ?_ | exact ⟨⟩ | fail
    rw [if_pos (show A3 q a k = true by simp only [A3, e1]; exact ht), orR, e1, e2] at ih3
    refine JA ih3 ?_ (lA0 _)
    exact eE
   ·have ht : q[a].testBit k = false := by rw [← ar]; exact decide_eq_false h
    rw [if_neg (show ¬ A3 q a k = true by simp only [A3, e1]; rw [ht]; decide)] at ih3
    refine JA ih3 ?_ (lA0 _)
    exact eE
  ·have eA : a = 16 := by omega
   subst eA
   refine JA ihk ?_ (lA0 _)
   exact eE
 ·have dY : k = 16 := by omega
  subst dY
  have aO : B8 r = closeGo r 16 := by rw [B8, aq]
  rw [aO]
  refine ⟨_, Fu (f := vw) hgo.len, _, zs, [], _, rfl, by subst hzs; simp, by rw [lA1, hgo.len], fun v hv => by obtain ⟨x, _, rfl⟩ := lAi.1 hv; rfl, ?_⟩
  rw [lA1, hgo.len, show zs.drop 16 = [] by subst hzs; rfl, lAa, lAg]
  (refine rt Q85_ok ?_; try with_reducible exact ⟨⟩)
  exact ⟨_, Fu (f := vw) hgo.len, rfl⟩
end
abbrev Hf (e : Ev) : List Value := [vi e.th, vi e.op.kind, vi e.op.loc, vi e.op.v, vi e.op.w, vi e.op.ord]
def Cv (o : OpV) : Bool := decide (o.kind = 0) || (decide (2 ≤ o.kind) && decide (o.kind ≤ 4))
def A1 (o : OpV) : Bool := decide (1 ≤ o.kind) && decide (o.kind ≤ 4)
def Ag9 (o : OpV) : Bool := decide (o.kind = 5) && decide (o.ord = 4)
theorem Fr {e : Ev} (h : 0 ≤ e.op.kind ∧ e.op.kind ≤ 5) : Cv e.op = e.reads := by
 unfold Cv Ev.reads
 rw [lEw]
 simp only [lAq, lA6, decide_eq_true_eq]
 omega
theorem Uw {e : Ev} : Ag9 e.op = e.strong := rfl
section
variable {M : Aa}
theorem Jx (o : OpV) : As Tryz.prog 56 #[vop o] M (vb (Cv o)) := by
 refine Con.enter Q90_ok (args := [vop o]) (by simp [Q90]) fun w0 => ?_
 simp only [Q90, A9]
 repeat' first | refine st ?_ | refine rg ?_ | with_reducible assumption | (refine JE ?_ (fun hc K' hK => ?_) ?_; rotate_left) | refine rt Q90_ok ?_ | ((first | with_reducible intro b | refine xiA rfl ?_ | fail); try refine nx ?_) | exact ⟨⟩ | fail
 all_goals simp_all [Cv]
theorem Ir (o : OpV) : As Tryz.prog 93 #[vop o] M (vb (A1 o)) := by
 refine Con.enter Q97_ok (args := [vop o]) (by simp [Q97]) fun w0 => ?_
 simp only [Q97, A9]
 repeat' first | refine st ?_ | refine rg ?_ | with_reducible assumption | (refine JE ?_ (fun hc K' hK => ?_) ?_; rotate_left) | refine rt Q97_ok ?_ | ((first | with_reducible intro b | refine xiA rfl ?_ | fail); try refine nx ?_) | exact ⟨⟩ | fail
 all_goals simp_all [A1]
theorem Pk (o : OpV) : As Tryz.prog 94 #[vop o] M (vb (Ag9 o)) := by
 refine Con.enter Q87_ok (args := [vop o]) (by simp [Q87]) fun w0 => ?_
 simp only [Q87, A9]
 repeat' first | refine st ?_ | refine rg ?_ | with_reducible assumption | (refine JE ?_ (fun hc K' hK => ?_) ?_; rotate_left) | refine rt Q87_ok ?_ | ((first | with_reducible intro b | refine xiA rfl ?_ | fail); try refine nx ?_) | exact ⟨⟩ | fail
 all_goals simp_all [Ag9]
theorem thrIn_ok {p : List Ev} {a d : Nat} {r : Rel} (h : RelOk 16 r) (hd : a + 1 + d < 16) : RelOk 16 (Ug p a d r) := putIf_ok h a hd
theorem Hv (p : List Ev) (s : Value) (hs : Sl M 6 Hf s p) (hp : p.length ≤ 16) : Con Tryz.prog 49 #[s] M [] fun v _ _ => v = E0 (Uh p) := by
 obtain ⟨pa, pc, rfl, aw⟩ := hs
 refine Con.enter Q93_ok (args := [.slice pa p.length pc]) (by simp [Q93]) fun w0 => ?_
 simp only [Q93, A9]
 repeat' first | refine st ?_ | refine rg ?_ | (with_reducible intro b; try refine nx ?_) | exact ⟨⟩ | fail
 obtain ⟨b3, rfl⟩ : ∃ x, x = b := ⟨_, rfl⟩
 obtain ⟨b2, rfl⟩ : ∃ x, x = b := ⟨_, rfl⟩
 obtain ⟨zs, hzs⟩ : ∃ zs : List Value, zs = [vw 0, vw 0, vw 0, vw 0, vw 0, vw 0, vw 0, vw 0, vw 0, vw 0, vw 0, vw 0, vw 0, vw 0, vw 0, vw 0] := ⟨_, rfl⟩
 have tp : RelOk 16 By := ⟨rfl, fun a => by simp only [By, lBv]; split <;> simp⟩
 have aa : ∀ a, a ≤ p.length → RelOk 16 (Ag (Ji p) a By) := fun a ha => loopN_ok (n := p.length) (fun i q hi hq => loopN_ok (n := p.length - (i + 1)) (fun d q hd hq => thrIn_ok hq (by omega)) _ _ (lA5 _) hq) a _ ha tp
 refine JC (fun a : Nat => ([(0, .slice pa p.length pc), (2, pv b2 0), (3, pv b3 0), (4, vi a)], M, [(b3, Cl 95 ((Ag (Ji p) a By).map vw)), (b2, Cl 95 zs)])) (fun a => a ≤ p.length) (fun a => p.length - a) 0 rfl (lA8 _) ?env1 (by subst hzs; exact lA0 _) ?_
 case env1 =>
  exact eE
 intro a ha ih
 dsimp only at ha ih ⊢
 repeat' first | refine st ?_ | refine rg ?_ | (refine cX ?_ ?_ <;> intro h <;> try exact Ai h) | exact ⟨⟩ | fail
 ·have aU : a < p.length := by omega
  have ki := aa a ha
  have ihk := ih (a + 1) (by omega) (by omega)
  simp only [Ag] at ihk
  obtain ⟨pb, po, rfl, hat⟩ := Sl.at (sz := 6) (enc := Hf) (fun _ => rfl) (by decide) aw (by omega)
  have dq := hat a aU
  rw [← D5 aU] at dq
  have kG := dq.pt 0 1 (by omega) rfl
  generalize Ag (Ji p) a By = q0 at *
  refine JC (fun d : Nat => ([(0, .slice (some ⟨pb, po, none⟩) p.length pc), (2, pv b2 0), (3, pv b3 0), (4, vi a), (5, vi (a + 1 + d : Nat))], M, [(b3, Cl 95 ((Ag (Ug p a) d q0).map vw)), (b2, Cl 95 zs)])) (fun d => d ≤ p.length - (a + 1)) (fun d => p.length - (a + 1) - d) 0 rfl (lA8 _) ?env2 (lA0 _) ?_
  case env2 =>
   exact eE
  intro d hd ih2
  dsimp only at hd ih2 ⊢
  obtain ⟨x, hx⟩ : ∃ x, x = a + 1 + d := ⟨_, rfl⟩
  rw [← hx]
  repeat' first | refine st ?_ | refine rg ?_ | (refine cX ?_ ?_ <;> intro h <;> try exact Ai h) | exact ⟨⟩ | fail
  ·have en : x < p.length := by omega
   have hq : RelOk 16 (Ag (Ug p a) d q0) := loopN_ok (n := p.length - (a + 1)) (fun d q hd hq => thrIn_ok hq (by omega)) d _ hd ki
   have ih3 := ih2 (d + 1) (by omega) (by omega)
   simp only [Ag, Ug] at ih3
   generalize Ag (Ug p a) d q0 = q at *
   rw [← hx, show a + 1 + (d + 1) = x + 1 by omega] at ih3
   have sI := hat x en
   rw [← D5 en] at sI
   have qH := sI.pt 0 1 (by omega) rfl
   simp only [lDd] at kG qH
   obtain ⟨cm, e1⟩ := hq.get (show a < 16 by omega)
   have bP := hq.at (show 16 ≤ 32 by omega) a
   rw [e1] at bP
   have cx : q[a] < 2 ^ 64 := lAv bP (by decide)
   have dz : IntKind.u64.wrap (x : Int) = (x : Int) := Bo (by omega)
   have dG : ¬ ((x : Int) < 0) := by omega
   have bH := Ht (show x < 64 by omega)
   have aj := Hu (b := x) cx (by omega)
   refine EV.any (t := Bo7) [] (lAh _) ?_
   simp only [An, Aq, Al, Au, reduceIte, Nat.reduceEqDiff]
   repeat' first | ((first | refine zo (fun lq aD => ?_) | refine zl ?_ | fail); try refine nz ?_) | refine zf ?_ | refine ZF ?_ | (refine xm ?_; try refine nz ?_) | exact ⟨⟩ | fail
   repeat' first | refine su ?_ | (refine EV.reg ?_; (conv => (arg 2; whnf)); (repeat first | refine nx ?_ | simp only [dz, dG, bH, aj])) | (refine lA9 _ (lAd (Cd (f := vw) cm) ?_); (repeat first | refine nx ?_ | simp only [dz, dG, bH, aj])) | (refine cX ?_ ?_ <;> intro h <;> try exact Ai h) | refine ZF ?_ | (refine xw ?_; (repeat first | refine nx ?_ | simp only [dz, dG, bH, aj])) | fail
   ·refine ⟨by rw [lA1, hq.len]; omega, ?_⟩
    rw [Ao vw q cm]
    repeat' first | refine su ?_ | refine rg ?_ | exact ⟨⟩ | fail
    rw [Gx, if_pos (decide_eq_true h), Ni, orR, e1] at ih3
    refine JA ih3 ?_ (lA0 _)
    exact eE
   ·rw [Gx, if_neg (by rw [decide_eq_false h]; decide)] at ih3
    refine JA ih3 ?_ (lA0 _)
    exact eE
  ·have kj : d = p.length - (a + 1) := by omega
   subst kj
   refine JA ihk ?_ (lA0 _)
   exact eE
 ·have eA : a = p.length := by omega
  subst eA
  have bM := (aa p.length (lA5 _)).len
  have aO : Uh p = Ag (Ji p) p.length By := rfl
  rw [aO]
  refine ⟨_, Fu (f := vw) bM, _, zs, [(b3, Cl 95 ((Ag (Ji p) p.length By).map vw))], _, rfl, by subst hzs; simp, by rw [lA1, bM], fun v hv => by obtain ⟨x, _, rfl⟩ := lAi.1 hv; rfl, ?_⟩
  rw [lA1, bM, show zs.drop 16 = [] by subst hzs; rfl, lAa]
  simp only [lAl, lAg]
  (refine rt Q93_ok ?_; try with_reducible exact ⟨⟩)
  exact ⟨_, B3 (T := 95) (cs := (Ag (Ji p) p.length By).map vw) (by simp) (by rw [lBr, lAx (by rw [lA1, bM]; exact lA5 _)]) (by rw [lA1, bM]; exact lA5 _), rfl⟩
end
structure EvR (p : List Ev) (e : Exec) (a : Nat) : Prop where
 out : Cv (evAt p a).op = false → Af e a = -2
 src : Cv (evAt p a).op = true → -1 ≤ Af e a ∧ Af e a < p.length
 do1 : (evAt p a).op.kind = 1 ∨ (evAt p a).op.kind = 2 → Ci e.dn a = true
 do0 : A1 (evAt p a).op = false → Ci e.dn a = false
 src2 : Cv (evAt p a).op = true → 0 ≤ Af e a → Ci e.dn (Af e a).toNat = true ∧ (evAt p (Af e a).toNat).op.loc = (evAt p a).op.loc ∧ A1 (evAt p (Af e a).toNat).op = true
theorem Cg {o : OpV} : A1 o = true ↔ 1 ≤ o.kind ∧ o.kind ≤ 4 := by simp [A1]
theorem Shape.evR {p : List Ev} {e : Exec} (hk : ∀ i, i < p.length → 0 ≤ (evAt p i).op.kind ∧ (evAt p i).op.kind ≤ 5) (h : Shape p e) {a : Nat} (ha : a < p.length) : EvR p e a := by
 have hr := Fr (e := evAt p a) (hk a ha)
 refine ⟨fun h1 => h.out a ha (by rw [← hr]; exact h1), fun h1 => ?_, h.dn1 a ha, fun h1 => ?_, fun h1 h0 => ?_⟩
 ·rcases h.src a ha (by rw [← hr]; exact h1) with h2 | ⟨w, h2, h3, _⟩
  ·omega
  ·omega
 ·cases hd : Ci e.dn a with
  | false => rfl
  | true => rw [Cg.2 (h.dn0 a ha hd)] at h1; cases h1
 ·rcases h.src a ha (by rw [← hr]; exact h1) with h2 | ⟨w, h2, h3, h4, h5⟩
  ·omega
  ·rw [h2, lB2]
   exact ⟨h4, h5, Cg.2 (h.dn0 w h3 h4)⟩
theorem Ah0 {e : Exec} (h : e.ord.length = 3) : ∃ a b c, e.ord = [a, b, c] := by
 match hq : e.ord, h with
 | [a, b, c], _ => exact ⟨a, b, c, rfl⟩
theorem Hw (p : List Ev) : (Ba p).Nodup := Fp (I0 p)
theorem Gn (p : List Ev) (dn : List Bool) (k : Int) : (A7 p dn k).Nodup := Fp (Ei p dn k)
theorem Shape.nodup {p : List Ev} {e : Exec} (h : Shape p e) : (e.fen ++ e.ord.flatten).Nodup := by
 obtain ⟨a, b, c, he⟩ := Ah0 h.ol
 have ha := h.ord 0 (by decide)
 have hb := h.ord 1 (by decide)
 have hc := h.ord 2 (by decide)
 have hf := h.fen
 rw [he] at ha hb hc ⊢
 simp only [lE5, lEr, lAr] at ha hb hc
 have da := ha.nodup_iff.2 (Gn _ _ _)
 have db := hb.nodup_iff.2 (Gn _ _ _)
 have dc := hc.nodup_iff.2 (Gn _ _ _)
 have df := hf.nodup_iff.2 (Hw _)
 have ix : ∀ i, (evAt p i).strong = true → (evAt p i).op.kind = 5 := fun i hi => by
  simp only [Ev.strong, lA6, decide_eq_true_eq] at hi; exact hi.1
 have hd : ∀ (k l : Int) (x : Int), x ∈ A7 p e.dn k → x ∈ A7 p e.dn l → k = l := by
  intro k l x h1 h2
  obtain ⟨i, rfl, _, _, _, e1⟩ := Bc.1 h1
  obtain ⟨j, e2, _, _, _, e3⟩ := Bc.1 h2
  have : i = j := by omega
  subst this
  rw [← e1, ← e3]
 have iy : ∀ (k : Int) (x : Int), x ∈ Ba p → x ∈ A7 p e.dn k → False := by
  intro k x h1 h2
  obtain ⟨i, rfl, _, e0⟩ := Jv.1 h1
  obtain ⟨j, e2, _, e4, _, _⟩ := Bc.1 h2
  have : i = j := by omega
  subst this
  exact e4 (ix i e0)
 simp only [lD9, lF7, lAa, lCb]
 refine ⟨df, ⟨da, ⟨db, dc, fun x h1 y h2 e1 => ?_⟩, fun x h1 y h2 e1 => ?_⟩, fun x h1 y h2 e1 => ?_⟩
 ·subst e1
  have := hd _ _ _ (hb.mem_iff.1 h1) (hc.mem_iff.1 h2); omega
 ·subst e1
  rcases lBa.1 h2 with h2 | h2
  ·have := hd _ _ _ (ha.mem_iff.1 h1) (hb.mem_iff.1 h2); omega
  ·have := hd _ _ _ (ha.mem_iff.1 h1) (hc.mem_iff.1 h2); omega
 ·subst e1
  have h1 := hf.mem_iff.1 h1
  rcases lBa.1 h2 with h2 | h2
  ·exact iy _ _ h1 (ha.mem_iff.1 h2)
  ·rcases lBa.1 h2 with h2 | h2
   ·exact iy _ _ h1 (hb.mem_iff.1 h2)
   ·exact iy _ _ h1 (hc.mem_iff.1 h2)
theorem Wm {n : Nat} {f g : Nat → Bool} (h : ∀ i, i < n → f i = g i) : Cr n f = Cr n g := by
 unfold Cr
 congr 1
 exact List.filter_congr fun i hi => h i (lAn.1 hi)
def Nu (p : List Ev) (dn : List Bool) (k : Int) (n : Nat) : List Int := Cr n fun i => Ci dn i && decide ((evAt p i).op.loc = k)
theorem Ah1 {p : List Ev} {e : Exec} (h : ∀ a, a < p.length → EvR p e a) (k : Int) : Nu p e.dn k p.length = A7 p e.dn k := by
 refine Wm fun i hi => ?_
 have h0 := (h i hi).do0
 show (Ci e.dn i && _) = (decide ((evAt p i).op.kind ≠ 5) && Ci e.dn i && _)
 cases hd : Ci e.dn i with
 | false => simp
 | true =>
  cases hw : A1 (evAt p i).op with
  | false => rw [h0 hw] at hd; cases hd
  | true =>
   have := Cg.1 hw
   rw [decide_eq_true (show (evAt p i).op.kind ≠ 5 by omega)]; rfl
def Jc (p : List Ev) (e : Exec) (a : Nat) : Bool :=
 !(Bg p e.frm).K a || !((decide ((evAt p a).op.kind = 3) && (Ci e.dn a != decide ((Bg p e.frm).R a = (evAt p a).op.v))) || (decide ((evAt p a).op.kind = 4) && Ci e.dn a && decide ((Bg p e.frm).R a ≠ (evAt p a).op.v)))
theorem Ux {p : List Ev} {e : Exec} (hs : Shape p e) : (∀ a, a < p.length → Jc p e a = true) ↔ Am7 p e := by
 have hK : ∀ {i : Nat} (hi : i < p.length) (hr : (evAt p i).reads = true), _ := fun {i} hi hr => Cw4 hs.fromOk hs.srcOk hs.outLt hi hr
 constructor
 ·intro h i x hx
  obtain ⟨hi, hr⟩ := hx.lt
  have h1 := (hK hi hr).1.2 ⟨x, hx⟩
  have h2 := (hK hi hr).2 x hx
  have h3 := h i hi
  unfold Jc at h3
  rw [h1, h2] at h3
  constructor
  ·intro k3
   cases hd : Ci e.dn i <;> simp [k3, hd] at h3 ⊢ <;> exact h3
  ·intro k4 hd
   simp [k4, hd] at h3; exact h3
 ·intro h i hi
  unfold Jc
  cases hk : (Bg p e.frm).K i with
  | false => rfl
  | true =>
   by_cases k3 : (evAt p i).op.kind = 3
   ·have hr : (evAt p i).reads = true := by simp [Ev.reads, k3]
    obtain ⟨x, hx⟩ := (hK hi hr).1.1 hk
    have h2 := (hK hi hr).2 x hx
    have h3 := (h i x hx).1 k3
    rw [h2]
    cases hd : Ci e.dn i with
    | true => simp [k3, h3.1 hd]
    | false =>
     have : ¬ x = (evAt p i).op.v := fun oA => by rw [h3.2 oA] at hd; cases hd
     simp [k3, this]
   ·by_cases k4 : (evAt p i).op.kind = 4
    ·have hr : (evAt p i).reads = true := by simp [Ev.reads, k4]
     obtain ⟨x, hx⟩ := (hK hi hr).1.1 hk
     have h2 := (hK hi hr).2 x hx
     have h3 := (h i x hx).2 k4
     rw [h2]
     cases hd : Ci e.dn i with
     | true => simp [k4, h3 hd]
     | false => simp [k4]
    ·simp [k3, k4]
open Classical in
def Jd {β : Type} (S : List Int) (ok : List Int → Int → Bool) (fin : List Int → List β) : Nat → List Int → List β
 | 0, _ => []
 | F + 1, row => ((S.filter fun a => decide (a ∉ row)).filter (ok row)).flatMap (fun a => Jd S ok fin F (row ++ [a])) ++ (if (S.filter fun a => decide (a ∉ row)) = [] then fin row else [])
section
variable {β : Type} {S : List Int} {ok : List Int → Int → Bool} {fin : List Int → List β}
def Jk (ok : List Int → Int → Bool) : List Int → List Int → Prop
 | _, [] => True
 | row, a :: l => ok row a = true ∧ Jk ok (row ++ [a]) l
theorem Lr {ok : List Int → Int → Bool} : ∀ {l row : List Int}, Jk ok row l ↔ ∀ i, (h : i < l.length) → ok (row ++ l.take i) l[i] = true
 | [], _ => by simp [Jk]
 | a :: l, row => by
  rw [Jk, Lr (l := l)]
  constructor
  ·rintro ⟨h1, h2⟩ i hi
   cases i with
   | zero => simpa using h1
   | succ i =>
    have := h2 i (by simpa using hi)
    simpa using this
  ·intro h
   refine ⟨by have := h 0 (by simp); simpa only [lDc, lAa, lAt] using this, fun i hi => ?_⟩
   have := h (i + 1) (by simpa using hi)
   simpa using this
theorem K2 (hS : S.Nodup) : ∀ (F : Nat) (row : List Int), row.Nodup → (∀ x ∈ row, x ∈ S) → S.length < row.length + F → ∀ b, (b ∈ Jd S ok fin F row ↔ ∃ l, (row ++ l).Perm S ∧ Jk ok row l ∧ b ∈ fin (row ++ l))
 | 0, row, hn, hs, hF, b => by
  have := B6 hn hs
  omega
 | F + 1, row, hn, hs, hF, b => by
  rw [Jd, lBa, lB3]
  have hin : ∀ a, a ∈ S → a ∉ row → (b ∈ Jd S ok fin F (row ++ [a]) ↔ ∃ l, (row ++ [a] ++ l).Perm S ∧ Jk ok (row ++ [a]) l ∧ b ∈ fin (row ++ [a] ++ l)) := fun a ha fh =>
   K2 hS F (row ++ [a]) (by
    rw [lCb]
    refine ⟨hn, by simp, fun x hx y hy e => ?_⟩
    rw [lAk] at hy
    subst e hy
    exact fh hx) (by
    intro x hx
    rcases lBa.1 hx with hx | hx
    ·exact hs x hx
    ·rw [lAk] at hx; rw [hx]; exact ha) (by simp; omega) b
  constructor
  ·rintro (⟨a, ha, hb⟩ | hb)
   ·simp only [lCl, decide_eq_true_eq] at ha
    obtain ⟨⟨h1, h2⟩, h3⟩ := ha
    obtain ⟨l, q1, q2, q3⟩ := (hin a h1 h2).1 hb
    exact ⟨a :: l, by simpa using q1, ⟨h3, q2⟩, by simpa using q3⟩
   ·split at hb
    ·rename_i h0
     refine ⟨[], ?_, trivial, by simpa using hb⟩
     rw [lAa]
     refine Wl hn hS fun x => ⟨hs x, fun hx => lBc fun aP => ?_⟩
     have : x ∈ S.filter fun a => decide (a ∉ row) := lCl.2 ⟨hx, by simpa using aP⟩
     rw [h0] at this; cases this
    ·cases hb
  ·rintro ⟨l, q1, q2, q3⟩
   cases l with
   | nil =>
    right
    rw [lAa] at q1 q3
    rw [if_pos]
    ·exact q3
    ·rw [List.filter_eq_nil_iff]
     intro x hx
     simpa using q1.mem_iff.2 hx
   | cons a l =>
    left
    have hnd : (row ++ a :: l).Nodup := q1.nodup_iff.2 hS
    have ha : a ∈ S := q1.mem_iff.1 (by simp)
    have fh : a ∉ row := fun h => (lCb.1 hnd).2.2 a h a (by simp) rfl
    refine ⟨a, ?_, (hin a ha fh).2 ⟨l, by simpa using q1, q2.2, by simpa using q3⟩⟩
    simp only [lCl, decide_eq_true_eq]
    exact ⟨⟨ha, fh⟩, q2.1⟩
theorem Ls (hS : S.Nodup) (hf : ∀ r : List Int, (fin r).Nodup) (hd : ∀ r t : List Int, r.length = t.length → r ≠ t → ∀ b, b ∈ fin r → b ∉ fin t) : ∀ (F : Nat) (row : List Int), row.Nodup → (∀ x ∈ row, x ∈ S) → S.length < row.length + F → (Jd S ok fin F row).Nodup
 | 0, row, hn, hs, hF => by
  have := B6 hn hs
  omega
 | F + 1, row, hn, hs, hF => by
  have kl : ∀ a, a ∈ S → a ∉ row → (row ++ [a]).Nodup ∧ (∀ x ∈ row ++ [a], x ∈ S) := fun a ha fh => ⟨by
   rw [lCb]
   refine ⟨hn, by simp, fun x hx y hy e => ?_⟩
   rw [lAk] at hy
   subst e hy
   exact fh hx, by
   intro x hx
   rcases lBa.1 hx with hx | hx
   ·exact hs x hx
   ·rw [lAk] at hx; rw [hx]; exact ha⟩
  rw [Jd]
  by_cases h0 : (S.filter fun a => decide (a ∉ row)) = []
  ·rw [h0, if_pos rfl]
   simpa using hf row
  ·rw [if_neg h0, lAa]
   refine Cm ((hS.filter _).filter _) (fun a ha => ?_) (fun a ha c hc hne z hz gw => ?_)
   ·simp only [lCl, decide_eq_true_eq] at ha
    obtain ⟨h1, h2⟩ := kl a ha.1.1 ha.1.2
    exact Ls hS hf hd F _ h1 h2 (by simp; omega)
   ·simp only [lCl, decide_eq_true_eq] at ha hc
    obtain ⟨a1, a2⟩ := kl a ha.1.1 ha.1.2
    obtain ⟨c1, c2⟩ := kl c hc.1.1 hc.1.2
    obtain ⟨l, p1, _, p3⟩ := (K2 hS F _ a1 a2 (by simp; omega) z).1 hz
    obtain ⟨m, q1, _, q3⟩ := (K2 hS F _ c1 c2 (by simp; omega) z).1 gw
    refine hd _ _ (by rw [p1.length_eq, q1.length_eq]) (fun e => hne ?_) z p3 q3
    have := congrArg (fun r => r[row.length]?) e
    simpa using this
end
def Vh (p : List Ev) (i f : Nat) : List (Int × Bool) :=
 if (f : Int) - 1 = i ∨ (0 < f ∧ (A1 (evAt p (f - 1)).op = false ∨ (evAt p (f - 1)).op.loc ≠ (evAt p i).op.loc)) then []
 else if (evAt p i).op.kind < 3 then [((f : Int) - 1, A1 (evAt p i).op)] else [((f : Int) - 1, A1 (evAt p i).op), ((f : Int) - 1, false)]
def Hx (p : List Ev) (i : Nat) : List (Int × Bool) :=
 if Cv (evAt p i).op = false then [(-2, A1 (evAt p i).op)] else (List.range (p.length + 1)).flatMap (Vh p i)
def Rt (pre : List (Int × Bool)) : List Int := pre.map (·.1)
def dnV (pre : List (Int × Bool)) : List Bool := pre.map (·.2)
def F6 (p : List Ev) (e : Exec) : List Exec := if Bi (Am5 p e) = true ∨ Gz (Ns p e) (Gl p e) = true then [] else [e]
def Is (p : List Ev) (row : List Int) (a : Int) : Bool := (List.range p.length).all fun b => !(decide ((b : Int) < a) && (evAt p b).strong && decide ((evAt p b).th = (evAt p a.toNat).th) && decide ((b : Int) ∉ row))
def S5 (p : List Ev) (e : Exec) (F : Nat) (row : List Int) : List Exec := Jd (Ba p) (Is p) (fun r => F6 p { e with fen := r }) F row
def Db (p : List Ev) (e : Exec) : List Exec := if Gz (Ns p { e with fen := [] }) (Gl p { e with fen := [] }) = true then [] else S5 p { e with fen := [] } (p.length + 1) []
def Pl (row : List Int) : Int := Fl row row.length
def okV (p : List Ev) (e : Exec) (row : List Int) (a : Int) : Bool := !Cv (evAt p a.toNat).op || decide (Af e a.toNat = Pl row)
def Ec (p : List Ev) (e : Exec) : Nat → Nat → List Exec
 | 0, _ => Db p e
 | n + 1, k => Jd (Nu p e.dn k p.length) (okV p e) (fun r => Ec p { e with ord := e.ord.set k r } n (k + 1)) (p.length + 1) []
def exV (pre : List (Int × Bool)) : Exec := ⟨Rt pre, dnV pre, [[], [], []], []⟩
def X2 (e : Exec) (n : Nat) : Bool := (List.range n).all fun a => !(decide (0 ≤ Af e a) && !Ci e.dn (Af e a).toNat)
def H0 (p : List Ev) (e : Exec) : Bool := !X2 e p.length || !(List.range p.length).all (fun a => (Bg p e.frm).K a) || !(List.range p.length).all (Jc p e) || Bi (B8 (C3 (Uh p) (Hr p e)))
def En (p : List Ev) (pre : List (Int × Bool)) : List Exec := if H0 p (exV pre) = true then [] else Ec p (exV pre) 3 0
def Ch (p : List Ev) : Nat → List (Int × Bool) → List Exec
 | 0, pre => En p pre
 | n + 1, pre => (Hx p pre.length).flatMap fun o => Ch p n (pre ++ [o])
def Z5 (p : List Ev) : List Exec := Ch p p.length []
theorem Hc {p : List Ev} {x : Exec} : ∀ {n : Nat} {pre : List (Int × Bool)}, x ∈ Ch p n pre ↔ ∃ rest, rest.length = n ∧ (∀ i, (h : i < rest.length) → rest[i] ∈ Hx p (pre.length + i)) ∧ x ∈ En p (pre ++ rest)
 | 0, pre => by
  rw [Ch]
  constructor
  ·intro h; exact ⟨[], rfl, fun i h => absurd h (by simp), by simpa using h⟩
  ·rintro ⟨r, h1, _, h3⟩
   rw [lC2] at h1
   subst h1
   simpa using h3
 | n + 1, pre => by
  rw [Ch, lB3]
  constructor
  ·rintro ⟨o, ho, hx⟩
   obtain ⟨r, h1, h2, h3⟩ := Hc.1 hx
   refine ⟨o :: r, by simp [h1], fun i hi => ?_, by simpa using h3⟩
   cases i with
   | zero => simpa using ho
   | succ i =>
    have := h2 i (by simpa using hi)
    rw [lA4, lC3] at this
    rw [lAs, show pre.length + (i + 1) = pre.length + 1 + i by omega]
    exact this
  ·rintro ⟨r, h1, h2, h3⟩
   match r, h1 with
   | o :: r, h1 =>
    refine ⟨o, by have := h2 0 (by simp); simpa only [lAt, lDd] using this, Hc.2 ⟨r, by simpa using h1, fun i hi => ?_, by simpa using h3⟩⟩
    have := h2 (i + 1) (by simpa using hi)
    rw [lAs] at this
    rw [lA4, lC3, show pre.length + 1 + i = pre.length + (i + 1) by omega]
    exact this
theorem K3 {p : List Ev} {i f : Nat} {o : Int × Bool} : o ∈ Vh p i f ↔ o.1 = (f : Int) - 1 ∧ (f : Int) - 1 ≠ i ∧ (0 < f → A1 (evAt p (f - 1)).op = true ∧ (evAt p (f - 1)).op.loc = (evAt p i).op.loc) ∧ (o.2 = A1 (evAt p i).op ∨ (¬ (evAt p i).op.kind < 3 ∧ o.2 = false)) := by
 unfold Vh
 split
 ·rename_i h
  simp only [lB4, false_iff]
  rintro ⟨h1, h2, h3, _⟩
  rcases h with h | ⟨h0, h⟩
  ·exact h2 h
  ·obtain ⟨q1, q2⟩ := h3 h0
   rcases h with h | h
   ·rw [q1] at h; cases h
   ·exact h q2
 ·rename_i h
  have hn : (f : Int) - 1 ≠ i ∧ (0 < f → A1 (evAt p (f - 1)).op = true ∧ (evAt p (f - 1)).op.loc = (evAt p i).op.loc) := by
   refine ⟨fun e => h (.inl e), fun h0 => ⟨?_, ?_⟩⟩
   ·cases hw : A1 (evAt p (f - 1)).op with
    | true => rfl
    | false => exact absurd (.inr ⟨h0, .inl hw⟩) h
   ·exact lBc fun hl => h (.inr ⟨h0, .inr hl⟩)
  split
  ·rename_i hk
   simp only [lAk, Prod.ext_iff]
   exact ⟨fun ⟨a, b⟩ => ⟨a, hn.1, hn.2, .inl b⟩, fun ⟨a, _, _, b⟩ => ⟨a, b.resolve_right fun h => h.1 hk⟩⟩
  ·rename_i hk
   simp only [lBo, lB4, or_false, Prod.ext_iff]
   constructor
   ·rintro (⟨a, b⟩ | ⟨a, b⟩)
    ·exact ⟨a, hn.1, hn.2, .inl b⟩
    ·exact ⟨a, hn.1, hn.2, .inr ⟨hk, b⟩⟩
   ·rintro ⟨a, _, _, b | ⟨_, b⟩⟩
    ·exact .inl ⟨a, b⟩
    ·exact .inr ⟨a, b⟩
theorem Pm {p : List Ev} {i : Nat} {o : Int × Bool} : o ∈ Hx p i ↔ (Cv (evAt p i).op = false ∧ o = (-2, A1 (evAt p i).op)) ∨ (Cv (evAt p i).op = true ∧ ∃ f, f < p.length + 1 ∧ o ∈ Vh p i f) := by
 unfold Hx
 split
 ·rename_i h; simp [h]
 ·rename_i h
  have h : Cv (evAt p i).op = true := by simpa using h
  simp [h, lB3]
section
variable {p : List Ev}
theorem Fg (hnd : ∀ dn k, (Nu p dn k p.length).Nodup) : ∀ (n k : Nat) (e x : Exec), e.ord.length = k + n → (x ∈ Ec p e n k ↔ ∃ rs : List (List Int), rs.length = n ∧ (∀ j, (h : j < rs.length) → rs[j].Perm (Nu p e.dn (k + j : Nat) p.length) ∧ Jk (okV p e) [] rs[j]) ∧ x ∈ Db p { e with ord := e.ord.take k ++ rs })
 | 0, k, e, x, hl => by
  rw [Ec]
  have he : ({ e with ord := e.ord.take k ++ [] } : Exec) = e := by rw [lAa, lAx (by omega)]
  constructor
  ·intro h; exact ⟨[], rfl, fun j h => absurd h (by simp), by rw [he]; exact h⟩
  ·rintro ⟨rs, h1, _, h3⟩
   rw [lC2] at h1
   subst h1
   rw [he] at h3; exact h3
 | n + 1, k, e, x, hl => by
  have cr : (Nu p e.dn k p.length).length < ([] : List Int).length + (p.length + 1) := by have := Bj p.length (fun i => Ci e.dn i && decide ((evAt p i).op.loc = (k : Int))); unfold Nu; simp only [lC7]; omega
  have bn : ∀ r : List Int, (e.ord.set k r).take (k + 1) = e.ord.take k ++ [r] := fun r => by
   rw [lA7 (by simp; omega), lDi, lCx (lA5 k)]
  rw [Ec, K2 (hnd _ _) _ _ lCe (by simp) cr]
  constructor
  ·rintro ⟨l, h1, h2, h3⟩
   rw [lAg] at h1 h3
   obtain ⟨rs, q1, q2, q3⟩ := (Fg hnd n (k + 1) _ x (by simp; omega)).1 h3
   refine ⟨l :: rs, by simp [q1], fun j hj => ?_, ?_⟩
   ·cases j with
    | zero => exact ⟨by simpa using h1, h2⟩
    | succ j =>
     have := q2 j (by simpa using hj)
     rw [lAs, show k + (j + 1) = k + 1 + j by omega]
     exact this
   ·dsimp only at q3
    rw [bn, lAc] at q3
    exact q3
  ·rintro ⟨rs, q1, q2, q3⟩
   cases rs with
   | nil => simp at q1
   | cons l rs =>
    have h0 := q2 0 (by simp)
    simp only [lAt, lDd] at h0
    refine ⟨l, by rw [lAg]; exact h0.1, h0.2, ?_⟩
    rw [lAg]
    refine (Fg hnd n (k + 1) _ x (by simp; omega)).2 ⟨rs, by simpa using q1, fun j hj => ?_, ?_⟩
    ·have := q2 (j + 1) (by simpa using hj)
     rw [lAs, show k + (j + 1) = k + 1 + j by omega] at this
     exact this
    ·dsimp only
     rw [bn, lAc]
     exact q3
theorem Hd (p : List Ev) (dn : List Bool) (k : Int) : (Nu p dn k p.length).Nodup := Fp (Kp _ _)
theorem F7 {e x : Exec} : x ∈ Db p e ↔ Gz (Ns p { e with fen := [] }) (Gl p { e with fen := [] }) = false ∧ ∃ fen : List Int, fen.Perm (Ba p) ∧ Jk (Is p) [] fen ∧ x = { e with fen := fen } ∧ Bi (Am5 p { e with fen := fen }) = false ∧ Gz (Ns p { e with fen := fen }) (Gl p { e with fen := fen }) = false := by
 have cr : (Ba p).length < ([] : List Int).length + (p.length + 1) := by have := Bj p.length (fun i => (evAt p i).strong); unfold Ba; simp only [lC7]; omega
 unfold Db
 split
 ·rename_i h; simp [h]
 ·rename_i h
  have h : Gz (Ns p { e with fen := [] }) (Gl p { e with fen := [] }) = false := by simpa using h
  unfold S5
  rw [K2 (Hw p) _ _ lCe (by simp) cr]
  constructor
  ·rintro ⟨l, h1, h2, h3⟩
   rw [lAg] at h1 h3
   unfold F6 at h3
   split at h3
   ·cases h3
   ·rename_i aP
    rw [lAk] at h3
    simp only [not_or, lFa] at aP
    exact ⟨h, l, h1, h2, h3, aP.1, aP.2⟩
  ·rintro ⟨_, l, h1, h2, h3, h4, h5⟩
   refine ⟨l, by simpa using h1, h2, ?_⟩
   rw [lAg]
   unfold F6
   rw [if_neg (by simp [h4, h5]), lAk]
   exact h3
end
theorem Ru {l : List Int} {i : Nat} (h : i ≤ l.length) : Pl (l.take i) = Fl l i := by
 unfold Pl
 rw [lC0, lBx h]
 cases i with
 | zero => rfl
 | succ i =>
  show Ae (l.take (i + 1)) i = Ae l i
  unfold Ae
  rw [List.getElem?_take_of_lt (by omega)]
theorem It {l : List Int} {i : Nat} (h : i < l.length) : Ae l i = l[i] := by unfold Ae; rw [lA2 h]; rfl
theorem Ah2 {p : List Ev} {e : Exec} (hk : ∀ i, i < p.length → 0 ≤ (evAt p i).op.kind ∧ (evAt p i).op.kind ≤ 5) {l : List Int} (hin : ∀ i, i < l.length → (Ae l i).toNat < p.length) :
  Jk (okV p e) [] l ↔ ∀ i, i < l.length → (evAt p (Ae l i).toNat).reads = true → Af e (Ae l i).toNat = Fl l i := by
 rw [Lr]
 refine forall_congr' fun i => ⟨fun h hi hr => ?_, fun h hi => ?_⟩
 ·have h1 := h hi
  rw [lAg] at h1
  unfold okV at h1
  rw [← It hi, Ru (by omega), Fr (hk _ (hin i hi)), hr] at h1
  simpa using h1
 ·rw [lAg]
  unfold okV
  rw [← It hi, Ru (by omega), Fr (hk _ (hin i hi))]
  cases hr : (evAt p (Ae l i).toNat).reads with
  | false => rfl
  | true => simpa using h hi hr
theorem Rv {p : List Ev} {row : List Int} {a : Int} : Is p row a = true ↔ ∀ b : Nat, b < p.length → (b : Int) < a → (evAt p b).strong = true → (evAt p b).th = (evAt p a.toNat).th → (b : Int) ∈ row := by
 unfold Is
 simp only [lB0, lAn, lB8, lBm, decide_eq_false_iff_not]
 refine forall_congr' fun b => forall_congr' fun hb => ⟨fun h h1 h2 h3 => ?_, fun h => ?_⟩
 ·rcases h with ((h | h) | h) | h
  ·exact absurd h1 h
  ·rw [h2] at h; cases h
  ·exact absurd h3 h
  ·exact lCo h
 ·by_cases h1 : (b : Int) < a
  ·cases h2 : (evAt p b).strong with
   | false => exact .inl (.inl (.inr rfl))
   | true =>
    by_cases h3 : (evAt p b).th = (evAt p a.toNat).th
    ·exact .inr fun hn => hn (h h1 h2 h3)
    ·exact .inl (.inr h3)
  ·exact .inl (.inl (.inl h1))
theorem Pn {r t : Rel} (hr : RelOk 16 r) (ht : RelOk 16 t) (h : ∀ x y, A3 r x y = true → A3 t x y = true) {x y : Nat} (cR : A3 (B8 r) x y = true) : A3 (B8 t) x y = true :=
 (Dk ht).2 (((Dk hr).1 cR).mono fun x y k => h x y k)
theorem X3 {pre : List (Int × Bool)} {a : Nat} (h : a < pre.length) {e : Exec} (he : e.frm = Rt pre) : Af e a = pre[a].1 := by
 unfold Af; rw [he]; simp [Rt, h]
theorem Bc8 {pre : List (Int × Bool)} {a : Nat} (h : a < pre.length) : Ci (dnV pre) a = pre[a].2 := by
 unfold Ci; simp [dnV, h]
section
variable {p : List Ev}
theorem Am9 {pre : List (Int × Bool)} (hl : pre.length = p.length) (ho : ∀ i, (h : i < pre.length) → pre[i] ∈ Hx p i) {e : Exec} (hf : e.frm = Rt pre) (hd : e.dn = dnV pre) (hs : X2 e p.length = true) {a : Nat} (ha : a < p.length) : EvR p e a := by
 have h := ho a (by omega)
 have h1 := X3 (show a < pre.length by omega) hf
 have h2 : Ci e.dn a = pre[a].2 := by rw [hd]; exact Bc8 (by omega)
 rw [Pm] at h
 have aZ : 0 ≤ Af e a → Ci e.dn (Af e a).toNat = true := fun h0 => by
  unfold X2 at hs
  rw [lB0] at hs
  have := hs a (lAn.2 ha)
  simpa [h0] using this
 rcases h with ⟨hr, h⟩ | ⟨hr, f, bA, h⟩
 ·have e1 : pre[a].1 = -2 := by rw [h]
  have e2 : pre[a].2 = A1 (evAt p a).op := by rw [h]
  refine ⟨fun _ => by omega, fun h => by (rw [hr] at h; cases h), fun h => ?_, fun h => by (rw [h2, e2, h]), fun h => by (rw [hr] at h; cases h)⟩
  rw [h2, e2]; exact Cg.2 (by omega)
 ·obtain ⟨e1, hne, hw, e2⟩ := K3.1 h
  refine ⟨fun h => by (rw [hr] at h; cases h), fun _ => by omega, fun h => ?_, fun h => ?_, fun _ h0 => ?_⟩
  ·rcases e2 with e2 | ⟨h3, _⟩
   ·rw [h2, e2]; exact Cg.2 (by omega)
   ·omega
  ·rcases e2 with e2 | ⟨_, e2⟩
   ·rw [h2, e2, h]
   ·rw [h2, e2]
  ·obtain ⟨q1, q2⟩ := hw (by omega)
   have : (Af e a).toNat = f - 1 := by omega
   exact ⟨aZ h0, by rw [this]; exact q2, by rw [this]; exact q1⟩
theorem An0 (hk : ∀ i, i < p.length → 0 ≤ (evAt p i).op.kind ∧ (evAt p i).op.kind ≤ 5) (hp : POk p) (hm : Nn p) (hl : p.length ≤ 16) {x : Exec} : x ∈ Z5 p ↔ Us p x = 0 := by
 rw [Z5, Hc]
 constructor
 ·rintro ⟨pre, af, ho, hx⟩
  rw [lAg] at hx
  simp only [lC7, lBg] at ho
  unfold En at hx
  split at hx
  ·cases hx
  ·rename_i aw
   rw [lFa] at aw
   unfold H0 at aw
   simp only [lBn, lCd] at aw
   obtain ⟨⟨⟨cN, hkn⟩, ke⟩, kJ⟩ := aw
   obtain ⟨rs, e8, mH, hx⟩ := (Fg (Hd p) 3 0 _ x rfl).1 hx
   rw [lDc, lAg] at hx
   obtain ⟨_, fen, tt, sF, cE, kK, c7⟩ := F7.1 hx
   rw [← cE] at kK c7
   have iJ : x.frm = Rt pre := by rw [cE]; rfl
   have mq : x.dn = dnV pre := by rw [cE]; rfl
   have mr : x.ord = rs := by rw [cE]
   have dG : x.fen = fen := by rw [cE]
   have iP : ∀ a, a < p.length → EvR p x a := fun a ha => Am9 af ho iJ mq (by
    have : X2 x p.length = X2 (exV pre) p.length := by unfold X2 Af; rw [iJ, mq]; rfl
    rw [this]; exact cN) ha
   have bL : ∀ k : Nat, k < 3 → (x.ord[k]?.getD []).Perm (Nu p x.dn k p.length) ∧ Jk (okV p (exV pre)) [] (x.ord[k]?.getD []) := fun k cD => by
    have := mH k (by omega)
    rw [lBg] at this
    rw [mr, mq, lA2 (by omega), lAr]
    exact this
   have hs : Shape p x := by
    refine ⟨by rw [iJ]; simp [Rt, af], by rw [mq]; simp [dnV, af], by rw [mr]; exact e8, fun i hi => (iP i hi).do1, fun i hi hd => ?_, fun i hi hr => ?_, fun i hi hr => ?_, fun k cD => ?_, by rw [dG]; exact tt⟩
    ·cases hw : A1 (evAt p i).op with
     | false => rw [(iP i hi).do0 hw] at hd; cases hd
     | true => exact Cg.1 hw
    ·exact (iP i hi).out (by rw [Fr (hk i hi)]; exact hr)
    ·have be : Cv (evAt p i).op = true := by rw [Fr (hk i hi)]; exact hr
     have h1 := (iP i hi).src be
     by_cases h0 : 0 ≤ Af x i
     ·obtain ⟨h2, h3, h4⟩ := (iP i hi).src2 be h0
      exact .inr ⟨(Af x i).toNat, by omega, by omega, h2, h3⟩
     ·exact .inl (by omega)
    ·rw [← Ah1 iP]; exact (bL k cD).1
   have hw : Am7 p x := (Ux hs).1 fun a ha => by
    rw [lB0] at ke
    have h1 := ke a (lAn.2 ha)
    have : Jc p x a = Jc p (exV pre) a := by unfold Jc; rw [iJ, mq]; rfl
    rw [this]; exact h1
   have bp : ¬ Jt p x := fun h => by rw [(Lq hl hm hs).2 h] at kK; cases kK
   have cL : ¬ Sn p x := fun h => by rw [(Uo hl hm hs hp (JQ bp)).2 h] at c7; cases c7
   have eB : O2 p x := by
    intro l mI
    obtain ⟨k, cD, rfl⟩ := lBf mI
    have mt : k < 3 := by rw [hs.ol] at cD; exact cD
    have h1 := (bL k mt).2
    rw [lA2 cD, lAr] at h1
    have hin := Ag8 hl hm hs k mt
    rw [lA2 cD, lAr] at hin
    have h2 := (Ah2 hk fun i hi => by have := hin i hi; omega).1 h1
    intro i hi hr
    have h3 := h2 i hi hr
    unfold Af at h3 ⊢
    rw [iJ]; exact h3
   unfold Us
   rw [if_pos ⟨hs, hw⟩, if_neg bp, if_neg cL, if_pos eB]
 ·intro h
  unfold Us at h
  split at h
  case isFalse => cases h
  rename_i tu
  obtain ⟨hs, hw⟩ := tu
  split at h
  case isTrue => cases h
  rename_i bp
  split at h
  case isTrue => cases h
  rename_i cL
  split at h
  case isFalse => cases h
  rename_i eB
  have al := JQ bp
  have iP : ∀ a, a < p.length → EvR p x a := fun a ha => hs.evR hk ha
  have bA := hs.fl
  have bF := hs.dl
  have af : (x.frm.zip x.dn).length = p.length := by rw [List.length_zip]; omega
  have hfv : Rt (x.frm.zip x.dn) = x.frm := List.map_fst_zip (by omega)
  have lQ : dnV (x.frm.zip x.dn) = x.dn := List.map_snd_zip (by omega)
  have iz : ∀ k, k < x.fen.length → 0 ≤ Ae x.fen k ∧ Ae x.fen k < 16 := Xy hl hm hs
  have lk : RelOk 16 (C3 (Uh p) (C3 (Hr p x) (F0 x.fen))) := unionR_ok (thrR_ok hl) (unionR_ok (fromR_ok hl) (turnsR_ok iz))
  refine ⟨x.frm.zip x.dn, af, fun i hi => ?_, ?_⟩
  ·have aC : i < p.length := by omega
   simp only [lC7, lBg]
   have hE := iP i aC
   have hg : (x.frm.zip x.dn)[i] = (Af x i, Ci x.dn i) := by
    rw [List.getElem_zip]
    unfold Af Ci
    rw [lA2 (by omega), lA2 (by omega)]; rfl
   rw [hg, Pm]
   cases hr : Cv (evAt p i).op with
   | false =>
    refine .inl ⟨rfl, Prod.ext (hE.out hr) ?_⟩
    show Ci x.dn i = A1 (evAt p i).op
    cases aT : A1 (evAt p i).op with
    | false => exact hE.do0 aT
    | true =>
     refine hE.do1 (.inl ?_)
     have := Cg.1 aT
     simp only [Cv, lBn, lBm, decide_eq_false_iff_not] at hr
     omega
   | true =>
    have lF := hE.src hr
    refine .inr ⟨rfl, (Af x i + 1).toNat, by omega, K3.2 ⟨by dsimp only; omega, fun hh => ?_, fun h0 => ?_, ?_⟩⟩
    ·exact al i (.one ⟨aC, by omega⟩)
    ·obtain ⟨q1, q2, q3⟩ := hE.src2 hr (by omega)
     have : (Af x i + 1).toNat - 1 = (Af x i).toNat := by omega
     rw [this]; exact ⟨q3, q2⟩
    ·dsimp only
     cases aT : A1 (evAt p i).op with
     | false => exact .inl (hE.do0 aT)
     | true =>
      have h4 := Cg.1 aT
      by_cases h3 : (evAt p i).op.kind < 3
      ·refine .inl (hE.do1 ?_)
       simp only [Cv, lAq, lA6, decide_eq_true_eq] at hr
       omega
      ·cases hd : Ci x.dn i with
       | true => exact .inl rfl
       | false => exact .inr ⟨h3, rfl⟩
  ·rw [lAg]
   have aw : H0 p (exV (x.frm.zip x.dn)) = false := by
    unfold H0 exV
    rw [hfv, lQ]
    simp only [lBn, lCd]
    refine ⟨⟨⟨?_, ?_⟩, ?_⟩, ?_⟩
    ·unfold X2
     rw [lB0]
     intro a ha
     have hE := iP a (lAn.1 ha)
     show (!(decide (0 ≤ Af x a) && !Ci x.dn (Af x a).toNat)) = true
     by_cases h0 : 0 ≤ Af x a
     ·cases hr : Cv (evAt p a).op with
      | false => have := hE.out hr; omega
      | true => rw [(hE.src2 hr h0).1]; simp
     ·simp [h0]
    ·rw [lB0]
     intro a ha
     have ha := lAn.1 ha
     cases hr : (evAt p a).reads with
     | false => exact Aq9 hs.fromOk hs.srcOk hs.outLt ha hr
     | true => exact (Cw4 hs.fromOk hs.srcOk hs.outLt ha hr).1.2 ⟨_, Rq hs al ha hr⟩
    ·rw [lB0]
     intro a ha
     exact (Ux hs).2 hw a (lAn.1 ha)
    ·rw [lEk]
     intro hc
     obtain ⟨a, ha⟩ := Ct.1 hc
     have aP : ¬ Bi (Am5 p x) = true := fun h => bp ((Lq hl hm hs).1 h)
     refine aP (Ct.2 ⟨a, Pn (unionR_ok (thrR_ok hl) (fromR_ok hl)) lk (fun u v h => ?_) ha⟩)
     rcases (Bv (Fz p) (Ea p _)).1 h with h | h
     ·exact (Bv (Fz p) (by rw [Ek, Ea])).2 (.inl h)
     ·exact (Bv (Fz p) (by rw [Ek, Ea])).2 (.inr ((Bv (Ea p x) (Gy _)).2 (.inl h)))
   unfold En
   rw [if_neg (by rw [aw]; simp)]
   refine (Fg (Hd p) 3 0 _ x rfl).2 ⟨x.ord, hs.ol, fun j hj => ?_, ?_⟩
   ·have sJ : j < 3 := by rw [hs.ol] at hj; exact hj
    have hin := Ag8 hl hm hs j sJ
    have sK := hs.ord j sJ
    rw [lA2 hj, lAr] at hin sK
    refine ⟨?_, (Ah2 hk fun i hi => by have := hin i hi; omega).2 fun i hi hr => ?_⟩
    ·rw [lBg]
     have he : (exV (x.frm.zip x.dn)).dn = x.dn := lQ
     rw [he, Ah1 iP]; exact sK
    ·have := eB _ (lAm hj) i hi hr
     unfold Af at this ⊢
     show (Rt (x.frm.zip x.dn))[_]?.getD 0 = _
     rw [hfv]; exact this
   ·rw [lDc, lAg]
    have cE : ({ (exV (x.frm.zip x.dn)) with ord := x.ord } : Exec) = ⟨x.frm, x.dn, x.ord, []⟩ := by
     unfold exV; rw [hfv, lQ]
    rw [cE]
    have gT : Bi (Am5 p x) = false := by rw [lEk]; exact fun h => bp ((Lq hl hm hs).1 h)
    have dE : Gz (Ns p x) (Gl p x) = false := by rw [lEk]; exact fun h => cL ((Uo hl hm hs hp al).1 h)
    refine F7.2 ⟨?_, x.fen, hs.fen, ?_, rfl, gT, dE⟩
    ·rw [lEk]
     intro hb
     rw [lEk] at dE
     apply dE
     have ez : ∀ u v, A3 (Ns p ⟨x.frm, x.dn, x.ord, []⟩) u v = true → A3 (Ns p x) u v = true := fun u v h => by
      refine Pn (unionR_ok (thrR_ok hl) (unionR_ok (meetsR_ok hl) (turnsR_ok fun k hk => absurd hk (by simp)))) (unionR_ok (thrR_ok hl) (unionR_ok (meetsR_ok hl) (turnsR_ok iz))) (fun u v h => ?_) h
      rcases (Bv (Fz p) (by rw [Ek, Em])).1 h with h | h
      ·exact (Bv (Fz p) (by rw [Ek, Em])).2 (.inl h)
      ·rcases (Bv (Em p _) (Gy _)).1 h with h | h
       ·exact (Bv (Fz p) (by rw [Ek, Em])).2 (.inr ((Bv (Em p x) (Gy _)).2 (.inl h)))
       ·obtain ⟨i, j, _, hj, _⟩ := (Lp fun k hk => absurd hk (by simp)).1 h
        exact absurd hj (by simp)
     have mu : Gl p ⟨x.frm, x.dn, x.ord, []⟩ = Gl p x := rfl
     unfold Gz at hb ⊢
     rw [mu] at hb
     rw [lAq] at hb ⊢
     rcases hb with hb | hb
     ·obtain ⟨a, ha⟩ := Ct.1 hb
      exact .inl (Ct.2 ⟨a, ez _ _ ha⟩)
     ·simp only [lCc, lAn, lA6] at hb ⊢
      obtain ⟨a, ha, b, hb, h1, h2⟩ := hb
      exact .inr ⟨a, ha, b, hb, ez _ _ h1, h2⟩
    ·refine Lr.2 fun i hi => Rv.2 fun b hb aS aX c8 => ?_
     rw [lAg]
     refine lCo fun aP => bp ?_
     have sC : (b : Int) ∈ x.fen := hs.fen.mem_iff.2 (Jv.2 ⟨b, rfl, hb, aX⟩)
     obtain ⟨j, hj, qI⟩ := lBf sC
     have fV : i < j := lCo fun a8 => by
      by_cases jZ : j = i
      ·subst jZ; rw [qI] at aS; omega
      ·exact aP (by rw [← qI]; exact List.mem_take_iff_getElem.2 ⟨j, by omega, rfl⟩)
     have tv := iz i hi
     rw [It hi] at tv
     have jo : (x.fen[i]).toNat < p.length := by
      obtain ⟨c, hc, aO, _⟩ := Jv.1 (hs.fen.mem_iff.1 (lAm hi))
      omega
     have h1 : TG (Sb1 p) b (x.fen[i]).toNat := S0 hm (by omega) jo c8
     have h2 : TG (Fo1 x.fen) (x.fen[i]).toNat b := S1 (fun k hk => (iz k hk).1) ⟨i, j, fV, hj, by rw [It hi]; omega, by rw [It hj]; exact qI⟩
     exact ⟨b, (h1.mono fun _ _ k => .inl k).trans (h2.mono fun _ _ k => .inr (.inl k))⟩
end
section
variable {p : List Ev}
theorem Qb {e : Exec} : (Db p e).Nodup := by
 have cr : (Ba p).length < ([] : List Int).length + (p.length + 1) := by have := Bj p.length (fun i => (evAt p i).strong); unfold Ba; simp only [lC7]; omega
 unfold Db
 split
 ·exact lCe
 ·unfold S5
  refine Ls (Hw p) (fun r => ?_) (fun r t _ hne b hb eQ => ?_) _ _ lCe (by simp) cr
  ·unfold F6; split <;> simp
  ·have key : ∀ {r : List Int}, b ∈ F6 p { ({ e with fen := [] } : Exec) with fen := r } → b.fen = r := fun {r} h => by
    unfold F6 at h
    split at h
    ·cases h
    ·rw [lAk] at h; rw [h]
   exact hne ((key hb).symm.trans (key eQ))
theorem Mq : ∀ (n k : Nat) (e : Exec), e.ord.length = k + n → (Ec p e n k).Nodup
 | 0, k, e, hl => Qb
 | n + 1, k, e, hl => by
  have cr : (Nu p e.dn k p.length).length < ([] : List Int).length + (p.length + 1) := by have := Bj p.length (fun i => Ci e.dn i && decide ((evAt p i).op.loc = (k : Int))); unfold Nu; simp only [lC7]; omega
  have bn : ∀ r : List Int, (e.ord.set k r).take (k + 1) = e.ord.take k ++ [r] := fun r => by
   rw [lA7 (by simp; omega), lDi, lCx (lA5 k)]
  rw [Ec]
  refine Ls (Hd p _ _) (fun r => Mq n (k + 1) _ (by simp; omega)) (fun r t _ hne b hb eQ => ?_) _ _ lCe (by simp) cr
  have key : ∀ {r : List Int}, b ∈ Ec p { e with ord := e.ord.set k r } n (k + 1) → b.ord[k]? = some r := fun {r} h => by
   obtain ⟨rs, _, _, h⟩ := (Fg (Hd p) n (k + 1) _ b (by simp; omega)).1 h
   obtain ⟨_, fen, _, _, hx, _⟩ := F7.1 h
   rw [hx]
   dsimp only
   rw [bn, lAc, lEm (by rw [lC0]; omega), lC0, lBx (by omega), lF5]
   rfl
  have h1 := key hb
  rw [key eQ] at h1
  exact hne (Option.some.inj h1).symm
theorem Rw {pre : List (Int × Bool)} {x : Exec} (h : x ∈ En p pre) : x.frm = Rt pre ∧ x.dn = dnV pre := by
 unfold En at h
 split at h
 ·cases h
 ·obtain ⟨rs, _, _, h⟩ := (Fg (Hd p) 3 0 _ x rfl).1 h
  obtain ⟨_, fen, _, _, hx, _⟩ := F7.1 h
  rw [hx]; exact ⟨rfl, rfl⟩
theorem Uy {pre : List (Int × Bool)} : (En p pre).Nodup := by
 unfold En
 split
 ·exact lCe
 ·exact Mq 3 0 _ rfl
theorem Wn {i : Nat} (hw : 3 ≤ (evAt p i).op.kind → Cv (evAt p i).op = true → A1 (evAt p i).op = true) : (Hx p i).Nodup := by
 unfold Hx
 split
 ·exact lD0.2 ⟨lB4, lCe⟩
 ·rename_i hr
  have hr : Cv (evAt p i).op = true := by simpa using hr
  refine Cm List.nodup_range (fun f _ => ?_) (fun f _ g _ hne z hz gw => ?_)
  ·unfold Vh
   split
   ·exact lCe
   ·split
    ·exact lD0.2 ⟨lB4, lCe⟩
    ·rename_i hk
     refine lD0.2 ⟨?_, lD0.2 ⟨lB4, lCe⟩⟩
     rw [lAk, hw (by omega) hr]
     simp
  ·have h1 := (K3.1 hz).1
   have h2 := (K3.1 gw).1
   omega
theorem Ms (hw : ∀ i, 3 ≤ (evAt p i).op.kind → Cv (evAt p i).op = true → A1 (evAt p i).op = true) : ∀ (n : Nat) (pre : List (Int × Bool)), (Ch p n pre).Nodup
 | 0, pre => Uy
 | n + 1, pre => by
  rw [Ch]
  refine Cm (Wn (hw _)) (fun o _ => Ms hw n _) (fun o _ q _ hne z hz gw => ?_)
  obtain ⟨r, hr, _, h1⟩ := Hc.1 hz
  obtain ⟨t, ht, _, h2⟩ := Hc.1 gw
  obtain ⟨a1, a2⟩ := Rw h1
  obtain ⟨b1, b2⟩ := Rw h2
  rw [a1] at b1
  rw [a2] at b2
  have e1 := congrArg (fun l => l[pre.length]?) b1
  have e2 := congrArg (fun l => l[pre.length]?) b2
  refine hne (Prod.ext ?_ ?_)
  ·simpa [Rt] using e1
  ·simpa [dnV] using e2
theorem Ah3 {o : OpV} (h3 : 3 ≤ o.kind) (hr : Cv o = true) : A1 o = true := by
 refine Cg.2 ?_
 simp only [Cv, lAq, lA6, decide_eq_true_eq] at hr
 omega
theorem K4 (hk : ∀ i, i < p.length → 0 ≤ (evAt p i).op.kind ∧ (evAt p i).op.kind ≤ 5) (hp : POk p) (hm : Nn p) (hl : p.length ≤ 16) : (Z5 p).Perm (Ca p) :=
 (List.perm_ext_iff_of_nodup (Ms (fun _ h3 hr => Ah3 h3 hr) _ _) (Uv p)).2 fun x => by
  exact (An0 hk hp hm hl).trans (Y9 hp hm)
def K5 (p : List Ev) (l : List Exec) (had : List (List Int)) : List (List Int) := l.foldl (fun a e => Lo (Ar p e) a) had
theorem S6 : ∀ (l : List Exec) {had : List (List Int)}, had.Pairwise (fun x y => Da x y < 0) → (K5 p l had).Pairwise (fun x y => Da x y < 0)
 | [], _, h => h
 | e :: l, had, h => S6 l (had := Lo (Ar p e) had) (Sv h)
theorem S7 {x : List Int} : ∀ (l : List Exec) {had : List (List Int)}, x ∈ K5 p l had ↔ x ∈ had ∨ x ∈ l.map (Ar p)
 | [], _ => by simp [K5]
 | e :: l, had => by
  show x ∈ K5 p l (Lo (Ar p e) had) ↔ _
  rw [S7 l, Nq, lDu, lBo]
  constructor
  ·rintro ((h | h) | h)
   ·exact .inr (.inl h)
   ·exact .inl h
   ·exact .inr (.inr h)
  ·rintro (h | h | h)
   ·exact .inl (.inr h)
   ·exact .inl (.inl h)
   ·exact .inr h
theorem An1 {l m : List Exec} {had : List (List Int)} : K5 p (l ++ m) had = K5 p m (K5 p l had) := lEi
theorem Ah4 (hk : ∀ i, i < p.length → 0 ≤ (evAt p i).op.kind ∧ (evAt p i).op.kind ≤ 5) (hp : POk p) (hm : Nn p) (hl : p.length ≤ 16) : Z4 p (K5 p (Z5 p) []) :=
 ⟨S6 _ List.Pairwise.nil, fun x => by
  rw [S7, lAi, lAi]
  constructor
  ·rintro (h | ⟨e, he, hx⟩)
   ·cases h
   ·exact ⟨e, (K4 hk hp hm hl).mem_iff.1 he, hx⟩
  ·rintro ⟨e, he, hx⟩
   exact .inr ⟨e, (K4 hk hp hm hl).mem_iff.2 he, hx⟩⟩
end
theorem Ah5 {x : List Int} : ∀ {ls : List (List Int)} {lo : Nat}, (∀ i, (h : i < ls.length) → i < lo → Da ls[i] x < 0) → (∀ i, (h : i < ls.length) → lo ≤ i → ¬ Da ls[i] x < 0) → lo ≤ ls.length →
  Lo x ls = if ls[lo]? = some x then ls else ls.take lo ++ x :: ls.drop lo
 | [], lo, _, _, h => by
  have : lo = 0 := by simpa using h
  subst this; rfl
 | y :: l, 0, h1, h2, _ => by
  have h3 : ¬ Da y x < 0 := h2 0 (by simp) (lA5 _)
  rw [Lo]
  simp only [lE5, Option.some.injEq, lDc, lBr, lAg]
  by_cases he : y = x
  ·subst he
   rw [if_neg h3, if_pos rfl, if_pos rfl]
  ·rw [if_neg he]
   rcases Ej x y with k | k | k
   ·rw [if_pos k]
   ·exact absurd k.symm he
   ·exact absurd k h3
 | y :: l, lo + 1, h1, h2, hl => by
  have h3 : Da y x < 0 := h1 0 (by simp) (by omega)
  have ih := Ah5 (x := x) (ls := l) (lo := lo) (fun i hi aS => h1 (i + 1) (by simpa using hi) (by omega)) (fun i hi a8 => h2 (i + 1) (by simpa using hi) (by omega)) (by simpa using hl)
  have hne : ¬ x = y := fun e => by subst e; rw [Cu] at h3; omega
  have cR : ¬ Da x y < 0 := fun h => by have := Dm _ _ _ h h3; rw [Cu] at this; omega
  rw [Lo, if_neg cR, if_neg hne, ih]
  simp only [lEr, lEp, lE6, lAl]
  split <;> rfl
structure RowsOk (M : Aa) (vs : List Value) (ls : List (List Int)) : Prop where
 len : vs.length = ls.length
 at_ : ∀ k, (h : k < vs.length) → (h' : k < ls.length) → Sl M 1 ei vs[k] ls[k]
theorem RowsOk.mono {M M' : Aa} {vs : List Value} {ls : List (List Int)} (h : RowsOk M vs ls) (k : M.le M') : RowsOk M' vs ls := ⟨h.len, fun i a b => (h.at_ i a b).mono k⟩
theorem RowsOk.put {M : Aa} {vs : List Value} {ls : List (List Int)} (h : RowsOk M vs ls) {v : Value} {x : List Int} (hv : Sl M 1 ei v x) {lo : Nat} (hlo : lo ≤ ls.length) : RowsOk M (vs.take lo ++ v :: vs.drop lo) (ls.take lo ++ x :: ls.drop lo) := by
 have hl := h.len
 refine ⟨by simp only [lA4, lC0, lB5, lDs]; omega, fun k a b => ?_⟩
 by_cases h1 : k < lo
 ·rw [lCq (by simp; omega), lCq (by simp; omega), lEj, lEj]
  exact h.at_ k (by omega) (by omega)
 ·rw [lCm (by simp; omega), lCm (by simp; omega)]
  have e1 : (vs.take lo).length = lo := by simp; omega
  have e2 : (ls.take lo).length = lo := by simp; omega
  simp only [e1, e2]
  by_cases h2 : k = lo
  ·subst h2
   simpa using hv
  ·obtain ⟨j, rfl⟩ : ∃ j, k = lo + j + 1 := ⟨k - lo - 1, by omega⟩
   have e3 : lo + j + 1 - lo = j + 1 := by omega
   simp only [e3, lAs, List.getElem_drop]
   simp only [lA4, lC0, lB5, lDs] at a b
   exact h.at_ (lo + j) (by omega) (by omega)
section
variable {M : Aa}
theorem I4 (T : TypeId) (b c : Nat) (sp xs : List Value) : osg T (some (b, c, sp)) xs = [(b, Cl T (xs ++ sp))] := rfl
theorem Po (w0 : World) (F : List Nat) (Φ : Value → Aa → Own → Prop) {ls : List (List Int)} {x : List Int} {vs : List Value} {w : Value} {lo : Nat} (hv : RowsOk M vs ls) (hw : Sl M 1 ei w x) (hl : ls.length < 1000000) (hx : x.length < 1000000) (hlo : lo ≤ ls.length)
  {b cap : Nat} {sp : List Value} (ho : Eo 1 (some (b, cap, sp)) (ls.length + 1) (vs ++ [.slice none 0 0]))
  (hΦ : ∀ M' vs', M.le M' → Eo 1 (some (b, cap, sp)) (ls.length + 1) vs' → RowsOk M' vs' (ls.take lo ++ x :: ls.drop lo) → Φ (osv (some (b, cap, sp)) (ls.length + 1)) M' (osg 34 (some (b, cap, sp)) vs')) :
  EV (Cx.fn Tryz.prog 174 65 w0 F M Φ) [0, 1, 4, 5, 6, 7, 8] [RItem.code (((RCode.reg Aq0).seq (RCode.block 2 Ac9.loop)).seq ((RCode.reg Aq1).seq ((RCode.reg Aq2).seq RCode.ret)))]
   [(0, osv (some (b, cap, sp)) (ls.length + 1)), (1, w), (5, vi lo)] M (osg 34 (some (b, cap, sp)) (vs ++ [.slice none 0 0])) := by
 have dw := hv.len
 have km : ∀ i, i ≤ vs.length → ∀ g, (vs.take i ++ g :: vs.drop i).length = ls.length + 1 := fun i hi g => by simp; omega
 simp only [I4, Ft, Et]
 repeat' first | refine st ?_ | refine rg ?_ | exact ⟨⟩ | fail
 refine JC (fun z : Nat × Value => ([(0, osv (some (b, cap, sp)) (ls.length + 1)), (1, w), (5, vi lo), (8, vi z.1)], M, [(b, Cl 34 (vs.take z.1 ++ z.2 :: vs.drop z.1 ++ sp))])) (fun z => lo ≤ z.1 ∧ z.1 ≤ ls.length) (fun z => z.1 - lo) (ls.length, .slice none 0 0) rfl ⟨hlo, lA5 _⟩ ?env1 (by have e : vs.take ls.length ++ (.slice none 0 0 : Value) :: vs.drop ls.length = vs ++ [.slice none 0 0] := (by rw [← dw, lB1, List.drop_length]); dsimp only; rw [e, lAc]; exact lA0 _) ?_
 case env1 =>
  exact eE
 rintro ⟨i, g⟩ ⟨h1, h2⟩ ih
 dsimp only at h1 h2 ih ⊢
 have aG := km i (by omega) g
 have dh : (vs.take i ++ g :: vs.drop i ++ sp).length = ls.length + 1 + sp.length := by rw [lA4, aG]
 by_cases uw : lo < i
 ·have k1 : ((lo : Int) < (i : Int)) = True := eq_true (by omega)
  obtain ⟨j, rfl⟩ : ∃ j, i = j + 1 := ⟨i - 1, by omega⟩
  have qJ : j < vs.length := by omega
  obtain ⟨sa, sc, f7, lF⟩ := hv.at_ j qJ (by omega)
  have aT : IntKind.i64.wrap ((j : Int) + 1 - 1) = (j : Int) := by rw [w64 (by omega) (by omega)]; omega
  have k2 : ((lo : Int) < (j : Int) + 1) = True := eq_true (by omega)
  have aR : rd (M.add [(b, Cl 34 (vs.take (j + 1) ++ g :: (vs.drop (j + 1) ++ sp)))]) b j 1 [vs[j]] := by
   refine B3 (T := 34) (lCk _) ?_ ?_
   ·rw [lCu (by simp; omega), lBi (by simp; omega), lEj]; rfl
   ·rw [lAc, lAl] at dh
    omega
  rw [f7] at aR
  repeat' first | refine st ?_ | (refine EV.reg ?_; (conv => (arg 2; whnf)); (repeat first | refine nx ?_ | simp only [k1, k2, aT])) | (refine cX ?_ ?_ <;> intro h <;> try exact Ai h) | refine ZF ?_ | (refine lA9 _ (lA9 _ (lA9 _ (lAd (by assumption) ?_))); (repeat first | refine nx ?_ | simp only [k1, k2, aT])) | (refine xw ?_; (repeat first | refine nx ?_ | simp only [k1, k2, aT])) | fail
  have e1 : ((j : Int) + 1).toNat = j + 1 := by omega
  have e2 : List.take (j + 1) (List.take (j + 1) vs ++ g :: (List.drop (j + 1) vs ++ sp)) ++ (.slice sa ls[j].length sc : Value) :: List.drop (j + 1 + 1) (List.take (j + 1) vs ++ g :: (List.drop (j + 1) vs ++ sp)) = List.take j vs ++ vs[j] :: (List.drop j vs ++ sp) := by
   have h3 : (List.take (j + 1) vs).length = j + 1 := by simp; omega
   rw [List.take_left' h3, lF8, lF0 (by omega : (List.take (j + 1) vs).length ≤ j + 1 + 1), h3, show j + 1 + 1 - (j + 1) = 1 by omega, lE6, lBr, lAg, ← f7]
   rw [lA7 qJ, lBi qJ]
   simp only [lAc, lAl, lAg]
  simp only [e1, e2]
  refine ⟨by rw [lAc, lAl] at dh; omega, ?_⟩
  repeat' first | refine su ?_ | (refine EV.reg ?_; (conv => (arg 2; whnf)); (repeat first | refine nx ?_ | simp only [aT])) | fail
  refine JA (ih (j, vs[j]) ⟨by dsimp only; omega, by dsimp only; omega⟩ (by dsimp only; omega)) ?_ (by dsimp only; rw [lAc, lAl]; exact lA0 _)
  exact eE
 ·have k1 : ((lo : Int) < (i : Int)) = False := eq_false (by omega)
  have bO : i = lo := by omega
  subst bO
  repeat' first | refine st ?_ | (refine EV.reg ?_; (conv => (arg 2; whnf)); (repeat first | refine nx ?_ | simp only [k1])) | (refine cX ?_ ?_ <;> intro h <;> try exact Ai h) | fail
  refine Con.callR (G1 := []) (Il x w hw hx) (JB _ _) ?_
  rintro v5 M5 G5 M2 bZ qK ⟨rfl, cb, cc, csp, rfl, kp, rfl⟩
  repeat' first | refine ZF ?_ | (refine xw ?_; refine nx ?_) | exact ⟨⟩ | fail
  have e2 : List.take i (List.take i vs ++ g :: (List.drop i vs ++ sp)) ++ Av cb x.length cc :: List.drop (i + 1) (List.take i vs ++ g :: (List.drop i vs ++ sp)) = List.take i vs ++ Av cb x.length cc :: (List.drop i vs ++ sp) := by
   have h3 : (List.take i vs).length = i := by simp; omega
   rw [List.take_left' h3, lF8, lF0 (by omega : (List.take i vs).length ≤ i + 1), h3, show i + 1 - i = 1 by omega, lE6, lBr, lAg]
  rw [e2]
  refine ⟨by rw [lAc, lAl] at dh; omega, ?_⟩
  repeat' first | refine st ?_ | refine rg ?_ | exact ⟨⟩ | fail
  (refine rt Q62_ok ?_; try with_reducible exact ⟨⟩)
  have ah : Sl M2 1 ei (Av cb x.length cc) x := by
   rw [qK]
   exact ⟨_, _, rfl, by rw [Ax]; exact Ew (T := 3) kp (fun p hp => hp)⟩
  have hr := (hv.mono bZ).put ah hlo
  have h5 := hΦ M2 (List.take i vs ++ Av cb x.length cc :: List.drop i vs) bZ ⟨by rw [hr.len]; simp; omega, by have := ho.2.1; rw [lA4] at this ⊢; rw [hr.len]; simp at this ⊢; omega, ho.2.2.1, ho.2.2.2⟩ hr
  rw [I4, lAc, lAl] at h5
  exact h5
theorem An2 (ls : List (List Int)) (x : List Int) (o : Vec) (vs : List Value) (w : Value) (ho : Eo 1 o ls.length vs) (hv : RowsOk M vs ls) (hw : Sl M 1 ei w x) (hs : ls.Pairwise fun x y => Da x y < 0) (hl : ls.length < 1000000) (hx : x.length < 1000000) (bV : ∀ y ∈ ls, y.length < 1000000) :
  Con Tryz.prog 174 #[osv o ls.length, w] M (osg 34 o vs) fun u M' G' => M.le M' ∧ ∃ o' vs', Eo 1 o' (Lo x ls).length vs' ∧ RowsOk M' vs' (Lo x ls) ∧ u = osv o' (Lo x ls).length ∧ G' = osg 34 o' vs' := by
 have hp := lBb.1 hs
 refine Con.enter Q62_ok (args := [osv o ls.length, w]) (by simp [Q62]) fun w0 => ?_
 simp only [Q62, A9]
 repeat' first | refine st ?_ | refine rg ?_ | exact ⟨⟩ | fail
 refine JC (fun z : Nat × Nat => ([(0, osv o ls.length), (1, w), (5, vi z.1), (6, vi z.2)], M, osg 34 o vs)) (fun z => z.1 ≤ z.2 ∧ z.2 ≤ ls.length ∧ (∀ i (h : i < ls.length), i < z.1 → Da ls[i] x < 0) ∧ ∀ i (h : i < ls.length), z.2 ≤ i → ¬ Da ls[i] x < 0) (fun z => z.2 - z.1) (0, ls.length) rfl ⟨lA8 _, lA5 _, fun i h h' => absurd h' (by simp), fun i h h' => absurd h (by dsimp only at h'; omega)⟩ ?env1 (lA0 _) ?_
 case env1 =>
  exact eE
 rintro ⟨lo, hi⟩ ⟨h1, h2, h3, h4⟩ ih
 dsimp only at h1 h2 h3 h4 ih ⊢
 by_cases aS : lo < hi
 ·rcases o with _ | ⟨ob, oc, osp⟩
  ·have := ho.1; omega
  have k1 : ((lo : Int) < (hi : Int)) = True := eq_true (by omega)
  have aT : IntKind.i64.wrap ((lo : Int) + (hi : Int)) = (lo : Int) + (hi : Int) := w64 (by omega) (by omega)
  have hq : IntKind.i64.wrap (((lo : Int) + (hi : Int)).tdiv 2) = (((lo + hi) / 2 : Nat) : Int) := by
   rw [Int.tdiv_eq_ediv_of_nonneg (by omega), w64 (by omega) (by omega)]; omega
  have hm : (lo + hi) / 2 < ls.length := by omega
  have kr : (lo + hi) / 2 < vs.length := by rw [hv.len]; exact hm
  have hat := hv.at_ _ kr hm
  obtain ⟨sa, sc, f7, lF⟩ := hv.at_ _ kr hm
  have jd := fun G => Af8 (M := M.add G) ls[(lo + hi) / 2] x _ w (hat.mono (JB _ _)) (hw.mono (JB _ _)) (by have := bV _ (lAm hm); omega) (by omega)
  have aR : rd (M.add (osg 34 (some (ob, oc, osp)) vs)) ob ((lo + hi) / 2) 1 [vs[(lo + hi) / 2]] := by
   refine B3 (T := 34) (by rw [I4]; exact lCk _) ?_ ?_
   ·rw [lCu (by omega), lBi kr]; rfl
   ·simp; omega
  rw [f7] at aR jd
  simp only [I4, Ft, Et] at aR ih ⊢
  generalize tw : (lo + hi) / 2 = mid at *
  repeat' first | refine st ?_ | (refine EV.reg ?_; (conv => (arg 2; whnf)); (repeat first | refine nx ?_ | simp only [k1, aT, hq, show ¬ (2 : Int) = 0 by decide])) | (refine As.call (jd _) ?_; (repeat first | refine nx ?_ | simp only [k1, aT, hq, show ¬ (2 : Int) = 0 by decide])) | (refine cX ?_ ?_ <;> intro h <;> try exact Ai h) | refine ZF ?_ | (refine lA9 _ (lA9 _ (lA9 _ (lAd (by assumption) ?_))); (repeat first | refine nx ?_ | simp only [k1, aT, hq, show ¬ (2 : Int) = 0 by decide])) | fail
  all_goals have tx : lo ≤ mid ∧ mid < hi := by omega
  ·refine JA (ih (mid + 1, hi) ⟨by dsimp only; omega, h2, fun i aC aS => ?_, h4⟩ (by dsimp only; omega)) ?_ (lA0 _)
   ·dsimp only at aS
    have hmx : Da ls[mid] x < 0 := by simpa using h
    by_cases he : i = mid
    ·subst he; exact hmx
    ·exact Dm _ _ _ (hp i mid aC hm (by omega)) hmx
   ·exact eE
  ·refine JA (ih (lo, mid) ⟨by dsimp only; omega, by dsimp only; omega, h3, fun i aC ct => ?_⟩ (by dsimp only; omega)) ?_ (lA0 _)
   ·dsimp only at ct
    have hmx : ¬ Da ls[mid] x < 0 := by simpa using h
    by_cases he : i = mid
    ·subst he; exact hmx
    ·exact fun aS => hmx (Dm _ _ _ (hp mid i hm aC (by omega)) aS)
   ·exact eE
 ·have k1 : ((lo : Int) < (hi : Int)) = False := eq_false (by omega)
  have a8 : lo = hi := by omega
  subst a8
  have hin := Ah5 h3 h4 h2
  by_cases hlo : lo < ls.length
  ·rcases o with _ | ⟨ob, oc, osp⟩
   ·have := ho.1; omega
   have k2 : ((lo : Int) < (ls.length : Int)) = True := eq_true (by omega)
   have kr : lo < vs.length := by rw [hv.len]; exact hlo
   have hat := hv.at_ _ kr hlo
   obtain ⟨sa, sc, f7, lF⟩ := hv.at_ _ kr hlo
   have fP := fun G => Pc (M := M.add G) ls[lo] x _ w (hat.mono (JB _ _)) (hw.mono (JB _ _)) (by have := bV _ (lAm hlo); omega) (by omega)
   have aR : rd (M.add (osg 34 (some (ob, oc, osp)) vs)) ob lo 1 [vs[lo]] := by
    refine B3 (T := 34) (by rw [I4]; exact lCk _) ?_ ?_
    ·rw [lCu (by omega), lBi kr]; rfl
    ·simp; omega
   rw [f7] at aR fP
   simp only [I4, Ft, Et] at aR ⊢
   have bt : ls[lo]? = some ls[lo] := lA2 hlo
   repeat' first | refine st ?_ | (refine EV.reg ?_; (conv => (arg 2; whnf)); (repeat first | refine nx ?_ | simp only [k1, k2, decide_true])) | (refine As.call (fP _) ?_; (repeat first | refine nx ?_ | simp only [k1, k2, decide_true])) | with_reducible assumption | (refine JE ?_ (fun hc K' hK => ?_) ?_; rotate_left) | (refine cX ?_ ?_ <;> intro h <;> try exact Ai h) | (with_reducible intro b; (repeat first | refine nx ?_ | simp only [k1, k2, decide_true])) | refine ZF ?_ | (refine lA9 _ (lA9 _ (lA9 _ (lAd (by assumption) ?_))); (repeat first | refine nx ?_ | simp only [k1, k2, decide_true])) | fail
   ·have hmx : ls[lo] = x := by simpa using h
    rw [bt, hmx, if_pos rfl] at hin
    repeat' first | fail
    (refine rt Q62_ok ?_; try with_reducible exact ⟨⟩)
    rw [hin]
    exact ⟨Aa.le_refl _, some (ob, oc, osp), vs, ho, hv, rfl, rfl⟩
   ·have hmx : ¬ ls[lo] = x := by simpa using h
    rw [bt, if_neg fun e => hmx (Option.some.inj e)] at hin
    have cG : (Lo x ls).length = ls.length + 1 := by rw [hin]; simp; omega
    refine ⟨_, Or.inr ⟨_, 0, rfl, Ap 0 rfl rfl (by simp)⟩, by simp [Bp, Cb, Value.oneCell'], Or.inl ⟨_, _, rfl, _, ho, _, B4 [[_], osg 34 (some (ob, oc, osp)) vs] 1 (by simp), ?_, ?_, ?_⟩⟩
    ·simp only [maxLen]; omega
    ·omega
    intro o' bD _
    simp only [lB7, lB9, lAs, lAt, C7, C6, C5, lAg, lAl, lAc, lAa]
    rcases o' with _ | ⟨b', cap', sp'⟩
    ·have := bD.1; omega
    refine JA (Po w0 _ _ hv hw hl hx h2 bD fun M' vs' ax ae hr => ⟨ax, some (b', cap', sp'), vs', by rw [cG]; exact ae, by rw [hin]; exact hr, by rw [cG], rfl⟩) ?_ eS
    exact eE
  ·have k2 : ((lo : Int) < (ls.length : Int)) = False := eq_false (by omega)
   have bt : ls[lo]? = none := lCy (by omega)
   rw [bt, if_neg (by simp)] at hin
   have cG : (Lo x ls).length = ls.length + 1 := by rw [hin]; simp; omega
   repeat' first | refine st ?_ | (refine EV.reg ?_; (conv => (arg 2; whnf)); (repeat first | refine nx ?_ | simp only [k1, k2, decide_false])) | (refine JE ?_ (fun hc K' hK => ?_) ?_; rotate_left) | (refine cX ?_ ?_ <;> intro h <;> try exact Ai h) | (with_reducible intro b; (repeat first | refine nx ?_ | simp only [k1, k2, decide_false])) | (exfalso; simp at hc; done) | exact false | fail
   refine ⟨_, Or.inr ⟨_, 0, rfl, Ap 0 rfl rfl (by simp)⟩, by simp [Bp, Cb, Value.oneCell'], Or.inl ⟨_, _, rfl, _, ho, _, B4 [[_], osg 34 o vs] 1 (by simp), ?_, ?_, ?_⟩⟩
   ·simp only [maxLen]; omega
   ·omega
   intro o' bD _
   simp only [lB7, lB9, lAs, lAt, C7, C6, C5, lAg, lAl, lAc, lAa]
   rcases o' with _ | ⟨b', cap', sp'⟩
   ·have := bD.1; omega
   refine JA (Po w0 _ _ hv hw hl hx h2 bD fun M' vs' ax ae hr => ⟨ax, some (b', cap', sp'), vs', by rw [cG]; exact ae, by rw [hin]; exact hr, by rw [cG], rfl⟩) ?_ eS
   exact eE
end
section
variable {M : Aa}
theorem Uz (ls : List (List Int)) (v : Value) (hv : D4 M 1 ei v ls) (hl : ls.length < 1000000) (bV : ∀ y ∈ ls, y.length < 1000000) :
  Con Tryz.prog 185 #[v] M [] fun u M' _ => D4 M' 1 ei u ls := by
 obtain ⟨oa, oc, ovs, rfl, bC, bW, bo⟩ := hv
 refine Con.enter Q57_ok (args := [.slice oa ls.length oc]) (by simp [Q57]) fun w0 => ?_
 simp only [Q57, A9]
 repeat' first | refine st ?_ | refine rg ?_ | exact ⟨⟩ | fail
 refine JC (fun x : Nat × Aa × Vec × List Value => ([(0, .slice oa ls.length oc), (3, osv x.2.2.1 x.1), (4, vi x.1)], x.2.1, osg 34 x.2.2.1 x.2.2.2))
  (fun x => x.1 ≤ ls.length ∧ M.le x.2.1 ∧ Eo 1 x.2.2.1 x.1 x.2.2.2 ∧ x.2.2.2.length = x.1 ∧ ∀ j (h : j < x.2.2.2.length) (h' : j < ls.length), SlC x.2.1 1 ei x.2.2.2[j] ls[j]) (fun x => ls.length - x.1) (0, M, none, []) rfl ⟨lA8 _, Aa.le_refl _, ⟨rfl, rfl⟩, rfl, fun j h => absurd h (by simp)⟩ ?env1 (lA0 _) ?_
 case env1 =>
  exact eE
 rintro ⟨k, Mk, ov, vs⟩ ⟨hk, iN, aL, dw, cH⟩ ih
 dsimp only at hk iN aL dw cH ih ⊢
 repeat' first | refine st ?_ | refine rg ?_ | (refine cX ?_ ?_ <;> intro h <;> try exact Ai h) | exact ⟨⟩ | fail
 ·have ak : k < ls.length := by omega
  obtain ⟨ob, oo, rfl, bU⟩ := D4.at bW bC bo (by omega)
  obtain ⟨la, lc, aR, cW, aW⟩ := bU k ak
  have aR := aR.mono iN
  have aW := aW.mono iN
  rw [lAw] at aR
  have ny := bV _ (lAm ak)
  repeat' first | refine ZF ?_ | (refine xn ?_; try refine nx ?_) | exact ⟨⟩ | fail
  refine JK (Il ls[k] _ ⟨la, lc, rfl, aW.mono (JB _ _)⟩ ny) ?_
  rintro v1 M1 G1 ⟨rfl, cb, cc, csp, rfl, kp, rfl⟩
  intro bb
  simp only [lB5, lC7, lE6, lBr, lAa]
  refine ⟨_, Or.inr ⟨_, 0, rfl, Ap 0 rfl rfl (by simp)⟩, by simp [Bp, Cb, Value.oneCell'], Or.inl ⟨_, _, rfl, _, aL, _, B4 [[_], osg 34 ov vs, [_]] 1 (by simp), ?_, ?_, ?_⟩⟩
  ·simp only [maxLen]; omega
  ·omega
  intro o2 an _
  simp only [lB7, lB9, lAs, lAt, C7, C6, C5, lAg, lAl, lAc, lAa]
  repeat' first | refine su ?_ | refine rg ?_ | exact ⟨⟩ | fail
  refine JG (osg 34 o2 (vs ++ [Av cb ls[k].length cc])) ?_
  generalize hR : Mk.add _ = N
  have aB : Mk.le N := hR ▸ JB _ _
  have cI : SlC N 1 ei (Av cb ls[k].length cc) ls[k] := hR ▸ Gf (T := 3) kp rfl (fun q hq => by simp [osg] at hq; simp [hq])
  clear hR
  have ih3 := ih (k + 1, N, o2, vs ++ [Av cb ls[k].length cc]) ⟨by dsimp only; omega, Aa.le_trans iN aB, an, by simp [dw], fun j hj iE => ?_⟩ (by dsimp only; omega)
  ·dsimp only at ih3
   refine JD ih3 ?_
   exact eE
  ·dsimp only at hj ⊢
   by_cases mO : j < vs.length
   ·rw [lCq mO]; exact (cH j mO iE).mono aB
   ·have : j = k := by simp at hj; omega
    subst this
    rw [lCm (by omega)]
    simp only [dw, lF5, lAt]; exact cI
 ·have dY : k = ls.length := by omega
  subst dY
  repeat' first | fail
  refine JG [] ?_
  generalize hR : Mk.add _ = N
  have aB : Mk.le N := hR ▸ JB _ _
  have ga : rdS N 1 (oad ov) ls.length vs := hR ▸ Ew (T := 34) aL (fun q hq => by simp [hq])
  clear hR
  (refine rt Q57_ok ?_; try with_reducible exact ⟨⟩)
  exact ⟨_, _, vs, rfl, dw, ga, fun j a b => (cH j a b).mono aB⟩
theorem U0 (e : Exec) (v : Value) (hv : IsX M v e) (h1 : e.frm.length < 1000) (h2 : e.dn.length < 1000) (h3 : e.ord.length < 1000) (h4 : e.fen.length < 1000) (h5 : ∀ l ∈ e.ord, l.length < 1000) :
  Con Tryz.prog 175 #[v] M [] fun v M' _ => IsX M' v e := by
 obtain ⟨f, d, o, n, rfl, hf, hd, ho, hn⟩ := hv
 have d9 := hf
 have nj := hd
 have fT := hn
 have ty := ho
 obtain ⟨fa, fc, rfl, cK⟩ := hf
 obtain ⟨da, dc, rfl, aH⟩ := hd
 obtain ⟨na, nc, rfl, ll⟩ := hn
 obtain ⟨oa, oc, ovs, rfl, bC, bW, bo⟩ := ho
 refine Con.enter Q86_ok (args := [.agg #[.slice fa e.frm.length fc, .slice da e.dn.length dc, .slice oa e.ord.length oc, .slice na e.fen.length nc]]) (by simp [Q86]) fun w0 => ?_
 simp only [Q86, A9]
 refine EV.seq (EV.reg ?_)
 (repeat first | refine nx ?_ | simp only [Cv0])
 intro xb rb
 refine EV.seq (JH (fun ρ' M' G' => ∃ u, M.le M' ∧ IsX M' u e ∧ get ρ' 2 = some (pv rb 0) ∧ G' = [(rb, Cl 37 u.cells.toList)]) ?_ ?_)
 ·intro k' key
  have mN := fun G => Il (M := M.add G) e.frm _ (d9.mono (JB _ _)) (by omega)
  have oO := Uz e.ord _ ty (by omega) (fun y hy => by have := h5 y hy; omega)
  have iB := fun (N : Aa) (hN : M.le N) G => Il (M := N.add G) e.fen _ (fT.mono (Aa.le_trans hN (JB _ _))) (by omega)
  rw [Eh] at aH
  refine EV.any (t := Cv1) [(xb, Cl 37 [.slice fa e.frm.length fc, .slice da e.dn.length dc, .slice oa e.ord.length oc, .slice na e.fen.length nc])] (by simp) ?_
  simp only [An, Aq, Al, Au, reduceIte, Nat.reduceEqDiff]
  repeat' first | ((first | refine zo (fun lq aD => ?_) | refine zl ?_ | fail); try refine nz ?_) | refine zq (fun lq tq aD aA => ?_) | ((with_reducible refine JK (mN _) ?_) ;  rintro v1 M1 G1 ⟨rfl, b1, c1, s1, rfl, k1, rfl⟩; try refine nz ?_) | (refine ZA (fun tq aA => ?_) (fun tq aA => ?_) <;> try refine nz ?_) | exact zn | ((first | with_reducible intro b | refine xsA rfl ?_ | refine lAd (Aa.le_refl _) (lAd (Ay ?_) ?_); focus ((repeat' first | exact lA0 _ | exact lAh _ | exact lAj _ _ | refine lAf _ ?_ | refine lAo ?_ _ | refine lAb ?_ | refine lAp _ ?_); done) | fail); try refine nz ?_) | exact ⟨⟩ | fail
  all_goals refine ⟨_, Vz aH, Aq4 _, Or.inl ⟨some (b, 0, []), 0, rfl, [], ⟨rfl, rfl, lA5 _, by simp [maxLen]⟩, _, lAe _, by simp only [maxLen]; omega, by omega, fun o2 an _ => ?_⟩⟩
  all_goals simp only [lBg, lAg, lAl] at an ⊢
  all_goals
   repeat' first | (refine zl ?_; try refine nz ?_) | refine zq (fun lq tq aD aA => ?_) | ((with_reducible refine Con.callS (G1 := []) oO ?_) ;  rintro v3 M3 G3 el h3; try refine nz ?_) | (refine ZA (fun tq aA => ?_) (fun tq aA => ?_) <;> try refine nz ?_) | exact zn | refine ZF ?_ | (refine lAd (Aa.le_refl _) (lAd (Ay ?_) ?_); focus ((repeat' first | exact lA0 _ | exact lAh _ | exact lAj _ _ | refine lAf _ ?_ | refine lAo ?_ _ | refine lAb ?_ | refine lAp _ ?_); done); try refine nz ?_) | exact ⟨⟩ | fail
  all_goals
   refine ⟨fun q hq => by (rw [lAk] at hq; rw [hq]; simp), ?_⟩
   obtain ⟨oa3, oc3, ovs3, rfl, q3a, q3b, q3c⟩ := h3
   repeat' first | ((first | refine zo (fun lq aD => ?_) | refine zl ?_ | fail); try refine nz ?_) | refine zq (fun lq tq aD aA => ?_) | ((with_reducible refine JK (iB _ el _) ?_) ;  rintro v4 M4 G4 ⟨rfl, b4, c4, s4, rfl, k4, rfl⟩; try refine nz ?_) | (refine ZB (fun tq aA => ?_) (fun tq aA => ?_) <;> try refine nz ?_) | exact zn | refine zf ?_ | (refine xw ?_; try refine nz ?_) | exact ⟨⟩ | fail
  all_goals
   refine JG [(rb, Cl 37 [Av b1 e.frm.length c1, osv o2 e.dn.length, .slice oa3 e.ord.length oc3, Av b4 e.fen.length c4])] ?_
   generalize hR : M3.add _ = N
   have aB : M3.le N := hR ▸ JB _ _
   have r1 : Sl N 1 ei (Av b1 e.frm.length c1) e.frm := hR ▸ Ln (T := 3) k1 (fun q hq => by simp [osg] at hq; simp [hq])
   have r2 : Sl N 1 eb (osv o2 e.dn.length) e.dn := hR ▸ Ae9 (T := 4) an (fun q hq => by simp [hq])
   have r4 : Sl N 1 ei (Av b4 e.fen.length c4) e.fen := hR ▸ Ln (T := 3) k4 (fun q hq => by simp [osg] at hq; simp [hq])
   exact key _ _ _ ⟨_, Aa.le_trans el aB, ⟨_, _, _, _, rfl, r1, r2, ⟨_, _, ovs3, rfl, q3a, q3b.mono aB, fun j a b => (q3c j a b).mono aB⟩, r4⟩, rfl, rfl⟩
 rintro ρ2 M2 G2 ⟨u, bZ, hu, e1, rfl⟩
 obtain ⟨f2, d2, o2, n2, rfl, q⟩ := hu
 refine JA (ρ' := [(2, pv rb 0)]) ?_ (by simp only [lBp]; exact ⟨e1, fun _ h => nomatch h⟩) (lA0 _)
 (refine rt Q86_ok ?_; try with_reducible exact ⟨⟩)
 exact ⟨_, Ap 0 rfl rfl (by simp), ⟨_, _, _, _, rfl, q⟩⟩
end
section
variable {M : Aa}
theorem Ah6 (k o : Int) : As Tryz.prog 90 #[vi k, vi o] M (vb (Vg k o && Aq3 k o)) := by
 refine Con.enter Q70_ok (args := [vi k, vi o]) (by simp [Q70]) fun w0 => ?_
 simp only [Q70, A9]
 repeat' first | refine st ?_ | refine rg ?_ | with_reducible assumption | (refine JE ?_ (fun hc K' hK => ?_) ?_; rotate_left) | (refine cX ?_ ?_ <;> intro h <;> try exact Ai h) | refine rt Q70_ok ?_ | exact ⟨⟩ | fail
 all_goals (simp only [vb, Value.bool.injEq, Vg, Aq3, Bz]; rw [lEw]; (repeat' split) <;> simp <;> omega)
theorem Qc (o : OpV) : As Tryz.prog 38 #[vop o] M (vb (Br o)) := by
 refine Con.enter Q68_ok (args := [vop o]) (by simp [Q68]) fun w0 => ?_
 simp only [Q68, A9]
 repeat' first | refine st ?_ | refine rg ?_ | with_reducible assumption | (refine JE ?_ (fun hc K' hK => ?_) ?_; rotate_left) | refine rt Q68_ok ?_ | ((first | with_reducible intro b | refine xiA rfl ?_ | fail); try refine nx ?_) | exact ⟨⟩ | fail
 all_goals (simp only [vb, Value.bool.injEq, Br]; grind)
theorem Zd (o : OpV) : As Tryz.prog 37 #[vop o] M (vb (Ng o)) := by
 refine Con.enter Q69_ok (args := [vop o]) (by simp [Q69]) fun w0 => ?_
 simp only [Q69, A9]
 repeat' first | refine st ?_ | refine rg ?_ | (refine As.call (Ah6 _ _) ?_; try refine nx ?_) | with_reducible assumption | (refine JE ?_ (fun hc K' hK => ?_) ?_; rotate_left) | (refine cX ?_ ?_ <;> intro h <;> try exact Ai h) | refine rt Q69_ok ?_ | ((first | with_reducible intro b | refine xiA rfl ?_ | fail); try refine nx ?_) | exact ⟨⟩ | fail
 all_goals (simp only [vb, Value.bool.injEq, Ng, Yo, Qp]; try simp_all; try omega)
 ·intro h1 h2 h3 h4
  exfalso
  simp only [h1, h2, reduceCtorEq, or_self, false_or] at h
  omega
 ·have hk : 0 ≤ o.kind ∧ o.kind < 6 := by
   have h1 : Vg o.kind o.ord = true := by simp_all
   simp only [Vg, lA6, decide_eq_true_eq] at h1
   exact h1.1
  have : (decide (o.kind = 3) || decide (o.kind = 4)) = true := by
   rw [lAq, decide_eq_true_eq, decide_eq_true_eq]; omega
  rw [this]
  simp [Bool.and_assoc]
theorem Wo (o : OpV) : As Tryz.prog 128 #[vop o] M (vi (Jg o.kind o.ord)) := by
 refine Con.enter Q71_ok (args := [vop o]) (by simp [Q71]) fun w0 => ?_
 simp only [Q71, A9]
 repeat' first | refine st ?_ | refine rg ?_ | (refine cX ?_ ?_ <;> intro h <;> try exact Ai h) | refine rt Q71_ok ?_ | ((first | with_reducible intro b | refine xiA rfl ?_ | fail); try refine nx ?_) | exact ⟨⟩ | fail
 all_goals (simp only [Jg, vi, Value.int.injEq, true_and]; grind)
end
section
variable {M : Aa}
theorem EV.loop2 {P : Program} {C : Cx P} {V : List Nat} {k : List RItem} {ρ : Env} {M : Aa} {G : Own} {c : RCode} (h : EV C V (.code c :: .inLoop c :: k) ρ M G) : EV C V (.code (.loop c) :: k) ρ M G :=
 EV.loop (fun _ : Unit => (ρ, M, G)) (fun _ => True) (fun _ => 0) () trivial (fun _ _ _ => h)
theorem wr1 : IntKind.i64.wrap (0 + 1) = 1 := rfl
theorem wr2 : IntKind.i64.wrap (1 + 1) = 2 := rfl
theorem wr3 : IntKind.i64.wrap (2 + 1) = 3 := rfl
def Ar0 (ts : List (List OpV)) (l : List OpV) : Bool := decide (0 < ts.length) && l.all Ng
theorem U1 (ts : List (List OpV)) : A2 ts = if ts.length > 3 ∨ (Bf ts.flatten).acc > 6 ∨ (Bf ts.flatten).fen > 8 then 2 else if (Bf ts.flatten).w0 > 4 ∨ (Bf ts.flatten).w1 > 4 ∨ (Bf ts.flatten).w2 > 4 then 2 else if Ar0 ts ts.flatten = true then 0 else 1 := by
 unfold A2 Gc Ar0
 by_cases h1 : ts.length ≤ 3 <;> by_cases h2 : (Bf ts.flatten).acc ≤ 6 <;> by_cases h3 : (Bf ts.flatten).fen ≤ 8 <;> by_cases h4 : (Bf ts.flatten).w0 ≤ 4 <;> by_cases h5 : (Bf ts.flatten).w1 ≤ 4 <;> by_cases h6 : (Bf ts.flatten).w2 ≤ 4 <;> simp [h1, h2, h3, h4, h5, h6, Int.not_le.symm] <;> grind
def Fd (s : LimS) (o : OpV) : LimS :=
 if o.kind = 5 then { s with fen := IntKind.i64.wrap (s.fen + 1) }
 else if Br o = true then
  {acc := IntKind.i64.wrap (s.acc + 1), fen := if o.ord = 4 then IntKind.i64.wrap (s.fen + 2) else s.fen,
   w0 := if o.kind ≠ 0 ∧ o.loc = 0 then IntKind.i64.wrap (s.w0 + 1) else s.w0, w1 := if o.kind ≠ 0 ∧ o.loc = 1 then IntKind.i64.wrap (s.w1 + 1) else s.w1, w2 := if o.kind ≠ 0 ∧ o.loc = 2 then IntKind.i64.wrap (s.w2 + 1) else s.w2 }
 else s
def Wp (l : List OpV) : LimS := l.foldl Fd ⟨0, 0, 0, 0, 0⟩
theorem Ah7 {l : List OpV} (h : l.length < 1000000000000000000) : Wp l = Bf l := by
 have key : ∀ n, n ≤ l.length → Wp (l.take n) = Bf (l.take n) := by
  intro n
  induction n with
  | zero => intro _; rfl
  | succ n ih =>
   intro hn
   have h1 := ih (by omega)
   have h2 := Tr (l.take n)
   have h3 : (l.take n).length ≤ n := by simp; omega
   rw [lA7 (by omega)]
   simp only [Wp, Bf, lEi, lD1, lF2] at h1 h2 ⊢
   rw [h1]
   generalize (l.take n).foldl Am ⟨0, 0, 0, 0, 0⟩ = s at *
   unfold Fd Am
   rw [w64 (x := s.fen + 1) (by omega) (by omega), w64 (x := s.acc + 1) (by omega) (by omega), w64 (x := s.fen + 2) (by omega) (by omega), w64 (x := s.w0 + 1) (by omega) (by omega), w64 (x := s.w1 + 1) (by omega) (by omega), w64 (x := s.w2 + 1) (by omega) (by omega)]
 have := key l.length (lA5 _)
 rwa [lB1] at this
set_option maxRecDepth 8000 in
theorem Jy (ts : List (List OpV)) (s : Value) (hs : Ee M 5 Bb s ts) (mw : Sized ts) : As Tryz.prog 13 #[.agg #[s]] M (vi (A2 ts)) := by
 obtain ⟨a, c, vs, rfl, hl, aH, hk⟩ := hs
 have fg := mw.len
 refine Con.enter Q66_ok (args := [.agg #[.slice a ts.length c]]) (by simp [Q66]) fun w0 => ?_
 simp only [Q66, A9]
 repeat' first | refine st ?_ | refine rg ?_ | (with_reducible intro b; try refine nx ?_) | refine ZF ?_ | (refine xsA rfl ?_; try refine nx ?_) | exact ⟨⟩ | fail
 rename_i b1
 refine JF ?_ (List.Perm.swap _ _ _)
 refine EV.freeze (G₁ := [_]) ?_
 generalize hN : M.add [(b1, Cl 24 [.slice a ts.length c])] = N
 have aB : M.le N := hN ▸ JB _ _
 have j4 : rd N b1 0 1 [.slice a ts.length c] := hN ▸ Ap 0 rfl rfl (by simp)
 clear hN
 refine JA (ρ' := [(1, pv b1 0), (3, vi (Wp (ts.take 0).flatten).acc), (4, vi (Wp (ts.take 0).flatten).fen), (5, Av b 3 3), (6, vb (Ar0 ts (ts.take 0).flatten)), (7, vi (0 : Nat))])
  (G' := [(b, Cl 3 [vi (Wp (ts.take 0).flatten).w0, vi (Wp (ts.take 0).flatten).w1, vi (Wp (ts.take 0).flatten).w2])]) ?_ ?env0 (lA0 _)
 case env0 =>
  repeat' first | (refine lBp.2 (lAd ?_ ?_)) | (intro _ ba; cases ba; done) | rfl | fail
  simp [get, Ar0]
 refine EV.loop (fun i : Nat => ([(1, pv b1 0), (3, vi (Wp (ts.take i).flatten).acc), (4, vi (Wp (ts.take i).flatten).fen), (5, Av b 3 3), (6, vb (Ar0 ts (ts.take i).flatten)), (7, vi i)], N,
  [(b, Cl 3 [vi (Wp (ts.take i).flatten).w0, vi (Wp (ts.take i).flatten).w1, vi (Wp (ts.take i).flatten).w2])])) (fun i => i ≤ ts.length) (fun i => ts.length - i) 0 (lA8 _) ?_
 intro i hi ih
 dsimp only at ih ⊢
 repeat' first | refine st ?_ | refine rg ?_ | with_reducible assumption | (refine JE ?_ (fun hc K' hK => ?_) ?_; rotate_left) | (refine cX ?_ ?_ <;> intro h <;> try exact Ai h) | (refine xn ?_; try refine nx ?_) | exact ⟨⟩ | fail
 ·have aC : i < ts.length := by omega
  obtain ⟨pb, po, rfl, hat⟩ := Ee.at (aH.mono aB) hl (fun k h h' => (hk k h h').mono aB) (by omega)
  obtain ⟨a', c', aR, aW⟩ := hat i aC
  simp only [lAw] at aR
  have aG := mw.each _ (lAm aC)
  let W : Nat → LimS := fun j => Wp ((ts.take i).flatten ++ ts[i].take j)
  let U : Nat → Bool := fun j => Ar0 ts ((ts.take i).flatten ++ ts[i].take j)
  refine JA (ρ' := [(1, pv b1 0), (3, vi (W 0).acc), (4, vi (W 0).fen), (5, Av b 3 3), (6, vb (U 0)), (7, vi i), (8, vi (0 : Nat))])
   (G' := [(b, Cl 3 [vi (W 0).w0, vi (W 0).w1, vi (W 0).w2])]) ?_ (by simp [get, W, U]) (by simp [W])
  refine EV.loop (fun j : Nat => ([(1, pv b1 0), (3, vi (W j).acc), (4, vi (W j).fen), (5, Av b 3 3), (6, vb (U j)), (7, vi i), (8, vi j)], N,
   [(b, Cl 3 [vi (W j).w0, vi (W j).w1, vi (W j).w2])])) (fun j => j ≤ ts[i].length) (fun j => ts[i].length - j) 0 (lA8 _) ?_
  intro j hj ih2
  dsimp only at ih2 ⊢
  repeat' first | refine st ?_ | refine rg ?_ | (refine cX ?_ ?_ <;> intro h <;> try exact Ai h) | refine ZF ?_ | (refine xn ?_; try refine nx ?_) | exact ⟨⟩ | fail
  ·have aN : j < ts[i].length := by omega
   obtain ⟨qb, qo, rfl, aJ⟩ := Sl.at (enc := Bb) (fun _ => rfl) (by omega) aW (by omega)
   have cw := aJ j aN
   have hW : W (j + 1) = Fd (W j) ts[i][j] := by
    simp only [W, Wp, lA7 aN, ← lAc, lEi, lD1, lF2]
   have hU : U (j + 1) = (U j && Ng ts[i][j]) := by
    simp only [U, Ar0, lA7 aN, ← lAc, lDh, lFn, List.all_nil, lEl, Bool.and_assoc]
   have fin : ∀ ρ G', (∀ p ∈ [(1, pv b1 0), (3, vi (W (j + 1)).acc), (4, vi (W (j + 1)).fen), (5, Av b 3 3), (6, vb (U (j + 1))), (7, vi i), (8, vi (j + 1 : Nat))], get ρ p.1 = some p.2) →
     [(b, Cl 3 [vi (W (j + 1)).w0, vi (W (j + 1)).w1, vi (W (j + 1)).w2])].Sublist G' → _ := fun ρ G' h1 h2 => JA (ρ := ρ) (G := G') (ih2 (j + 1) (by omega) (by omega)) h1 h2
   rw [hW, hU] at fin
   clear_value W U
   have e7 : IntKind.i64.wrap ((j : Int) + 1) = ((j + 1 : Nat) : Int) := w64 (by omega) (by omega)
   clear ih ih2 hat aJ aH hk aG hW hU mw fg hl
   generalize W j = s at *
   generalize U j = u at *
   generalize ts[i][j] = o at *
   clear W U
   have qL : o.kind = 5 → Br o = false := fun h => by simp [Br, h]
   have aP : Br o = true → ((¬0 < o.kind ∨ ¬0 ≤ o.loc) ∨ ¬o.loc < 3) → Fd s o = { s with acc := IntKind.i64.wrap (s.acc + 1), fen := if o.ord = 4 then IntKind.i64.wrap (s.fen + 2) else s.fen } := fun h1 h2 => by
    have h5 : ¬ o.kind = 5 := fun h => by rw [qL h] at h1; cases h1
    have h3 : 0 ≤ o.kind := by simp only [Br, lA6, decide_eq_true_eq] at h1; omega
    have w0' : ¬ (o.kind ≠ 0 ∧ o.loc = 0) := by omega
    have w1' : ¬ (o.kind ≠ 0 ∧ o.loc = 1) := by omega
    have w2' : ¬ (o.kind ≠ 0 ∧ o.loc = 2) := by omega
    simp only [Fd, if_neg h5, if_pos h1, if_neg w0', if_neg w1', if_neg w2']
   repeat' first | refine st ?_ | ((first | refine EV.reg ?_ | refine EV.any _ (lA0 _) ?_ | fail); (conv => (arg 2; whnf)); refine nx ?_) | ((first | refine As.call (Zd _) ?_ | refine As.call (Qc _) ?_ | fail); try refine nx ?_) | with_reducible assumption | (refine JE ?_ (fun hc K' hK => ?_) ?_; rotate_left) | (refine cX ?_ ?_ <;> intro h <;> try exact Ai h) | (with_reducible intro b; try refine nx ?_) | refine ZF ?_ | ((first | refine xm ?_ | refine xrA rfl ?_ | refine xiA rfl ?_ | fail); try refine nx ?_) | (refine xw ?_; refine nx ?_) | exact ⟨⟩ | fail
   all_goals try (exfalso; simp_all; done)
   all_goals try (rw [aP (by assumption) (by assumption)] at fin)
   all_goals try refine fin _ _ ?_ ?_
   all_goals first
    | (simp [get, Fd, *]; done)
    | (simp [get, Fd, *]; grind)
    | skip
   all_goals
    have bY : o.loc = 0 ∨ o.loc = 1 ∨ o.loc = 2 := by omega
    have jy : ¬ o.kind = 0 := by omega
    rcases bY with bY | bY | bY <;> rw [bY] <;> simp only [Int.reduceToNat, Int.toNat_zero, Int.reduceLE, Int.reduceLT, true_and]
   all_goals repeat' first | refine su ?_ | refine rg ?_ | (refine xiA rfl ?_; try refine nx ?_) | (refine xw ?_; refine nx ?_) | exact ⟨⟩ | fail
   all_goals try refine fin _ _ ?_ ?_
   all_goals first
    | (simp [get, Fd, *]; done)
    | (simp [get, Fd, *]; grind)
    | skip
  ·have aN : j = ts[i].length := by omega
   subst aN
   have hf : (ts.take i).flatten ++ ts[i].take ts[i].length = (ts.take (i + 1)).flatten := by rw [D3 aC, lB1]
   refine JA (ih (i + 1) (by omega) (by omega)) ?_ ?_
   ·clear ih ih2
    rw [← hf]
    simp [get, W, U]
    exact w64 (by omega) (by omega)
   ·rw [← hf]
    exact lA0 _
 ·have gX : i = ts.length := by omega
  subst gX
  simp only [lB1] at h
  have hpos : ts.length > 3 ∨ (Bf ts.flatten).acc > 6 ∨ (Bf ts.flatten).fen > 8 := by
   by_cases h3 : ts.length > 3
   ·exact .inl h3
   ·rw [Ah7 (by have := R9 mw.each; omega)] at h
    omega
  rw [U1, if_pos hpos]
  repeat' first | refine rt Q66_ok ?_ | exact ⟨⟩ | fail
 ·have gX : i = ts.length := by omega
  subst gX
  simp only [lB1] at h
  have lR := U1 ts
  have f9 := Ah7 (l := ts.flatten) (by have := R9 mw.each; omega)
  rw [f9] at h
  rw [if_neg (by omega)] at lR
  rw [lR, lB1, f9]
  refine JA (ρ' := [(5, Av b 3 3), (6, vb (Ar0 ts ts.flatten)), (10, vi (0 : Nat))]) (G' := [(b, Cl 3 [vi (Bf ts.flatten).w0, vi (Bf ts.flatten).w1, vi (Bf ts.flatten).w2])]) ?_ ?env2 (lA0 _)
  case env2 =>
   exact eE
  generalize Bf ts.flatten = s at *
  refine EV.loop2 ?_
  repeat' first | refine st ?_ | (refine EV.reg ?_; (conv => (arg 2; whnf)); (repeat first | refine nx ?_ | simp only [wr1, wr2, wr3])) | (refine cX ?_ ?_ <;> intro h <;> try exact Ai h) | refine ZF ?_ | (refine xiA rfl ?_; (repeat first | refine nx ?_ | simp only [wr1, wr2, wr3])) | fail
  ·rw [if_pos (by omega)]
   repeat' first | (refine EV.ret Q66_ok ?_; (repeat first | refine nx ?_ | simp only [wr1, wr2, wr3, Q66])) | fail
  refine EV.inLoop ?_
  repeat' first | refine st ?_ | (refine EV.reg ?_; (conv => (arg 2; whnf)); (repeat first | refine nx ?_ | simp only [wr1, wr2, wr3])) | (refine cX ?_ ?_ <;> intro h <;> try exact Ai h) | refine ZF ?_ | (refine xiA rfl ?_; (repeat first | refine nx ?_ | simp only [wr1, wr2, wr3])) | fail
  ·rw [if_pos (by omega)]
   repeat' first | (refine EV.ret Q66_ok ?_; (repeat first | refine nx ?_ | simp only [wr1, wr2, wr3, Q66])) | fail
  refine EV.inLoop ?_
  repeat' first | refine st ?_ | (refine EV.reg ?_; (conv => (arg 2; whnf)); (repeat first | refine nx ?_ | simp only [wr1, wr2, wr3])) | (refine cX ?_ ?_ <;> intro h <;> try exact Ai h) | refine ZF ?_ | (refine xiA rfl ?_; (repeat first | refine nx ?_ | simp only [wr1, wr2, wr3])) | fail
  ·rw [if_pos (by omega)]
   repeat' first | (refine EV.ret Q66_ok ?_; (repeat first | refine nx ?_ | simp only [wr1, wr2, wr3, Q66])) | fail
  refine EV.inLoop ?_
  rw [if_neg (by omega)]
  repeat' first | refine st ?_ | (refine EV.reg ?_; (conv => (arg 2; whnf)); (repeat first | refine nx ?_ | simp only [wr1, wr2, wr3])) | (refine cX ?_ ?_ <;> intro h <;> try exact Ai h) | (refine EV.ret Q66_ok ?_; (repeat first | refine nx ?_ | simp only [wr1, wr2, wr3, Q66])) | fail
  all_goals simp_all
end
theorem Ah8 {l : List OpV} {j : Nat} (hj : j < l.length) : Eb (l.take (j + 1)) = Eb (l.take j) ++ Cq l[j] := by
 rw [lA7 hj]; simp only [Eb, lAy, lC4, lDt, lAa]
theorem X4 (l : List OpV) : (Eb l).length ≤ 3 * l.length := by
 induction l with
 | nil => simp [Eb]
 | cons o l ih => have := Kf o; simp only [Eb, lC4, lA4, lB5] at ih ⊢; omega
section
variable {M : Aa}
set_option maxRecDepth 8000 in
theorem U2 (ts : List (List OpV)) (s : Value) (hs : Ee M 5 Bb s ts) (hb : ts.flatten.length < 1000000) (lg : ts.length < 1000000) :
  Con Tryz.prog 91 #[.agg #[s]] M [] fun v M' _ => (A2 ts ≠ 0 ∧ v = .tuple #[.agg #[.slice none 0 0], vi (A2 ts)]) ∨ (A2 ts = 0 ∧ ∃ s', v = .tuple #[.agg #[s'], vi 0] ∧ Ee M' 5 Bb s' (ts.map Eb)) := by
 have aK := hs
 have tz : Sized ts := ⟨by omega, fun t ht => by
  have : t.length ≤ ts.flatten.length := List.Sublist.length_le (List.sublist_flatten_of_mem ht)
  omega⟩
 obtain ⟨a, c, vs, rfl, hl, aH, hk⟩ := hs
 refine Con.enter Q67_ok (args := [.agg #[.slice a ts.length c]]) (by simp [Q67]) fun w0 => ?_
 simp only [Q67, A9]
 repeat' first | refine st ?_ | refine rg ?_ | (refine As.call (Jy _ _ (aK.mono (JB _ _)) tz) ?_; try refine nx ?_) | (refine cX ?_ ?_ <;> intro h <;> try exact Ai h) | ((first | with_reducible intro b | refine xrA rfl ?_ | fail); try refine nx ?_) | (refine xw ?_; refine nx ?_) | exact ⟨⟩ | fail
 ·repeat' first | refine rt Q67_ok ?_ | (refine xrA rfl ?_; try refine nx ?_) | exact ⟨⟩ | fail
  exact .inl h
 ·have aM := h
  repeat' first | fail
  rename_i b1 b2 b5
  obtain ⟨_, _, hall⟩ := Dd aM
  refine JF ?_ (B4 [[_], [_], [_], [_]] 3 (by simp))
  simp only [lB7, lB9, lAs, lAt, lCj, lBz, C7, C6, C5, lAg, lAl, lAc, lAa]
  refine EV.freeze (G₁ := [_, _]) ?_
  generalize hN : M.add [(b1, Cl 24 [.slice a ts.length c]), (b, Cl 83 [.int .i64 5, .int .i64 0, .int .i64 0, .int .i64 0, .int .i64 4])] = N
  have aB : M.le N := hN ▸ JB _ _
  have j4 : rd N b1 0 1 [.slice a ts.length c] := hN ▸ Ap 0 rfl rfl (by simp)
  have sL : rd N b 0 5 (Bb Hy) := hN ▸ Ap 1 rfl rfl (by simp)
  clear hN
  replace aH := aH.mono aB
  replace hk := fun k h h' => (hk k h h').mono aB
  clear aK
  refine JA (ρ' := [(1, pv b1 0), (2, pv b2 0), (5, pv b5 0), (6, pv b 0), (7, vi (0 : Nat))])
   (G' := [(b5, Cl 24 [osv none 0]), (b2, Cl 24 [.slice none 0 0])] ++ osg 70 none []) ?_ ?env0 eS
  case env0 =>
   exact eE
  refine EV.loop (fun x : Nat × Aa × Vec × List Value => ([(1, pv b1 0), (2, pv b2 0), (5, pv b5 0), (6, pv b 0), (7, vi x.1)], x.2.1,
    [(b5, Cl 24 [osv x.2.2.1 x.1]), (b2, Cl 24 [.slice none 0 0])] ++ osg 70 x.2.2.1 x.2.2.2))
   (fun x => x.1 ≤ ts.length ∧ N.le x.2.1 ∧ Eo 1 x.2.2.1 x.1 x.2.2.2 ∧ x.2.2.2.length = x.1 ∧ ∀ k (h : k < x.2.2.2.length) (h' : k < ts.length), Sl x.2.1 5 Bb x.2.2.2[k] (Eb ts[k]))
   (fun x => ts.length - x.1) (0, N, none, []) ⟨lA8 _, Aa.le_refl _, ⟨rfl, rfl⟩, rfl, fun k h => absurd h (by simp)⟩ ?_
  rintro ⟨i, Mi, oq, vs'⟩ ⟨hi, ci, iG, bu, jz⟩ ih
  dsimp only at hi ci iG bu jz ih ⊢
  replace j4 := j4.mono ci
  replace sL := sL.mono ci
  repeat' first | refine st ?_ | refine rg ?_ | (refine cX ?_ ?_ <;> intro h <;> try exact Ai h) | ((first | refine xn ?_ | refine xrA rfl ?_ | fail); try refine nx ?_) | (refine xw ?_; refine nx ?_) | exact ⟨⟩ | fail
  ·have aC : i < ts.length := by omega
   obtain ⟨pb, po, rfl, hat⟩ := Ee.at (aH.mono ci) hl (fun k h h' => (hk k h h').mono ci) (by omega)
   obtain ⟨a', c', aR, aW⟩ := hat i aC
   simp only [lAw] at aR
   have aG : ts[i].length ≤ ts.flatten.length := by have := D3 aC; have h2 := Cp ts (i + 1); rw [this, lA4] at h2; omega
   have aI : ∀ o ∈ ts[i], o ∈ ts.flatten := fun o ho => lE9.2 ⟨ts[i], lAm aC, ho⟩
   refine JA (ρ' := [(1, pv b1 0), (2, pv b2 0), (5, pv b5 0), (6, pv b 0), (7, vi i), (8, osv none (Eb (ts[i].take 0)).length), (9, vi (0 : Nat))])
    (G' := [(b5, Cl 24 [osv oq i]), (b2, Cl 24 [.slice none 0 0])] ++ (osg 70 oq vs' ++ osg 83 none ((Eb (ts[i].take 0)).flatMap Bb))) ?_ ?env1 (by simp only [osg, lAa]; exact lA0 _)
   case env1 =>
    exact eE
   refine EV.loop (fun x : Nat × Vec => ([(1, pv b1 0), (2, pv b2 0), (5, pv b5 0), (6, pv b 0), (7, vi i), (8, osv x.2 (Eb (ts[i].take x.1)).length), (9, vi x.1)], Mi,
     [(b5, Cl 24 [osv oq i]), (b2, Cl 24 [.slice none 0 0])] ++ (osg 70 oq vs' ++ osg 83 x.2 ((Eb (ts[i].take x.1)).flatMap Bb))))
    (fun x => x.1 ≤ ts[i].length ∧ Eo 5 x.2 (Eb (ts[i].take x.1)).length ((Eb (ts[i].take x.1)).flatMap Bb))
    (fun x => ts[i].length - x.1) (0, none) ⟨lA8 _, rfl, rfl⟩ ?_
   rintro ⟨j, ov⟩ ⟨hj, aL⟩ ih2
   dsimp only at hj aL ih2 ⊢
   repeat' first | refine st ?_ | refine rg ?_ | (refine cX ?_ ?_ <;> intro h <;> try exact Ai h) | (with_reducible intro b; try refine nx ?_) | refine ZF ?_ | ((first | refine xn ?_ | refine xsA rfl ?_ | fail); try refine nx ?_) | exact ⟨⟩ | fail
   ·have aN : j < ts[i].length := by omega
    obtain ⟨qb, qo, rfl, aJ⟩ := Sl.at (enc := Bb) (fun _ => rfl) (by omega) aW (by omega)
    have cw := aJ j aN
    have ae := lB0.1 hall _ (aI _ (lAm aN))
    have e8 := X4 (ts[i].take j)
    have lh : (ts[i].take j).length ≤ j := by simp; omega
    have e := Ah8 aN
    repeat' first | refine st ?_ | refine rg ?_ | with_reducible assumption | (refine JE ?_ (fun hc K' hK => ?_) ?_; rotate_left) | (refine cX ?_ ?_ <;> intro h <;> try exact Ai h) | (with_reducible intro b; try refine nx ?_) | refine ZF ?_ | ((first | refine xm ?_ | refine xrA rfl ?_ | refine xiA rfl ?_ | fail); try refine nx ?_) | (refine xw ?_; refine nx ?_) | exact ⟨⟩ | fail
    ·refine ⟨_, Or.inr ⟨_, 0, rfl, Ap 0 rfl rfl (by simp)⟩, by simp [Bp, Cb, Value.oneCell'], Or.inl ⟨_, _, rfl, _, aL, _, B4 [[_, _, _, _], osg 70 oq vs', osg 83 ov _] 2 (by simp), ?_, ?_, ?_⟩⟩
     ·simp only [maxLen]; omega
     ·omega
     intro o' bD _
     simp only [lB7, lB9, lAs, lAt, C7, C6, C5, lAg, lAl, lAc, lAa]
     repeat' first | refine su ?_ | refine rg ?_ | exact ⟨⟩ | fail
     have he : Cq ts[i][j] = [ts[i][j]] := by
      rw [Cq, if_pos]
      rcases h with h | h
      ·left; simp [Br, h]
      ·exact .inr h
     have ih3 := ih2 (j + 1, o') ⟨by dsimp only; omega, by rw [e, he]; simpa using bD⟩ (by dsimp only; omega)
     simp only [e, he, lA4, lAy] at ih3
     refine JA ih3 ?_ eS
     exact eE
    ·have he : Cq ts[i][j] = [Hy, { ts[i][j] with ord := Jg ts[i][j].kind ts[i][j].ord }, Hy] := by
      rw [Cq, if_neg]
      have h5 := ((E9 _).1 ae).1
      simp only [Vg, lA6, decide_eq_true_eq] at h5
      have : Br ts[i][j] = true := by simp only [Br, lA6, decide_eq_true_eq]; omega
      rw [this]; simp [h.2]
     repeat' first | refine rg ?_ | ((first | refine As.call (Wo _) ?_ | with_reducible intro b | refine xm ?_ | refine xrA rfl ?_ | fail); try refine nx ?_) | (refine xw ?_; refine nx ?_) | exact ⟨⟩ | fail
     refine ⟨_, Or.inr ⟨_, 0, rfl, Ap 0 rfl rfl (by simp)⟩, by simp [Bp, Cb, Value.oneCell'], Or.inl ⟨_, _, rfl, _, aL, _, B4 [[_, _, _, _], osg 70 oq vs', osg 83 ov _] 2 (by simp), ?_, ?_, ?_⟩⟩
     ·simp only [maxLen]; omega
     ·omega
     intro o' bD _
     simp only [lB7, lB9, lAs, lAt, C7, C6, C5, lAg, lAl, lAc, lAa]
     repeat' first | refine su ?_ | refine rg ?_ | exact ⟨⟩ | fail
     have ih3 := ih2 (j + 1, o') ⟨by dsimp only; omega, by rw [e, he]; simpa using bD⟩ (by dsimp only; omega)
     simp only [e, he, lA4, lAy] at ih3
     refine JA ih3 ?_ eS
     exact eE
   ·have aN : j = ts[i].length := by omega
    subst aN
    have e8 := X4 ts[i]
    rw [lB1] at aL ⊢
    repeat' first | fail
    refine ⟨_, Or.inr ⟨_, 0, rfl, Ap 0 rfl rfl (by simp)⟩, by simp [Bp, Cb, Value.oneCell'], Or.inl ⟨_, _, rfl, _, iG, _, B4 [[_, _, _], osg 70 oq vs', osg 83 ov _] 1 (by simp), ?_, ?_, ?_⟩⟩
    ·simp only [maxLen]; omega
    ·omega
    intro o' bD _
    simp only [lB7, lB9, lAs, lAt, C7, C6, C5, lAg, lAl, lAc, lAa]
    repeat' first | refine su ?_ | refine rg ?_ | (refine xw ?_; refine nx ?_) | exact ⟨⟩ | fail
    refine JF ?_ (B4 [[_, _, _], osg 83 ov _, osg 70 o' _] 1 (by simp))
    simp only [lB7, lB9, lAs, lAt, lCj, lBz, C7, C6, C5, lAg, lAl, lAc, lAa]
    refine EV.freeze ?_
    have ih3 := ih (i + 1, Mi.add (osg 83 ov ((Eb ts[i]).flatMap Bb)), o', vs' ++ [osv ov (Eb ts[i]).length]) ⟨by dsimp only; omega, Aa.le_trans ci (JB _ _), bD, by simp [bu], ?_⟩ (by dsimp only; omega)
    dsimp only at ih3
    refine JA ih3 ?_ eS
    ·exact eE
    ·intro k bs bh
     dsimp only at bs bh ⊢
     by_cases gE : k < vs'.length
     ·rw [lCq gE]
      exact (jz k gE bh).mono (JB _ _)
     ·have : k = i := by simp at bs; omega
      subst this
      rw [lCm (by omega)]
      simp only [bu, lF5, lAt]
      exact ⟨_, _, rfl, Ew aL (fun p hp => hp)⟩
  ·have bT : i = ts.length := by omega
   subst bT
   repeat' first | fail
   refine JF ?_ (B4 [[_, _], osg 70 oq vs'] 1 (by simp))
   simp only [lB7, lB9, lAs, lAt, lCj, lBz, C7, C6, C5, lAg, lAl, lAc, lAa]
   refine EV.freeze ?_
   (refine rt Q67_ok ?_; try with_reducible exact ⟨⟩)
   refine ⟨_, Ap 1 rfl rfl (by simp), .inr ⟨aM, _, rfl, oad oq, Qj oq, vs', by simp, by simpa using bu, ?_, ?_⟩⟩
   ·simpa using Ew iG (fun p hp => hp)
   ·intro k h1 h2
    simp only [lDm]
    exact (jz k h1 (by simpa using h2)).mono (JB _ _)
end
def LimS.wk (s : LimS) (k : Int) : Int := if k = 0 then s.w0 else if k = 1 then s.w1 else s.w2
theorem S8 {p : List Ev} {e : Exec} (bC : e.ord.length = 3) : ∃ r a b c, Ar p e = r ++ [a, b, c] ∧ r = A8 p (Aw p e.frm) p.length ∧ a = Bm (Aw p e.frm) (e.ord[0]?.getD []) ∧ b = Bm (Aw p e.frm) (e.ord[1]?.getD []) ∧ c = Bm (Aw p e.frm) (e.ord[2]?.getD []) := by
 rcases ho : e.ord with _ | ⟨a, _ | ⟨b, _ | ⟨c, _ | ⟨d, l⟩⟩⟩⟩ <;> rw [ho] at bC <;> simp at bC
 exact ⟨_, _, _, _, by rw [Ar, ho]; rfl, rfl, rfl, rfl, rfl⟩
theorem X5 {p : List Ev} {l : List (List Int)} (h : Z4 p l) {x : List Int} : x ∈ l ↔ T9 p x := by
 rw [h.2 x, lAi]; rfl
theorem Z4.nodup {p : List Ev} {l : List (List Int)} (h : Z4 p l) : l.Nodup := by
 rw [lBt]
 exact h.1.imp fun {a b} h e => by rw [e, Cu] at h; omega
theorem Ah9 {p : List Ev} (hp : POk p) {x : List Int} (h : T9 p x) : ∃ r a b c, x = r ++ [a, b, c] ∧ r.length ≤ p.length := by
 obtain ⟨e, he, rfl⟩ := h
 obtain ⟨r, a, b, c, h1, h2, _⟩ := S8 (p := p) (e := e) (execsP_ok hp he).ol
 exact ⟨r, a, b, c, h1, by rw [h2]; exact Cf _ _ _⟩
def fct : Nat → Nat
 | 0 => 1
 | n + 1 => (n + 1) * fct n
theorem An3 (n : Nat) : fct n ≤ fct (n + 1) := by
 show fct n ≤ (n + 1) * fct n
 exact Nat.le_mul_of_pos_left _ (Nat.succ_pos _)
theorem X6 {a b : Nat} (h : a ≤ b) : fct a ≤ fct b := by
 induction h with
 | refl => exact lA5 _
 | step _ ih => exact lBk ih (An3 _)
theorem Lt (p : List Ev) : ∀ (n : Nat) (l : List Int), (Bw p n l).length ≤ fct n
 | 0, _ => by simp [Bw, fct]
 | n + 1, l => by
  have h := C1 (l := List.range (n + 1)) (f := fun i => if D8 p l i then [] else (Bw p n (l.eraseIdx i)).map (Ae l i :: ·)) (c := fct n) (fun i _ => by
   split
   ·exact lA8 _
   ·rw [lA1]; exact Lt p n _)
  rw [lE1] at h
  exact h
theorem Rx {p : List Ev} {dn : List Bool} (h : ∀ k : Int, (A7 p dn k).length ≤ 4) : ∀ (k : Nat) (loc : Int), (Bs p dn k loc).length ≤ 24 ^ k
 | 0, _ => by simp [Bs]
 | k + 1, loc => by
  have h1 := C1 (l := Cn p (A7 p dn loc)) (f := fun l => (Bs p dn k (loc + 1)).map (l :: ·)) (c := 24 ^ k) (fun l _ => by rw [lA1]; exact Rx h k _)
  have h2 : (Cn p (A7 p dn loc)).length ≤ 24 := lBk (Lt p _ _) (X6 (h loc))
  refine lBk h1 ?_
  rw [Nat.pow_succ, Nat.mul_comm (24 ^ k) 24]
  exact lBu _ h2
def U3 (p : List Ev) : Nat → Nat → Nat
 | 0, _ => 0
 | k + 1, i => (if (evAt p i).reads then 1 else 0) + U3 p k (i + 1)
theorem U4 {p : List Ev} {dn : List Bool} {ord : List (List Int)} (h : ∀ i, (Bd p dn ord i).length ≤ if (evAt p i).reads then 5 else 1) : ∀ (k i : Nat), (B9 p dn ord k i).length ≤ 5 ^ U3 p k i
 | 0, _ => by simp [B9, U3]
 | k + 1, i => by
  have h1 := C1 (l := Bd p dn ord i) (f := fun w => (B9 p dn ord k (i + 1)).map (w :: ·)) (c := 5 ^ U3 p k (i + 1)) (fun l _ => by rw [lA1]; exact U4 h k _)
  refine lBk h1 (lBk (lBu _ (h i)) ?_)
  rw [U3, Nat.pow_add]
  refine lBu _ ?_
  split <;> decide
theorem X7 (p : List Ev) : ∀ (k i : Nat), U3 p k i = ((List.range' i k).filter fun j => (evAt p j).reads).length
 | 0, i => rfl
 | k + 1, i => by
  rw [U3, X7 p k (i + 1), List.range'_succ, lCw]
  split <;> simp <;> omega
theorem tot : ∀ a : Fin 7, 2 ^ a.1 * (24 ^ 3 * (5 ^ a.1 * fct (14 - a.1))) < 2 ^ 60 := by decide
theorem Ck {ts : List (List OpV)} (h : A2 ts = 0) : (Ad ts).length ≤ 14 := by
 obtain ⟨hl, hn, hall⟩ := Dd h
 have bA : (ts.map Eb).flatten = Eb ts.flatten := by simp [Eb, List.flatMap_def, List.map_flatten, lFd, lE2]; rfl
 have h1 := (Xs ts.flatten (lB0.1 hall)).1
 simp only [Gc, lA6, decide_eq_true_eq] at hl
 have : (Ad ts).length = (Eb ts.flatten).length := by rw [Ad, H9, bA]
 omega
theorem Ry {α : Type} {f g : α → Bool} (hd : ∀ x, f x = true → g x = false) : ∀ l : List α, (l.filter f).length + (l.filter g).length ≤ l.length
 | [] => by simp
 | x :: l => by
  have ih := Ry hd l
  have h := hd x
  simp only [lCw, lB5]
  cases hf : f x with
  | true => rw [h hf]; simp; omega
  | false => cases g x <;> simp <;> omega
theorem S9 {p : List Ev} {f : Nat → Bool} {g : Ev → Bool} (h : ∀ i, i < p.length → f i = true → g (evAt p i) = true) : (Cr p.length f).length ≤ (p.filter g).length := by
 rw [Cr, lA1, ← Fx p g]
 refine (List.Sublist.length_le ?_)
 have : (List.range p.length).filter f = ((List.range p.length).filter fun i => g (evAt p i)).filter f := by
  rw [lFk]
  refine List.filter_congr fun i hi => ?_
  have := h i (lAn.1 hi)
  cases hf : f i with
  | false => simp
  | true => rw [this hf]; rfl
 rw [this]
 exact List.filter_sublist
theorem X8 {ts : List (List OpV)} (hc : A2 ts = 0) : (Ca (Ad ts)).length < 2 ^ 60 := by
 have hf := Sr hc
 have hl := Ck hc
 generalize Ad ts = p at *
 obtain ⟨a, ha⟩ : ∃ a, a = (p.filter fun e => decide (e.op.kind ≠ 5)).length := ⟨_, rfl⟩
 have ux : a ≤ 6 := ha ▸ hf.acc
 have my : (Bn p).length ≤ a := by
  rw [ha]
  refine S9 fun i _ h => ?_
  simp only [lAq, decide_eq_true_eq] at h ⊢; omega
 have kt : U3 p p.length 0 ≤ a := by
  rw [ha, X7, ← lFb, Fx p Ev.reads]
  have : p.filter Ev.reads = (p.filter fun e => decide (e.op.kind ≠ 5)).filter Ev.reads := by
   rw [lFk]
   congr 1
   funext e
   simp only [Ev.reads]
   cases decide (e.op.kind ≠ 1) <;> cases decide (e.op.kind ≠ 5) <;> rfl
  rw [this]; exact lDw _ _
 have cB : (Ba p).length ≤ 14 - a := by
  have h1 : (Ba p).length ≤ (p.filter Ev.strong).length := S9 fun i _ h => h
  have h2 := Ry (f := fun e : Ev => decide (e.op.kind ≠ 5)) (g := Ev.strong) (fun x hx => by
   simp only [decide_eq_true_eq] at hx
   simp [Ev.strong, hx]) p
  omega
 have hF : ∀ dn ord frm, (Fm p dn ord frm).length ≤ fct (14 - a) := by
  intro dn ord frm
  unfold Fm
  split
  ·refine lBk (lDw _ _) ?_
   rw [lA1]
   exact lBk (Lt p _ _) (X6 cB)
  ·exact lA8 _
 have hO : ∀ dn, dn ∈ Gu p → (Jh p dn).length ≤ 24 ^ 3 * (5 ^ a * fct (14 - a)) := by
  intro dn hdn
  have hd := (Lm.1 hdn).2
  have hw : ∀ k : Int, (A7 p dn k).length ≤ 4 := fun k => lBk (S9 (g := fun e => isW k e.op) fun i hi h => by
   simp only [lA6, decide_eq_true_eq] at h
   have := hd i hi
   simp only [isW, lA6, decide_eq_true_eq]
   exact ⟨this.2 h.1.2, h.2⟩) (hf.w k)
  refine lBk (C1 (c := 5 ^ a * fct (14 - a)) fun ord ho => ?_) (lBu _ (Rx hw 3 0))
  refine lBk (C1 (c := fct (14 - a)) fun frm _ => hF dn ord frm) (lBu _ ?_)
  refine lBk (U4 (fun i => ?_) _ _) (lCf (by decide) kt)
  unfold Bd
  cases hr : (evAt p i).reads with
  | false => simp
  | true =>
   simp only [Bool.true_eq_false, if_false, if_true]
   split
   ·simp
   ·rw [H4, lB5]
    have : (ord[(evAt p i).op.loc.toNat]?.getD []).length ≤ 4 := by
     by_cases hk : (evAt p i).op.loc.toNat < ord.length
     ·rw [lA2 hk, lAr, (Jq 3 0 ord ho _ hk).length_eq]; exact hw _
     ·rw [lCy (by omega)]; exact lA8 _
    omega
 have h1 : (Ca p).length ≤ (Gu p).length * (24 ^ 3 * (5 ^ a * fct (14 - a))) := C1 hO
 have h2 : (Gu p).length ≤ 2 ^ a := by
  rw [Gu, lA1, lE1]
  exact lCf (by decide) my
 exact lEd (lBk h1 (lBu _ h2)) (tot ⟨a, by omega⟩)
section
variable {M : Aa}
theorem Mt (ts : List (List OpV)) (s : Value) (hs : Ee M 5 Bb s ts) (aM : A2 ts = 0) :
  Con Tryz.prog 39 #[.agg #[s]] M [] fun v M' _ => Sl M' 6 Hf v (Ad ts) := by
 have aK := hs
 obtain ⟨a, c, vs, rfl, hl, aH, hk⟩ := hs
 have i6 := H7 aM
 have cZ := Ck aM
 refine Con.enter Q73_ok (args := [.agg #[.slice a ts.length c]]) (by simp [Q73]) fun w0 => ?_
 simp only [Q73, A9]
 repeat' first | refine st ?_ | refine rg ?_ | ((first | with_reducible intro b | refine xrA rfl ?_ | fail); try refine nx ?_) | exact ⟨⟩ | fail
 refine Con.callS (G1 := []) (U2 ts _ aK (by omega) (by omega)) ?_
 rintro v M1 G1 bw (⟨hne, rfl⟩ | ⟨_, s', rfl, bm⟩)
 ·exact absurd aM hne
 have iH := bm
 obtain ⟨a1, c1, vs1, rfl, fG, eh, bs⟩ := iH
 (refine nx ?_; try with_reducible exact ⟨⟩)
 repeat' first | refine st ?_ | refine rg ?_ | (with_reducible intro b; try refine nx ?_) | (refine xw ?_; refine nx ?_) | exact ⟨⟩ | fail
 refine JG [] ?_
 generalize hR : M1.add _ = N
 have aB : M1.le N := hR ▸ JB _ _
 have uA : rd N b 0 1 [.slice a1 (ts.map Eb).length c1] := hR ▸ Ap 0 rfl rfl (by simp)
 clear hR
 have sj : (ts.map Eb).flatten.length ≤ 14 := by rw [← H9 _ 0]; exact cZ
 have fA : Ad ts = Cz 0 (ts.map Eb) := rfl
 rw [fA]
 have sn : (ts.map Eb).length = ts.length := by simp
 have cl := eh.mono aB
 have bh : ∀ i (h : i < vs1.length) (h' : i < (ts.map Eb).length), Sl N 5 Bb vs1[i] (ts.map Eb)[i] := fun i h h' => (bs i h h').mono aB
 generalize ts.map Eb = q at *
 clear bm eh bs aK aH hk
 refine JC (fun x : Nat × Vec => ([(3, pv b 0), (5, osv x.2 (Cz 0 (q.take x.1)).length), (6, vi x.1)], N, osg 103 x.2 ((Cz 0 (q.take x.1)).flatMap Hf)))
  (fun x => x.1 ≤ q.length ∧ Eo 6 x.2 (Cz 0 (q.take x.1)).length ((Cz 0 (q.take x.1)).flatMap Hf)) (fun x => q.length - x.1) (0, none) rfl ⟨lA8 _, rfl, rfl⟩ ?env1 (lAh _) ?_
 case env1 =>
  exact eE
 rintro ⟨i, ov⟩ ⟨hi, aL⟩ ih
 dsimp only at hi aL ih ⊢
 refine EV.seq ?_
 refine EV.seq ?_
 repeat' first | refine su ?_ | refine rg ?_ | (refine cX ?_ ?_ <;> intro h <;> try exact Ai h) | (refine xn ?_; try refine nx ?_) | exact ⟨⟩ | fail
 ·have aC : i < q.length := by omega
  obtain ⟨pb, po, rfl, hat⟩ := Ee.at cl fG bh (by omega)
  obtain ⟨a', c', aR, aW⟩ := hat i aC
  simp only [lAw] at aR
  have aG : ∀ j, (Di q i j).length ≤ q.flatten.length := fun j => Lb aC j
  have dh : q[i].length ≤ q.flatten.length := Ob aC
  repeat' first | refine st ?_ | refine rg ?_ | exact ⟨⟩ | fail
  refine JC (fun x : Nat × Vec => ([(3, pv b 0), (5, osv x.2 (Di q i x.1).length), (6, vi i), (7, vi x.1)], N,
    osg 103 x.2 ((Di q i x.1).flatMap Hf)))
   (fun x => x.1 ≤ q[i].length ∧ Eo 6 x.2 (Di q i x.1).length ((Di q i x.1).flatMap Hf))
   (fun x => q[i].length - x.1) (0, ov) rfl ⟨lA8 _, by rw [Eg]; exact aL⟩ ?env2 (by rw [Eg]; exact lA0 _) ?_
  case env2 =>
   repeat' first | (refine lBp.2 (lAd ?_ ?_)) | (intro _ ba; cases ba; done) | rfl | (simp (disch := omega) only [Al, Au, reduceIte, Nat.reduceEqDiff, Option.some.injEq, Value.int.injEq, w64, lD2, lDg, lBd, lD6, Eg]; done) | fail
  rintro ⟨j, o1⟩ ⟨hj, bQ⟩ ih2
  dsimp only at hj bQ ih2 ⊢
  refine EV.seq ?_
  refine EV.seq ?_
  repeat' first | refine su ?_ | refine rg ?_ | (refine cX ?_ ?_ <;> intro h <;> try exact Ai h) | refine ZF ?_ | (refine xn ?_; try refine nx ?_) | exact ⟨⟩ | fail
  ·have aN : j < q[i].length := by omega
   have o7 := aG j
   obtain ⟨qb, qo, rfl, aJ⟩ := Sl.at (enc := Bb) (fun _ => rfl) (by omega) aW (by omega)
   have cw := aJ j aN
   repeat' first | refine st ?_ | refine rg ?_ | (with_reducible intro b; try refine nx ?_) | refine ZF ?_ | ((first | refine xm ?_ | refine xn ?_ | fail); try refine nx ?_) | exact ⟨⟩ | fail
   refine ⟨Hf ⟨q[i][j], i⟩, Or.inr ⟨_, 0, rfl, Ap 0 rfl rfl (by simp)⟩, by simp [Bp, Cb, Value.oneCell'], Or.inl ⟨o1, _, rfl, _, bQ, _, B4 [[_], osg 103 o1 _] 1 (by simp), ?_, ?_, ?_⟩⟩
   ·simp only [maxLen]; omega
   ·omega
   intro o2 an _
   simp only [lB7, lB9, lAs, lAt, lCj, lBz, C7, C6, C5, lAg, lAl, lAc, lAa]
   repeat' first | refine su ?_ | refine rg ?_ | exact ⟨⟩ | fail
   have e := Oa aC aN
   have ih3 := ih2 (j + 1, o2) ⟨by dsimp only; omega, by rw [e, lA4, lAy]; exact an⟩ (by dsimp only; omega)
   dsimp only at ih3
   rw [e, lA4, lAy] at ih3
   refine JA ih3 ?_ eS
   exact eE
  ·have aN : j = q[i].length := by omega
   subst aN
   rw [La aC] at bQ ⊢
   repeat' first | fail
   refine JA (ih (i + 1, o1) ⟨by dsimp only; omega, bQ⟩ (by dsimp only; omega)) ?_ eS
   exact eE
 ·have bT : i = q.length := by omega
  subst bT
  rw [lB1] at aL ⊢
  repeat' first | refine st ?_ | refine rg ?_ | exact ⟨⟩ | fail
  rw [← lAa (osg _ _ _)]
  refine EV.freeze ?_
  (refine rt Q73_ok ?_; try with_reducible exact ⟨⟩)
  exact ⟨_, _, rfl, Ew aL (fun p hp => hp)⟩
end
section
variable {M : Aa}
theorem Lu (p : List Ev) (s : Value) (hs : Sl M 6 Hf s p) (hp : p.length ≤ 16) (e : Exec) (v : Value) (hv : IsX M v e) (bA : e.frm.length = p.length) (bj : ∀ i, i < p.length → Af e i < p.length) : Con Tryz.prog 50 #[s, v] M [] fun u _ _ => u = E0 (Hr p e) := by
 obtain ⟨pa, pc, rfl, aw⟩ := hs
 obtain ⟨f, d, o, n, rfl, ⟨fa, fc, rfl, cK⟩, ⟨da, dc, rfl, _⟩, ⟨oa, oc, ovs, rfl, _, _, _⟩, ⟨na, nc, rfl, _⟩⟩ := hv
 refine Con.enter Q88_ok (args := [.slice pa p.length pc, .agg #[.slice fa e.frm.length fc, .slice da e.dn.length dc, .slice oa e.ord.length oc, .slice na e.fen.length nc]]) (by simp [Q88]) fun w0 => ?_
 simp only [Q88, A9]
 repeat' first | refine st ?_ | refine rg ?_ | (with_reducible intro b; try refine nx ?_) | exact ⟨⟩ | fail
 obtain ⟨b3, rfl⟩ : ∃ x, x = b := ⟨_, rfl⟩
 obtain ⟨b2, rfl⟩ : ∃ x, x = b := ⟨_, rfl⟩
 obtain ⟨xb, rfl⟩ : ∃ x, x = b := ⟨_, rfl⟩
 obtain ⟨zs, hzs⟩ : ∃ zs : List Value, zs = [vw 0, vw 0, vw 0, vw 0, vw 0, vw 0, vw 0, vw 0, vw 0, vw 0, vw 0, vw 0, vw 0, vw 0, vw 0, vw 0] := ⟨_, rfl⟩
 have aa : ∀ a, a ≤ p.length → RelOk 16 (Ag (Jj e) a By) := fun a ha => loopN_ok (n := p.length) (fun i q hi hq => putIf_ok hq _ (by omega)) a _ ha zero16_ok
 refine EV.frz [(xb, Cl 37 [.slice fa e.frm.length fc, .slice da e.dn.length dc, .slice oa e.ord.length oc, .slice na e.fen.length nc])] ?_
 generalize hR : M.add _ = N
 have aB : M.le N := hR ▸ JB _ _
 have c7 : rd N xb 0 4 [.slice fa e.frm.length fc, .slice da e.dn.length dc, .slice oa e.ord.length oc, .slice na e.fen.length nc] := hR ▸ Ap 0 rfl rfl (by simp)
 clear hR
 have iJ := c7.pt 0 1 (by omega) rfl
 simp only [lBg] at iJ
 refine JC (fun a : Nat => ([(0, .slice pa p.length pc), (3, pv xb 0), (4, pv b2 0), (5, pv b3 0), (6, vi a)], N, [(b3, Cl 95 ((Ag (Jj e) a By).map vw)), (b2, Cl 95 zs)])) (fun a => a ≤ p.length) (fun a => p.length - a) 0 rfl (lA8 _) ?env1 (by subst hzs; exact lA0 _) ?_
 case env1 =>
  exact eE
 intro a ha ih
 dsimp only at ha ih ⊢
 repeat' first | refine st ?_ | refine rg ?_ | (refine cX ?_ ?_ <;> intro h <;> try exact Ai h) | (refine xn ?_; try refine nx ?_) | exact ⟨⟩ | fail
 ·have aU : a < p.length := by omega
  have hq := aa a ha
  have ih3 := ih (a + 1) (by omega) (by omega)
  simp only [Ag, Jj] at ih3
  obtain ⟨fb, fo, rfl, hat⟩ := Sl.at (sz := 1) (enc := ei) (fun _ => rfl) (by decide) cK (by omega)
  have bN : rd N fb (fo + a) 1 [vi (Af e a)] := (C2 hat a (by omega)).mono aB
  have aS := bj a aU
  generalize Af e a = w at bN aS ih3
  generalize Ag (Jj e) a By = q at *
  repeat' first | refine su ?_ | refine rg ?_ | (refine cX ?_ ?_ <;> intro h <;> try exact Ai h) | refine ZF ?_ | (refine xm ?_; try refine nx ?_) | exact ⟨⟩ | fail
  ·obtain ⟨u, rfl⟩ : ∃ u : Nat, w = u := ⟨w.toNat, by omega⟩
   obtain ⟨bM, e1⟩ := hq.get (show u < 16 by omega)
   have bP := hq.at (show 16 ≤ 32 by omega) u
   rw [e1] at bP
   have cx : q[u] < 2 ^ 64 := lAv bP (by decide)
   have dz : IntKind.u64.wrap (a : Int) = (a : Int) := Bo (by omega)
   have dG : ¬ ((a : Int) < 0) := by omega
   have bH := Ht (show a < 64 by omega)
   have aj := Hu (b := a) cx (by omega)
   refine EV.any (t := Bp0) [(b3, Cl 95 (q.map vw))] (lAf _ (lAh _)) ?_
   simp only [An, Aq, Al, Au, reduceIte, Nat.reduceEqDiff]
   repeat' first | ((first | refine zo (fun lq aD => ?_) | refine zl ?_ | refine lA9 _ (lAd (Cd (f := vw) bM) ?_) | fail); (repeat first | refine nz ?_ | simp only [dz, dG, bH, aj])) | (refine ZB (fun tq aA => ?_) (fun tq aA => ?_) <;> (repeat first | refine nz ?_ | simp only [dz, dG, bH, aj])) | exact zn | refine ZF ?_ | ((first | refine xm ?_ | refine xn ?_ | refine xw ?_ | fail); (repeat first | refine nz ?_ | simp only [dz, dG, bH, aj])) | fail
   refine ⟨by rw [lA1, hq.len]; omega, ?_⟩
   rw [Ao vw q bM]
   repeat' first | (refine zl ?_; try refine nz ?_) | refine zq (fun lq tq aD aA => ?_) | refine zf ?_ | exact ⟨⟩ | fail
   repeat' first | refine su ?_ | refine rg ?_ | exact ⟨⟩ | fail
   rw [Gx, if_pos (decide_eq_true (by omega)), lB2, Ni, orR, e1] at ih3
   refine JA ih3 ?_ (lA0 _)
   exact eE
  ·rw [Gx, if_neg (by rw [decide_eq_false (by omega)]; decide)] at ih3
   refine JA ih3 ?_ (lA0 _)
   exact eE
 ·have eA : a = p.length := by omega
  subst eA
  have bM := (aa p.length (lA5 _)).len
  have aO : Hr p e = Ag (Jj e) p.length By := rfl
  rw [aO]
  refine ⟨_, Fu (f := vw) bM, _, zs, [(b3, Cl 95 ((Ag (Jj e) p.length By).map vw))], _, rfl, by subst hzs; simp, by rw [lA1, bM], fun v hv => by obtain ⟨x, _, rfl⟩ := lAi.1 hv; rfl, ?_⟩
  rw [lA1, bM, show zs.drop 16 = [] by subst hzs; rfl, lAa]
  simp only [lAl, lAg]
  (refine rt Q88_ok ?_; try with_reducible exact ⟨⟩)
  exact ⟨_, B3 (T := 95) (cs := (Ag (Jj e) p.length By).map vw) (by simp) (by rw [lBr, lAx (by rw [lA1, bM]; exact lA5 _)]) (by rw [lA1, bM]; exact lA5 _), rfl⟩
end
section
variable {M : Aa}
theorem Pp (e : Exec) (v : Value) (hv : IsX M v e) (hl : e.fen.length ≤ 16) (hin : ∀ k, k < e.fen.length → 0 ≤ Ae e.fen k ∧ Ae e.fen k < 16) : Con Tryz.prog 51 #[v] M [] fun u _ _ => u = E0 (F0 e.fen) := by
 obtain ⟨f, d, o, n, rfl, ⟨fa, fc, rfl, _⟩, ⟨da, dc, rfl, _⟩, ⟨oa, oc, ovs, rfl, _, _, _⟩, ⟨na, nc, rfl, ll⟩⟩ := hv
 refine Con.enter Q94_ok (args := [.agg #[.slice fa e.frm.length fc, .slice da e.dn.length dc, .slice oa e.ord.length oc, .slice na e.fen.length nc]]) (by simp [Q94]) fun w0 => ?_
 simp only [Q94, A9]
 repeat' first | refine st ?_ | refine rg ?_ | (with_reducible intro b; try refine nx ?_) | exact ⟨⟩ | fail
 obtain ⟨b3, rfl⟩ : ∃ x, x = b := ⟨_, rfl⟩
 obtain ⟨b2, rfl⟩ : ∃ x, x = b := ⟨_, rfl⟩
 obtain ⟨xb, rfl⟩ : ∃ x, x = b := ⟨_, rfl⟩
 obtain ⟨zs, hzs⟩ : ∃ zs : List Value, zs = [vw 0, vw 0, vw 0, vw 0, vw 0, vw 0, vw 0, vw 0, vw 0, vw 0, vw 0, vw 0, vw 0, vw 0, vw 0, vw 0] := ⟨_, rfl⟩
 have aa : ∀ a, a ≤ e.fen.length → RelOk 16 (Ag (Gh e.fen) a By) := fun a ha => loopN_ok (n := e.fen.length) (fun i q hi hq => loopN_ok (n := e.fen.length - (i + 1)) (fun d q hd hq => hq.put _ (by have := hin (i + 1 + d) (by omega); omega)) _ _ (lA5 _) hq) a _ ha zero16_ok
 refine EV.frz [(xb, Cl 37 [.slice fa e.frm.length fc, .slice da e.dn.length dc, .slice oa e.ord.length oc, .slice na e.fen.length nc])] ?_
 generalize hR : M.add _ = N
 have aB : M.le N := hR ▸ JB _ _
 have c7 : rd N xb 0 4 [.slice fa e.frm.length fc, .slice da e.dn.length dc, .slice oa e.ord.length oc, .slice na e.fen.length nc] := hR ▸ Ap 0 rfl rfl (by simp)
 clear hR
 have dG := c7.pt 3 1 (by omega) rfl
 simp only [lBg] at dG
 refine JC (fun a : Nat => ([(1, pv xb 0), (2, pv b2 0), (3, pv b3 0), (4, vi a)], N, [(b3, Cl 95 ((Ag (Gh e.fen) a By).map vw)), (b2, Cl 95 zs)])) (fun a => a ≤ e.fen.length) (fun a => e.fen.length - a) 0 rfl (lA8 _) ?env1 (by subst hzs; exact lA0 _) ?_
 case env1 =>
  exact eE
 intro a ha ih
 dsimp only at ha ih ⊢
 repeat' first | refine st ?_ | refine rg ?_ | (refine cX ?_ ?_ <;> intro h <;> try exact Ai h) | (refine xn ?_; try refine nx ?_) | exact ⟨⟩ | fail
 ·have aU : a < e.fen.length := by omega
  have ki := aa a ha
  have ihk := ih (a + 1) (by omega) (by omega)
  simp only [Ag] at ihk
  obtain ⟨fb, fo, rfl, hat⟩ := Sl.at (sz := 1) (enc := ei) (fun _ => rfl) (by decide) ll (by omega)
  have fu : ∀ k, k < e.fen.length → rd N fb (fo + k) 1 [vi (Ae e.fen k)] := fun k hk => by
   have := (hat k hk).mono aB
   rw [lAw] at this
   rw [Ae, lA2 hk]
   exact this
  have bN := fu a aU
  obtain ⟨g0, g1⟩ := hin a aU
  obtain ⟨u, hu⟩ : ∃ u : Nat, Ae e.fen a = u := ⟨(Ae e.fen a).toNat, by omega⟩
  rw [hu] at bN
  generalize Ag (Gh e.fen) a By = q0 at *
  refine JC (fun d : Nat => ([(1, pv xb 0), (2, pv b2 0), (3, pv b3 0), (4, vi a), (5, vi (a + 1 + d : Nat))], N, [(b3, Cl 95 ((Ag (Pd e.fen a) d q0).map vw)), (b2, Cl 95 zs)])) (fun d => d ≤ e.fen.length - (a + 1)) (fun d => e.fen.length - (a + 1) - d) 0 rfl (lA8 _) ?env2 (lA0 _) ?_
  case env2 =>
   exact eE
  intro d hd ih2
  dsimp only at hd ih2 ⊢
  obtain ⟨x, hx⟩ : ∃ x, x = a + 1 + d := ⟨_, rfl⟩
  rw [← hx]
  repeat' first | refine st ?_ | refine rg ?_ | (refine cX ?_ ?_ <;> intro h <;> try exact Ai h) | (refine xn ?_; try refine nx ?_) | exact ⟨⟩ | fail
  ·have en : x < e.fen.length := by omega
   have hq : RelOk 16 (Ag (Pd e.fen a) d q0) := loopN_ok (n := e.fen.length - (a + 1)) (fun d q hd hq => hq.put _ (by have := hin (a + 1 + d) (by omega); omega)) d _ hd ki
   have ih3 := ih2 (d + 1) (by omega) (by omega)
   simp only [Ag, Pd] at ih3
   generalize Ag (Pd e.fen a) d q0 = q at *
   rw [← hx, show a + 1 + (d + 1) = x + 1 by omega] at ih3
   have bj := fu x en
   obtain ⟨g2, g3⟩ := hin x en
   obtain ⟨w, hw⟩ : ∃ w : Nat, Ae e.fen x = w := ⟨(Ae e.fen x).toNat, by omega⟩
   rw [hw] at bj ih3
   rw [hu] at ih3
   obtain ⟨bM, e1⟩ := hq.get (show u < 16 by omega)
   have bP := hq.at (show 16 ≤ 32 by omega) u
   rw [e1] at bP
   have cx : q[u] < 2 ^ 64 := lAv bP (by decide)
   have dz : IntKind.u64.wrap (w : Int) = (w : Int) := Bo (by omega)
   have fB : ¬ ((w : Int) < 0) := by omega
   have bH := Ht (show w < 64 by omega)
   have aj := Hu (b := w) cx (by omega)
   refine EV.any (t := Bp2) [(b3, Cl 95 (q.map vw))] (lAf _ (lAh _)) ?_
   simp only [An, Aq, Al, Au, reduceIte, Nat.reduceEqDiff]
   repeat' first | ((first | refine zo (fun lq aD => ?_) | refine zl ?_ | refine lA9 _ (lAd (Cd (f := vw) bM) ?_) | fail); (repeat first | refine nz ?_ | simp only [dz, fB, bH, aj])) | (refine ZB (fun tq aA => ?_) (fun tq aA => ?_) <;> (repeat first | refine nz ?_ | simp only [dz, fB, bH, aj])) | exact zn | refine ZF ?_ | ((first | refine xm ?_ | refine xn ?_ | refine xw ?_ | fail); (repeat first | refine nz ?_ | simp only [dz, fB, bH, aj])) | fail
   refine ⟨by rw [lA1, hq.len]; omega, ?_⟩
   rw [Ao vw q bM]
   repeat' first | (refine zl ?_; try refine nz ?_) | refine zq (fun lq tq aD aA => ?_) | refine zf ?_ | exact ⟨⟩ | fail
   repeat' first | refine su ?_ | refine rg ?_ | exact ⟨⟩ | fail
   rw [lB2, lB2, Ni, orR, e1] at ih3
   refine JA ih3 ?_ (lA0 _)
   exact eE
  ·have kj : d = e.fen.length - (a + 1) := by omega
   subst kj
   refine JA ihk ?_ (lA0 _)
   exact eE
 ·have eA : a = e.fen.length := by omega
  subst eA
  have bM := (aa e.fen.length (lA5 _)).len
  have aO : F0 e.fen = Ag (Gh e.fen) e.fen.length By := rfl
  rw [aO]
  refine ⟨_, Fu (f := vw) bM, _, zs, [(b3, Cl 95 ((Ag (Gh e.fen) e.fen.length By).map vw))], _, rfl, by subst hzs; simp, by rw [lA1, bM], fun v hv => by obtain ⟨x, _, rfl⟩ := lAi.1 hv; rfl, ?_⟩
  rw [lA1, bM, show zs.drop 16 = [] by subst hzs; rfl, lAa]
  simp only [lAl, lAg]
  (refine rt Q94_ok ?_; try with_reducible exact ⟨⟩)
  exact ⟨_, B3 (T := 95) (cs := (Ag (Gh e.fen) e.fen.length By).map vw) (by simp) (by rw [lBr, lAx (by rw [lA1, bM]; exact lA5 _)]) (by rw [lA1, bM]; exact lA5 _), rfl⟩
end
section
variable {M : Aa}
theorem Rz (o : Int) (h : Bz o = true) : As Tryz.prog 155 #[vi o] M (vi (Bb2 o)) := by
 rcases D2 h with rfl | rfl | rfl | rfl | rfl
 all_goals
  refine Con.enter Q64_ok (by simp [Q64]) fun w0 => ?_
  simp only [Q64, A9]
  repeat' first | refine st ?_ | refine rg ?_ | refine rt Q64_ok ?_ | (with_reducible intro b; try refine nx ?_) | refine ZF ?_ | (refine xiA rfl ?_; try refine nx ?_) | exact ⟨⟩ | fail
 all_goals rfl
theorem Qd (o : Int) (h : Bz o = true) : As Tryz.prog 130 #[vi o] M (vb (Cz2 o)) := by
 refine Con.enter Q65_ok (args := [vi o]) (by simp [Q65]) fun w0 => ?_
 simp only [Q65, A9]
 repeat' first | refine st ?_ | refine rg ?_ | (refine As.call (Rz _ h) ?_; try refine nx ?_) | refine rt Q65_ok ?_ | exact ⟨⟩ | fail
 all_goals (rcases D2 h with rfl | rfl | rfl | rfl | rfl <;> (congr 1 <;> decide))
theorem Qe (o : Int) (h : Bz o = true) : As Tryz.prog 131 #[vi o] M (vb (Cz1 o)) := by
 refine Con.enter Q63_ok (args := [vi o]) (by simp [Q63]) fun w0 => ?_
 simp only [Q63, A9]
 repeat' first | refine st ?_ | refine rg ?_ | (refine As.call (Rz _ h) ?_; try refine nx ?_) | refine rt Q63_ok ?_ | exact ⟨⟩ | fail
 all_goals (rcases D2 h with rfl | rfl | rfl | rfl | rfl <;> (congr 1 <;> decide))
theorem Mu (r o : Rel) (hh : RelOk 16 r) (ho : RelOk 16 o) : As Tryz.prog 52 #[E0 r, E0 o] M (vb (Gz r o)) := by
 refine Con.enter Q83_ok (args := [E0 r, E0 o]) (by simp [Q83]) fun w0 => ?_
 simp only [Q83, A9]
 have oK := hh.len
 have hlo := ho.len
 have kJ := fun G => Iq (M := M.add G) r hh
 repeat' first | refine st ?_ | refine rg ?_ | ((first | refine As.call (kJ _) ?_ | refine lA9 _ (lAd (Fu (f := vw) oK) ?_) | fail); try refine nx ?_) | (refine cX ?_ ?_ <;> intro h <;> try exact Ai h) | (with_reducible intro b; try refine nx ?_) | exact ⟨⟩ | fail
 ·(refine rt Q83_ok ?_; try with_reducible exact ⟨⟩)
  simp only [Gz, h, Bool.true_or]
 obtain ⟨b3, rfl⟩ : ∃ x, x = b := ⟨_, rfl⟩
 obtain ⟨b2, rfl⟩ : ∃ x, x = b := ⟨_, rfl⟩
 refine JC (fun a : Nat => ([(2, pv b2 0), (3, pv b3 0), (4, vb false), (5, vi a)], M, [(b3, Cl 95 (o.map vw)), (b2, Cl 95 (r.map vw))])) (fun a => a ≤ 16 ∧ ∀ x, x < a → ∀ y, y < 16 → (A3 r x y && A3 o y x) = false) (fun a => 16 - a) 0 rfl ⟨lA8 _, fun x hx => absurd hx (lBy _)⟩ ?env1 (lA0 _) ?_
 case env1 =>
  exact eE
 rintro a ⟨ha, aP⟩ ih
 dsimp only at ha aP ih ⊢
 repeat' first | refine st ?_ | refine rg ?_ | (refine cX ?_ ?_ <;> intro h <;> try exact Ai h) | exact ⟨⟩ | fail
 ·have aU : a < 16 := by omega
  refine JC (fun c : Nat => ([(2, pv b2 0), (3, pv b3 0), (4, vb false), (5, vi a), (6, vi c)], M, [(b3, Cl 95 (o.map vw)), (b2, Cl 95 (r.map vw))])) (fun c => c ≤ 16 ∧ ∀ y, y < c → (A3 r a y && A3 o y a) = false) (fun c => 16 - c) 0 rfl ⟨lA8 _, fun x hx => absurd hx (lBy _)⟩ ?env2 (lA0 _) ?_
  case env2 =>
   exact eE
  rintro c ⟨hc, cn⟩ ih2
  dsimp only at hc cn ih2 ⊢
  repeat' first | refine st ?_ | refine rg ?_ | (refine cX ?_ ?_ <;> intro h <;> try exact Ai h) | refine ZF ?_ | exact ⟨⟩ | fail
  ·have cJ : c < 16 := by omega
   obtain ⟨cm, e1⟩ := hh.get aU
   obtain ⟨aO, e2⟩ := ho.get cJ
   have bP := hh.at (show 16 ≤ 32 by omega) a
   have bi := ho.at (show 16 ≤ 32 by omega) c
   rw [e1] at bP
   rw [e2] at bi
   have cx : r[a] < 2 ^ 64 := lAv bP (by decide)
   have dQ : o[c] < 2 ^ 64 := lAv bi (by decide)
   have j4 := Jw (b := c) cx (by omega)
   have eQ := Jw (b := a) dQ (by omega)
   have eC : IntKind.u64.wrap (a : Int) = (a : Int) := Bo (by omega)
   have cV : ¬ ((a : Int) < 0) := by omega
   have dX : IntKind.u64.wrap (c : Int) = (c : Int) := Bo (by omega)
   have iB : ¬ ((c : Int) < 0) := by omega
   have g1 : A3 r a c = r[a].testBit c := by simp only [A3, e1]
   have g2 : A3 o c a = o[c].testBit a := by simp only [A3, e2]
   repeat' first | refine st ?_ | (refine EV.reg ?_; (conv => (arg 2; whnf)); (repeat first | refine nx ?_ | simp only [eC, cV, dX, iB, j4, eQ])) | with_reducible assumption | ((first | refine lA9 _ (lAd (Cd (f := vw) aO) ?_) | refine lA9 _ (lAd (Cd (f := vw) cm) ?_) | fail); (repeat first | refine nx ?_ | simp only [eC, cV, dX, iB, j4, eQ])) | (refine JE ?_ (fun hc K' hK => ?_) ?_; rotate_left) | (refine cX ?_ ?_ <;> intro h <;> try exact Ai h) | refine ZF ?_ | fail
   ·have : Gz r o = true := by
     simp only [Gz, lAq, lCc, lAn]
     exact .inr ⟨a, aU, c, cJ, by rw [g1, g2]; simpa using h⟩
    (refine rt Q83_ok ?_; try with_reducible exact ⟨⟩)
    rw [this]
   ·refine JA (ih2 (c + 1) ⟨by omega, fun y hy => ?_⟩ (by omega)) ?_ (lA0 _)
    ·by_cases e : y = c
     ·subst e; rw [g1, g2, lBm]; simpa using h
     ·exact cn y (by omega)
    ·exact eE
  ·refine JA (ih (a + 1) ⟨by omega, fun x hx => ?_⟩ (by omega)) ?_ (lA0 _)
   ·by_cases e : x = a
    ·subst e; intro y hy; exact cn y (by omega)
    ·exact aP x (by omega)
   ·exact eE
 ·have gT : Bi r = false := by assumption
  have : Gz r o = false := by
   cases hb : Gz r o with
   | false => rfl
   | true =>
    simp only [Gz, gT, lDv, lCc, lAn] at hb
    obtain ⟨x, hx, y, hy, cR⟩ := hb
    rw [aP x (by omega) y hy] at cR; cases cR
  (refine rt Q83_ok ?_; try with_reducible exact ⟨⟩)
  rw [this]
end
theorem seenJ_ok {e : Exec} {k i a d : Nat} {r : Rel} (h : RelOk 16 r) (hx : 0 ≤ Ae (e.ord[k]?.getD []) (i + 1 + d) ∧ Ae (e.ord[k]?.getD []) (i + 1 + d) < 16) : RelOk 16 (P9 e k i a d r) := h.put _ (by omega)
theorem seenJ2_ok {e : Exec} {k i a b d : Nat} {r : Rel} (h : RelOk 16 r) (hx : 0 ≤ Ae (e.ord[k]?.getD []) (i + 1 + d) ∧ Ae (e.ord[k]?.getD []) (i + 1 + d) < 16) : RelOk 16 (Ml e k i a b d r) := putIf_ok h _ (by omega)
theorem An4 {l z : List Value} (h : l.length = 16) (hz : z.length = 16) : l ++ z.drop l.length = l := by
 rw [h, lF0 (by omega), lAa]
section
variable {p : List Ev} {e : Exec} (hp : p.length ≤ 16) (hin : ∀ k, k < 3 → ∀ i, i < (e.ord[k]?.getD []).length → 0 ≤ Ae (e.ord[k]?.getD []) i ∧ Ae (e.ord[k]?.getD []) i < p.length)
include hp hin
theorem loopJ_ok {k : Nat} (hk : k < 3) {i a : Nat} : ∀ d, d ≤ (e.ord[k]?.getD []).length - (i + 1) → ∀ {r : Rel}, RelOk 16 r → RelOk 16 (Ag (P9 e k i a) d r) :=
 fun d hd r h => loopN_ok (n := (e.ord[k]?.getD []).length - (i + 1)) (fun d q hd hq => seenJ_ok hq (by have := hin k hk (i + 1 + d) (by omega); omega)) d r hd h
theorem loopJ2_ok {k : Nat} (hk : k < 3) {i a b : Nat} : ∀ d, d ≤ (e.ord[k]?.getD []).length - (i + 1) → ∀ {r : Rel}, RelOk 16 r → RelOk 16 (Ag (Ml e k i a b) d r) :=
 fun d hd r h => loopN_ok (n := (e.ord[k]?.getD []).length - (i + 1)) (fun d q hd hq => seenJ2_ok hq (by have := hin k hk (i + 1 + d) (by omega); omega)) d r hd h
theorem loopB_ok {k : Nat} (hk : k < 3) {i a : Nat} (ha : a < 16) : ∀ b, b ≤ p.length → ∀ {r : Rel}, RelOk 16 r → RelOk 16 (Ag (Sx p e k i a) b r) :=
 fun b hb r h => loopN_ok (n := p.length) (fun b q hb hq => loopJ2_ok hp hin hk _ (lA5 _) (putIf_ok hq _ ha)) b r hb h
theorem loopI_ok {k : Nat} (hk : k < 3) : ∀ i, i ≤ (e.ord[k]?.getD []).length → ∀ {r : Rel}, RelOk 16 r → RelOk 16 (Ag (Sy p e k) i r) :=
 fun i hi r h => loopN_ok (n := (e.ord[k]?.getD []).length) (fun i q hi hq => loopB_ok hp hin hk (by have := hin k hk i hi; omega) _ (lA5 _) (loopJ_ok hp hin hk _ (lA5 _) hq)) i r hi h
theorem loopK_ok : ∀ k, k ≤ 3 → ∀ {r : Rel}, RelOk 16 r → RelOk 16 (Ag (Qa p e) k r) :=
 fun k hk r h => loopN_ok (n := 3) (fun k q hk hq => loopI_ok hp hin hk _ (lA5 _) hq) k r hk h
end
section
variable {M : Aa}
theorem R0 (p : List Ev) (s : Value) (hs : Sl M 6 Hf s p) (hp : p.length ≤ 16) (e : Exec) (v : Value) (hv : IsX M v e) (bA : e.frm.length = p.length) (bj : ∀ i, i < p.length → Af e i < p.length)
  (g8 : e.ord.length = 3) (hin : ∀ k, k < 3 → ∀ i, i < (e.ord[k]?.getD []).length → 0 ≤ Ae (e.ord[k]?.getD []) i ∧ Ae (e.ord[k]?.getD []) i < p.length) (aQ : ∀ k, k < 3 → (e.ord[k]?.getD []).length ≤ 16) :
  Con Tryz.prog 54 #[s, v] M [] fun u _ _ => u = E0 (Gl p e) := by
 have aK := hs
 have eP := hv
 obtain ⟨pa, pc, rfl, aw⟩ := hs
 obtain ⟨f, d, o, n, rfl, ⟨fa, fc, rfl, cK⟩, ⟨da, dc, rfl, _⟩, ⟨oa, oc, ovs, rfl, bC, bW, bo⟩, ⟨na, nc, rfl, _⟩⟩ := hv
 obtain ⟨ob, oo, rfl, bU⟩ := D4.at bW bC bo (by omega)
 refine Con.enter Q92_ok (args := [.slice pa p.length pc, .agg #[.slice fa e.frm.length fc, .slice da e.dn.length dc, .slice (some ⟨ob, oo, none⟩) e.ord.length oc, .slice na e.fen.length nc]]) (by simp [Q92]) fun w0 => ?_
 simp only [Q92, A9]
 have mz := fun G => Lu (M := M.add G) p _ (aK.mono (JB _ _)) hp e _ (IsX.mono (JB _ _) eP) bA bj
 repeat' first | refine st ?_ | refine rg ?_ | ((first | refine As.call (mz _) ?_ | with_reducible intro b | refine xrA rfl ?_ | fail); try refine nx ?_) | (refine xw ?_; refine nx ?_) | exact ⟨⟩ | fail
 obtain ⟨b5, rfl⟩ : ∃ x, x = b := ⟨_, rfl⟩
 obtain ⟨b4, rfl⟩ : ∃ x, x = b := ⟨_, rfl⟩
 obtain ⟨xb, rfl⟩ : ∃ x, x = b := ⟨_, rfl⟩
 refine ⟨by rw [lA1, Ea], fun v hv => by obtain ⟨x, _, rfl⟩ := lAi.1 hv; rfl, ?_⟩
 rw [An4 (by rw [lA1, Ea]) rfl]
 repeat' first | refine st ?_ | refine rg ?_ | exact ⟨⟩ | fail
 obtain ⟨zs, hzs⟩ : ∃ zs : List Value, zs = [vw 0, vw 0, vw 0, vw 0, vw 0, vw 0, vw 0, vw 0, vw 0, vw 0, vw 0, vw 0, vw 0, vw 0, vw 0, vw 0] := ⟨_, rfl⟩
 have bJ := fromR_ok (e := e) hp
 refine EV.frz [(xb, Cl 37 [.slice fa e.frm.length fc, .slice da e.dn.length dc, .slice (some ⟨ob, oo, none⟩) e.ord.length oc, .slice na e.fen.length nc])] ?_
 generalize hR : M.add _ = N
 have aB : M.le N := hR ▸ JB _ _
 have c7 : rd N xb 0 4 [.slice fa e.frm.length fc, .slice da e.dn.length dc, .slice (some ⟨ob, oo, none⟩) e.ord.length oc, .slice na e.fen.length nc] := hR ▸ Ap 0 rfl rfl (by simp)
 clear hR mz
 have cQ := c7.pt 0 1 (by omega) rfl
 have bi := c7.pt 2 1 (by omega) rfl
 simp only [lBg] at cQ bi
 have eD := aw.mono aB
 have au : ∀ b, b < p.length → ∃ pb po, pa = some ⟨pb, po, none⟩ ∧ rd N pb (po + b * 6) 6 (Hf (evAt p b)) := fun b hb => by
  obtain ⟨pb, po, e1, hat⟩ := Sl.at (sz := 6) (enc := Hf) (fun _ => rfl) (by decide) eD (by omega)
  have := hat b hb
  rw [← D5 hb] at this
  exact ⟨pb, po, e1, this⟩
 have eG : ∀ b, b < p.length → ∃ fb fo, fa = some ⟨fb, fo, none⟩ ∧ rd N fb (fo + b) 1 [vi (Af e b)] := fun b hb => by
  obtain ⟨fb, fo, e1, hat⟩ := Sl.at (sz := 1) (enc := ei) (fun _ => rfl) (by decide) cK (by omega)
  exact ⟨fb, fo, e1, (C2 hat b (by omega)).mono aB⟩
 have eH : ∀ k, k < 3 → ∃ a' c', rd N ob (oo + k) 1 [.slice a' (e.ord[k]?.getD []).length c'] ∧ rdS N 1 a' (e.ord[k]?.getD []).length ((e.ord[k]?.getD []).flatMap ei) := fun k hk => by
  obtain ⟨a', c', h1, _, h2⟩ := bU k (by omega)
  rw [lAw] at h1
  rw [lA2 (show k < e.ord.length by omega), lAr]
  exact ⟨a', c', h1.mono aB, h2.mono aB⟩
 clear bU bW bo cK aw eD
 refine JC (fun k : Nat => ([(0, .slice pa p.length pc), (3, pv xb 0), (4, pv b4 0), (5, pv b5 0), (6, vi k)], N, [(b5, Cl 95 ((Ag (Qa p e) k (Hr p e)).map vw)), (b4, Cl 95 zs)])) (fun k => k ≤ 3) (fun k => 3 - k) 0 rfl (lA8 _) ?env1 (by subst hzs; exact lA0 _) ?_
 case env1 =>
  exact eE
 intro k hk ih
 dsimp only at hk ih ⊢
 repeat' first | refine st ?_ | refine rg ?_ | (refine cX ?_ ?_ <;> intro h <;> try exact Ai h) | exact ⟨⟩ | fail
 ·have ak : k < 3 := by omega
  have ki := loopK_ok hp hin k hk bJ
  have ihk := ih (k + 1) (by omega) (by omega)
  simp only [Ag, Qa] at ihk
  obtain ⟨la, lc, e8, dZ⟩ := eH k ak
  have jA := hin k ak
  have uB := aQ k ak
  have oI := @loopI_ok p e hp hin k ak
  have oB := @loopB_ok p e hp hin k ak
  have oJ := @loopJ_ok p e hp hin k ak
  have oJ2 := @loopJ2_ok p e hp hin k ak
  generalize Ag (Qa p e) k (Hr p e) = q0 at *
  refine JC (fun i : Nat => ([(0, .slice pa p.length pc), (3, pv xb 0), (4, pv b4 0), (5, pv b5 0), (6, vi k), (7, vi i)], N, [(b5, Cl 95 ((Ag (Sy p e k) i q0).map vw)), (b4, Cl 95 zs)])) (fun i => i ≤ (e.ord[k]?.getD []).length) (fun i => (e.ord[k]?.getD []).length - i) 0 rfl (lA8 _) ?env2 (lA0 _) ?_
  case env2 =>
   exact eE
  intro i hi ih2
  dsimp only at hi ih2 ⊢
  repeat' first | refine st ?_ | refine rg ?_ | (refine cX ?_ ?_ <;> intro h <;> try exact Ai h) | refine ZF ?_ | (refine xn ?_; try refine nx ?_) | exact ⟨⟩ | fail
  ·have aC : i < (e.ord[k]?.getD []).length := by omega
   have i5 := oI i hi ki
   have ih3 := ih2 (i + 1) (by omega) (by omega)
   simp only [Ag, Sy] at ih3
   obtain ⟨wb, wo, rfl, bG⟩ := Sl.at (sz := 1) (enc := ei) (fun _ => rfl) (by decide) dZ (by omega)
   have fu := C2 bG
   obtain ⟨a, ha⟩ : ∃ a : Nat, Ae (e.ord[k]?.getD []) i = a := ⟨(Ae (e.ord[k]?.getD []) i).toNat, by have := jA i aC; omega⟩
   have jY := fu i aC
   have uC : a < p.length := by have := jA i aC; omega
   rw [ha, lB2] at ih3
   rw [ha] at jY
   have oB := @oB i a (by omega)
   have oJ := fun d hd => @oJ i a d hd _ i5
   have oJ2 := @oJ2 i a
   generalize hL : (e.ord[k]?.getD []) = L at *
   generalize Ag (Sy p e k) i q0 = q1 at *
   repeat' first | refine st ?_ | refine rg ?_ | refine ZF ?_ | (refine xm ?_; try refine nx ?_) | exact ⟨⟩ | fail
   refine JC (fun d : Nat => ([(0, .slice pa p.length pc), (3, pv xb 0), (4, pv b4 0), (5, pv b5 0), (6, vi k), (7, vi i), (8, vi a), (9, vi (i + 1 + d : Nat))], N, [(b5, Cl 95 ((Ag (P9 e k i a) d q1).map vw)), (b4, Cl 95 zs)])) (fun d => d ≤ L.length - (i + 1)) (fun d => L.length - (i + 1) - d) 0 rfl (lA8 _) ?env3 (lA0 _) ?_
   case env3 =>
    exact eE
   intro d hd ih4
   dsimp only at hd ih4 ⊢
   obtain ⟨x, hx⟩ : ∃ x, x = i + 1 + d := ⟨_, rfl⟩
   rw [← hx]
   repeat' first | refine st ?_ | refine rg ?_ | (refine cX ?_ ?_ <;> intro h <;> try exact Ai h) | refine ZF ?_ | (refine xn ?_; try refine nx ?_) | exact ⟨⟩ | fail
   ·have en : x < L.length := by omega
    have hq := oJ d hd
    have ih5 := ih4 (d + 1) (by omega) (by omega)
    simp only [Ag, P9, hL] at ih5
    generalize Ag (P9 e k i a) d q1 = q at *
    rw [← hx, show i + 1 + (d + 1) = x + 1 by omega] at ih5
    have fH := fu x en
    have qM := jA x en
    obtain ⟨w, hw⟩ : ∃ w : Nat, Ae L x = w := ⟨(Ae L x).toNat, by omega⟩
    rw [hw] at fH ih5
    obtain ⟨bM, e1⟩ := hq.get (show a < 16 by omega)
    have bP := hq.at (show 16 ≤ 32 by omega) a
    rw [e1] at bP
    have cx : q[a] < 2 ^ 64 := lAv bP (by decide)
    have dz : IntKind.u64.wrap (w : Int) = (w : Int) := Bo (by omega)
    have fB : ¬ ((w : Int) < 0) := by omega
    have bH := Ht (show w < 64 by omega)
    have aj := Hu (b := w) cx (by omega)
    refine EV.any (t := Bp8) [(b5, Cl 95 (q.map vw))] (lAf _ (lAh _)) ?_
    simp only [An, Aq, Al, Au, reduceIte, Nat.reduceEqDiff]
    repeat' first | ((first | refine zo (fun lq aD => ?_) | refine zl ?_ | refine lA9 _ (lAd (Cd (f := vw) bM) ?_) | fail); (repeat first | refine nz ?_ | simp only [dz, fB, bH, aj])) | (refine ZB (fun tq aA => ?_) (fun tq aA => ?_) <;> (repeat first | refine nz ?_ | simp only [dz, fB, bH, aj])) | exact zn | refine ZF ?_ | ((first | refine xm ?_ | refine xn ?_ | refine xw ?_ | fail); (repeat first | refine nz ?_ | simp only [dz, fB, bH, aj])) | fail
    refine ⟨by rw [lA1, hq.len]; omega, ?_⟩
    rw [Ao vw q bM]
    repeat' first | (refine zl ?_; try refine nz ?_) | refine zq (fun lq tq aD aA => ?_) | refine zf ?_ | exact ⟨⟩ | fail
    repeat' first | refine su ?_ | refine rg ?_ | exact ⟨⟩ | fail
    rw [lB2, Ni, orR, e1] at ih5
    refine JA ih5 ?_ (lA0 _)
    exact eE
   ·have kj : d = L.length - (i + 1) := by omega
    subst kj
    have k8 := oJ _ (lA5 _)
    generalize Ag (P9 e k i a) (L.length - (i + 1)) q1 = q2 at *
    repeat' first | fail
    refine JC (fun c : Nat => ([(0, .slice pa p.length pc), (3, pv xb 0), (4, pv b4 0), (5, pv b5 0), (6, vi k), (7, vi i), (8, vi a), (10, vi c)], N, [(b5, Cl 95 ((Ag (Sx p e k i a) c q2).map vw)), (b4, Cl 95 zs)])) (fun c => c ≤ p.length) (fun c => p.length - c) 0 rfl (lA8 _) ?env4 (lA0 _) ?_
    case env4 =>
     exact eE
    intro c hc ih4
    dsimp only at hc ih4 ⊢
    refine EV.seq ?_
    refine EV.seq ?_
    repeat' first | refine su ?_ | refine rg ?_ | (refine cX ?_ ?_ <;> intro h <;> try exact Ai h) | exact ⟨⟩ | fail
    ·have cJ : c < p.length := by omega
     have oG := oB c hc k8
     have ih5 := ih4 (c + 1) (by omega) (by omega)
     simp only [Ag, Sx, hL] at ih5
     generalize Ag (Sx p e k i a) c q2 = q3 at *
     obtain ⟨pb, po, rfl, fw⟩ := au c cJ
     obtain ⟨fb, fo, rfl, iq⟩ := eG c cJ
     have cW : rd N pb (po + c * 6 + 1 + 1) 1 [vi (evAt p c).op.loc] := fw.pt 2 1 (by omega) rfl
     obtain ⟨aO, e1⟩ := oG.get (show c < 16 by omega)
     have bP := oG.at (show 16 ≤ 32 by omega) c
     rw [e1] at bP
     have cx : q3[c] < 2 ^ 64 := lAv bP (by decide)
     have eC : IntKind.u64.wrap (a : Int) = (a : Int) := Bo (by omega)
     have cV : ¬ ((a : Int) < 0) := by omega
     have bH := Ht (show a < 64 by omega)
     have aj := Hu (b := a) cx (by omega)
     have uD : RelOk 16 (Gx (decide (Af e c = -1) && decide ((evAt p c).op.loc = (k : Int)) && decide (a ≠ c)) q3 c a) := putIf_ok oG _ (by omega)
     have oJ3 := fun d hd => @oJ2 c d hd _ uD
     generalize qN : Gx (decide (Af e c = -1) && decide ((evAt p c).op.loc = (k : Int)) && decide (a ≠ c)) q3 c a = q4 at *
     refine EV.seq ?_
     refine EV.block ?_
     refine EV.seq (JH (fun ρ' M' G' => M' = N ∧ (∀ q ∈ [(0, .slice (some ⟨pb, po, none⟩) p.length pc), (3, pv xb 0), (4, pv b4 0), (5, pv b5 0), (6, vi k), (7, vi i), (8, vi a), (10, vi c)], get ρ' q.1 = some q.2) ∧ G' = [(b5, Cl 95 (q4.map vw)), (b4, Cl 95 zs)]) ?_ ?_)
     ·intro k' key
      clear ih ihk ih2 ih3 ih4 ih5
      rw [← qN] at key
      repeat' first | refine st ?_ | (refine EV.reg ?_; (conv => (arg 2; whnf)); (repeat first | refine nx ?_ | simp only [eC, cV, bH, aj])) | with_reducible assumption | (refine lA9 _ (lAd (Cd (f := vw) aO) ?_); (repeat first | refine nx ?_ | simp only [eC, cV, bH, aj])) | (refine JE ?_ (fun hc K' hK => ?_) ?_; rotate_left) | (refine cX ?_ ?_ <;> intro h <;> try exact Ai h) | refine ZF ?_ | ((first | refine xm ?_ | refine xn ?_ | fail); (repeat first | refine nx ?_ | simp only [eC, cV, bH, aj])) | (refine xw ?_; (repeat first | refine nx ?_ | simp only [eC, cV, bH, aj])) | fail
      ·refine ⟨by rw [lA1, oG.len]; omega, ?_⟩
       rw [Ao vw q3 aO]
       rw [Gx, if_pos (by simp at h ⊢; omega), Ni, orR, e1] at key
       refine JI (key _ _ _ ⟨rfl, ?_, rfl⟩)
       exact eE
      ·rw [Gx, if_neg (by simp at h ⊢; omega)] at key
       refine JI (key _ _ _ ⟨rfl, ?_, rfl⟩)
       exact eE
     rintro ρ' M' G' ⟨e0, hρ, e2⟩
     rw [e0, e2]
     clear e0 e2
     refine JA (ρ' := [(0, .slice (some ⟨pb, po, none⟩) p.length pc), (3, pv xb 0), (4, pv b4 0), (5, pv b5 0), (6, vi k), (7, vi i), (8, vi a), (10, vi c)]) ?_ hρ (lA0 _)
     repeat' first | refine st ?_ | refine rg ?_ | exact ⟨⟩ | fail
     refine JC (fun d : Nat => ([(0, .slice (some ⟨pb, po, none⟩) p.length pc), (3, pv xb 0), (4, pv b4 0), (5, pv b5 0), (6, vi k), (7, vi i), (8, vi a), (10, vi c), (11, vi (i + 1 + d : Nat))], N, [(b5, Cl 95 ((Ag (Ml e k i a c) d q4).map vw)), (b4, Cl 95 zs)])) (fun d => d ≤ L.length - (i + 1)) (fun d => L.length - (i + 1) - d) 0 rfl (lA8 _) ?env5 (lA0 _) ?_
     case env5 =>
      exact eE
     intro d hd ih6
     dsimp only at hd ih6 ⊢
     obtain ⟨x, hx⟩ : ∃ x, x = i + 1 + d := ⟨_, rfl⟩
     rw [← hx]
     refine EV.seq ?_
     refine EV.seq ?_
     repeat' first | refine su ?_ | refine rg ?_ | (refine cX ?_ ?_ <;> intro h <;> try exact Ai h) | refine ZF ?_ | (refine xn ?_; try refine nx ?_) | exact ⟨⟩ | fail
     ·have en : x < L.length := by omega
      have qO := oJ3 d hd
      have ih7 := ih6 (d + 1) (by omega) (by omega)
      simp only [Ag, Ml, hL] at ih7
      generalize Ag (Ml e k i a c) d q4 = q5 at *
      rw [← hx, show i + 1 + (d + 1) = x + 1 by omega] at ih7
      have fH := fu x en
      have qM := jA x en
      obtain ⟨w, hw⟩ : ∃ w : Nat, Ae L x = w := ⟨(Ae L x).toNat, by omega⟩
      rw [hw] at fH ih7
      obtain ⟨nA, e5⟩ := qO.get (show c < 16 by omega)
      have oE := qO.at (show 16 ≤ 32 by omega) c
      rw [e5] at oE
      have uE : q5[c] < 2 ^ 64 := lAv oE (by decide)
      have fJ : IntKind.u64.wrap (w : Int) = (w : Int) := Bo (by omega)
      have cU : ¬ ((w : Int) < 0) := by omega
      have fx := Ht (show w < 64 by omega)
      have ku := Hu (b := w) uE (by omega)
      repeat' first | refine st ?_ | refine rg ?_ | with_reducible assumption | (refine JE ?_ (fun hc K' hK => ?_) ?_; rotate_left) | (refine cX ?_ ?_ <;> intro h <;> try exact Ai h) | refine ZF ?_ | ((first | refine xm ?_ | refine xn ?_ | fail); try refine nx ?_) | exact ⟨⟩ | fail
      ·refine EV.any (t := Ap2) [(b5, Cl 95 (q5.map vw))] (lAf _ (lAh _)) ?_
       simp only [An, Aq, Al, Au, reduceIte, Nat.reduceEqDiff]
       repeat' first | ((first | refine zo (fun lq aD => ?_) | refine zl ?_ | refine lA9 _ (lAd (Cd (f := vw) nA) ?_) | fail); (repeat first | refine nz ?_ | simp only [fJ, cU, fx, ku])) | (refine ZB (fun tq aA => ?_) (fun tq aA => ?_) <;> (repeat first | refine nz ?_ | simp only [fJ, cU, fx, ku])) | exact zn | refine ZF ?_ | ((first | refine xm ?_ | refine xn ?_ | refine xw ?_ | fail); (repeat first | refine nz ?_ | simp only [fJ, cU, fx, ku])) | fail
       refine ⟨by rw [lA1, qO.len]; omega, ?_⟩
       rw [Ao vw q5 nA]
       repeat' first | (refine zl ?_; try refine nz ?_) | refine zq (fun lq tq aD aA => ?_) | refine zf ?_ | exact ⟨⟩ | fail
       repeat' first | refine su ?_ | refine rg ?_ | exact ⟨⟩ | fail
       rw [Gx, if_pos (by simp at h ⊢; omega), lB2, Ni, orR, e5] at ih7
       refine JA ih7 ?_ (lA0 _)
       exact eE
      ·rw [Gx, if_neg (by simp at h ⊢; omega)] at ih7
       refine JA ih7 ?_ (lA0 _)
       exact eE
     ·have kj : d = L.length - (i + 1) := by omega
      subst kj
      refine JA ih5 ?_ (lA0 _)
      exact eE
    ·have lR : c = p.length := by omega
     subst lR
     refine JA ih3 ?_ (lA0 _)
     exact eE
  ·have bO : i = (e.ord[k]?.getD []).length := by omega
   subst bO
   refine JA ihk ?_ (lA0 _)
   exact eE
 ·have dY : k = 3 := by omega
  subst dY
  have cD := loopK_ok hp hin 3 (lA5 _) bJ
  have aO : Gl p e = B8 (Ag (Qa p e) 3 (Hr p e)) := rfl
  rw [aO]
  generalize Ag (Qa p e) 3 (Hr p e) = q at *
  have eI := fun G => F5 (M := N.add G) q cD
  repeat' first | ((first | refine As.call (eI _) ?_ | refine lA9 _ (lAd (Fu (f := vw) cD.len) ?_) | fail); try refine nx ?_) | (refine xw ?_; refine nx ?_) | exact ⟨⟩ | fail
  refine ⟨by subst hzs; simp, by rw [lA1, cD.close.len], fun v hv => by obtain ⟨x, _, rfl⟩ := lAi.1 hv; rfl, ?_⟩
  rw [An4 (by rw [lA1, cD.close.len]) (by subst hzs; rfl)]
  (refine rt Q92_ok ?_; try with_reducible exact ⟨⟩)
  exact ⟨_, B3 (T := 95) (cs := (B8 q).map vw) (by simp) (by rw [lBr, lAx (by rw [lA1, cD.close.len]; exact lA5 _)]) (by rw [lA1, cD.close.len]; exact lA5 _), rfl⟩
end
section
variable {p : List Ev} (hp : p.length ≤ 16)
include hp
theorem Ar1 (w : Nat) : ∀ m, m ≤ p.length → Ag (fun a s => Fs (gI p w a) s a) m 0 < 2 ^ 16 := fun m hm => Kx (n := p.length) (fun i s hi hs => Nr hs (by omega)) m 0 hm (by decide)
theorem Cw5 (w : Nat) : ∀ m, m ≤ p.length → Ag (fun a s => Fs (tlC p w a) s a) m 0 < 2 ^ 16 := fun m hm => Kx (n := p.length) (fun i s hi hs => Nr hs (by omega)) m 0 hm (by decide)
end
theorem Wq {C : Cx Tryz.prog} {k : List RItem} {p : List Ev} {N : Aa} {pb po pc xb b4 b5 w c ch : Nat} {G : Own} (hp : p.length ≤ 16) (bL : Yt p) (fA : ∀ b, b < p.length → rd N pb (po + b * 6) 6 (Hf (evAt p b))) (fY : w < p.length) (cJ : c < p.length)
  (key : EV C [0, 1, 3, 4, 5, 6, 7, 8, 9, 10, 11, 12, 13, 14, 15] k [(0, .slice (some ⟨pb, po, none⟩) p.length pc), (3, pv xb 0), (4, pv b4 0), (5, pv b5 0), (6, vi w), (7, vw ch), (10, vi c), (11, vw (iw p w)), (12, vw (tlW p c))] N G) :
  EV C [0, 1, 3, 4, 5, 6, 7, 8, 9, 10, 11, 12, 13, 14, 15] (.code (.loop Ac4) :: .inBlock 8 :: k)
   [(13, vi 0), (0, .slice (some ⟨pb, po, none⟩) p.length pc), (3, pv xb 0), (4, pv b4 0), (5, pv b5 0), (6, vi w), (7, vw ch), (10, vi c), (11, vw 0), (12, vw 0)] N G := by
 refine JC (fun a : Nat => ([(0, .slice (some ⟨pb, po, none⟩) p.length pc), (3, pv xb 0), (4, pv b4 0), (5, pv b5 0), (6, vi w), (7, vw ch), (10, vi c), (11, vw (Ag (fun a s => Fs (gI p w a) s a) a 0)), (12, vw (Ag (fun a s => Fs (tlC p c a) s a) a 0)), (13, vi a)], N, G)) (fun a => a ≤ p.length) (fun a => p.length - a) 0 rfl (lA8 _) ?env1 (lA0 _) ?_
 case env1 =>
  exact eE
 intro a ha ih
 dsimp only at ha ih ⊢
 refine EV.seq ?_
 refine EV.seq ?_
 repeat' first | refine su ?_ | refine rg ?_ | (refine cX ?_ ?_ <;> intro h <;> try exact Ai h) | exact ⟨⟩ | fail
 ·have aU : a < p.length := by omega
  have ih2 := ih (a + 1) (by omega) (by omega)
  simp only [Ag] at ih2
  have fG := Ar1 hp w a ha
  have iZ := Cw5 hp c a ha
  generalize Ag (fun a s => Fs (gI p w a) s a) a 0 = m1 at *
  generalize Ag (fun a s => Fs (tlC p c a) s a) a 0 = m2 at *
  have cx : m1 < 2 ^ 64 := lAv fG (by decide)
  have dQ : m2 < 2 ^ 64 := lAv iZ (by decide)
  have eC : IntKind.u64.wrap (a : Int) = (a : Int) := Bo (by omega)
  have cV : ¬ ((a : Int) < 0) := by omega
  have gx := Ht (show a < 64 by omega)
  have qP := Hu (b := a) cx (by omega)
  have qQ := Hu (b := a) dQ (by omega)
  have sM := fA a aU
  have uF : rd N pb (po + a * 6 + 1) 5 [vi (evAt p a).op.kind, vi (evAt p a).op.loc, vi (evAt p a).op.v, vi (evAt p a).op.w, vi (evAt p a).op.ord] := sM.pt 1 5 (by omega) rfl
  have qR : rd N pb (po + a * 6 + 0) 1 [vi (evAt p a).th] := sM.pt 0 1 (by omega) rfl
  have qS : rd N pb (po + w * 6 + 0) 1 [vi (evAt p w).th] := (fA w fY).pt 0 1 (by omega) rfl
  have qT : rd N pb (po + c * 6 + 0) 1 [vi (evAt p c).th] := (fA c cJ).pt 0 1 (by omega) rfl
  simp only [lDd] at qR qS qT
  have gJ := bL a aU
  have qU := fun G => Qd (M := N.add G) _ gJ
  have qV := fun G => Qe (M := N.add G) _ gJ
  generalize sN : (evAt p a).op = o at *
  refine EV.seq ?_
  refine EV.block ?_
  refine EV.seq ?_
  repeat' first | refine rg ?_ | (with_reducible intro b; try refine nx ?_) | refine ZF ?_ | (refine xm ?_; try refine nx ?_) | (refine xw ?_; refine nx ?_) | exact ⟨⟩ | fail
  have j8 := Ap (M := N) (G := (b, Cl 83 [vi o.kind, vi o.loc, vi o.v, vi o.w, vi o.ord]) :: G) (b := b) (off := 4) (n := 1) 0 rfl rfl (by simp)
  have uG := Ap (M := N) (G := (b, Cl 83 [vi o.kind, vi o.loc, vi o.v, vi o.w, vi o.ord]) :: G) (b := b) (off := 0) (n := 1) 0 rfl rfl (by simp)
  refine EV.seq (JH (fun ρ' M' G' => M' = N ∧ (∀ q ∈ [(0, .slice (some ⟨pb, po, none⟩) p.length pc), (3, pv xb 0), (4, pv b4 0), (5, pv b5 0), (6, vi w), (7, vw ch), (10, vi c), (11, vw (Fs (gI p w a) m1 a)), (12, vw m2), (13, vi a), (14, pv b 0)], get ρ' q.1 = some q.2) ∧ G' = (b, Cl 83 [vi o.kind, vi o.loc, vi o.v, vi o.w, vi o.ord]) :: G) ?_ ?_)
  ·intro k' key2
   clear ih ih2
   refine EV.seq ?_
   refine EV.any (t := Ap4) [(b, Cl 83 [vi o.kind, vi o.loc, vi o.v, vi o.w, vi o.ord])] (lAf _ (lAh _)) ?_
   simp only [An, Aq, Al, Au, reduceIte, Nat.reduceEqDiff]
   repeat' first | ((refine ZE ?_ (fun lq aD hc => ?_) (fun lq aD => ?_); rotate_left) <;> (try (exfalso; simp at hc; done)) <;> try refine nz ?_) | ((first | refine zo (fun lq aD => ?_) | refine zl ?_ | refine lA9 _ (lAd (qU _) ?_) | fail); try refine nz ?_) | refine zf ?_ | with_reducible rfl | refine ZF ?_ | ((first | refine xm ?_ | refine xiA rfl ?_ | fail); try refine nz ?_) | exact ⟨⟩ | fail
   have hh : (Cz2 o.ord && (decide ((a : Int) = (w : Int)) || decide (o.kind = 5) && decide ((evAt p a).th = (evAt p w).th) && decide ((a : Int) < (w : Int)))) = gI p w a := by
    simp [gI, Ev.rel, sN, Int.natCast_inj, Int.ofNat_lt]
   rw [hh]
   generalize gI p w a = y at *
   repeat' first | refine su ?_ | (refine EV.reg ?_; (conv => (arg 2; whnf)); (repeat first | refine nx ?_ | simp only [eC, cV, gx, qP])) | (refine cX ?_ ?_ <;> intro h <;> try exact Ai h) | fail
   ·rw [Fs, if_pos h] at key2
    refine JI (key2 _ _ _ ⟨rfl, ?_, rfl⟩)
    exact eE
   ·rw [Fs, if_neg (by rw [h]; decide)] at key2
    refine JI (key2 _ _ _ ⟨rfl, ?_, rfl⟩)
    exact eE
  ·rintro ρ' M' G' ⟨e0, hρ, e2⟩
   rw [e0, e2]
   clear e0 e2
   generalize Fs (gI p w a) m1 a = m3 at *
   refine JA (ρ' := [(0, .slice (some ⟨pb, po, none⟩) p.length pc), (3, pv xb 0), (4, pv b4 0), (5, pv b5 0), (6, vi w), (7, vw ch), (10, vi c), (11, vw m3), (12, vw m2), (13, vi a), (14, pv b 0)]) ?_ hρ (lA0 _)
   refine EV.seq ?_
   refine EV.any (t := Ap5) [(b, Cl 83 [vi o.kind, vi o.loc, vi o.v, vi o.w, vi o.ord])] (lAf _ (lAh _)) ?_
   simp only [An, Aq, Al, Au, reduceIte, Nat.reduceEqDiff]
   repeat' first | ((refine ZE ?_ (fun lq aD hc => ?_) (fun lq aD => ?_); rotate_left) <;> (try (exfalso; simp at hc; done)) <;> try refine nz ?_) | ((first | refine zo (fun lq aD => ?_) | refine zl ?_ | refine lA9 _ (lAd (qV _) ?_) | fail); try refine nz ?_) | refine zf ?_ | with_reducible rfl | refine ZF ?_ | ((first | refine xm ?_ | refine xiA rfl ?_ | fail); try refine nz ?_) | exact ⟨⟩ | fail
   have hh : (Cz1 o.ord && (decide ((a : Int) = (c : Int)) || decide (o.kind = 5) && decide ((evAt p a).th = (evAt p c).th) && decide ((c : Int) < (a : Int)))) = tlC p c a := by
    simp [tlC, Ev.acq, sN, Int.natCast_inj, Int.ofNat_lt]
   rw [hh]
   generalize tlC p c a = y at *
   repeat' first | refine su ?_ | (refine EV.reg ?_; (conv => (arg 2; whnf)); (repeat first | refine nx ?_ | simp only [eC, cV, gx, qQ])) | (refine cX ?_ ?_ <;> intro h <;> try exact Ai h) | fail
   ·rw [Fs, if_pos h] at ih2
    refine JA ih2 ?_ (lAp _ (lA0 _))
    exact eE
   ·rw [Fs, if_neg (by rw [h]; decide)] at ih2
    refine JA ih2 ?_ (lAp _ (lA0 _))
    exact eE
 ·have eA : a = p.length := by omega
  subst eA
  repeat' first | fail
  refine JA key ?_ (lA0 _)
  exact eE
theorem loopMA_ok {p : List Ev} (hp : p.length ≤ 16) {w b : Nat} : ∀ m, m ≤ p.length → ∀ {r : Rel}, RelOk 16 r → RelOk 16 (Ag (mtA p w b) m r) := fun m hm r h => loopN_ok (n := p.length) (fun a q ha hq => by
 unfold mtA; split
 ·exact hq.or a (Ag7 hp b)
 ·exact hq) m r hm h
theorem Ze {C : Cx Tryz.prog} {k : List RItem} {p : List Ev} {N : Aa} {pb po pc xb b4 b5 w c ch : Nat} {zs : List Value} {q1 : Rel} (hp : p.length ≤ 16) (i5 : RelOk 16 q1)
  (key : EV C [0, 1, 3, 4, 5, 6, 7, 8, 9, 10, 11, 12, 13, 14, 15] k [(0, .slice (some ⟨pb, po, none⟩) p.length pc), (3, pv xb 0), (4, pv b4 0), (5, pv b5 0), (6, vi w), (7, vw ch), (10, vi c)] N [(b5, Cl 95 ((Ag (mtA p w c) p.length q1).map vw)), (b4, Cl 95 zs)]) :
  EV C [0, 1, 3, 4, 5, 6, 7, 8, 9, 10, 11, 12, 13, 14, 15] (.code (.seq (.reg Ap6) (.block 10 (.loop Ac5))) :: k)
   [(0, .slice (some ⟨pb, po, none⟩) p.length pc), (3, pv xb 0), (4, pv b4 0), (5, pv b5 0), (6, vi w), (7, vw ch), (10, vi c), (11, vw (iw p w)), (12, vw (tlW p c))] N [(b5, Cl 95 (q1.map vw)), (b4, Cl 95 zs)] := by
 have qX : iw p w < 2 ^ 16 := Ar1 hp w _ (lA5 _)
 have lh := Ag7 hp c
 have qY : iw p w < 2 ^ 64 := lAv qX (by decide)
 have qZ : tlW p c < 2 ^ 64 := lAv lh (by decide)
 repeat' first | refine st ?_ | refine rg ?_ | exact ⟨⟩ | fail
 refine JC (fun a : Nat => ([(0, .slice (some ⟨pb, po, none⟩) p.length pc), (3, pv xb 0), (4, pv b4 0), (5, pv b5 0), (6, vi w), (7, vw ch), (10, vi c), (11, vw (iw p w)), (12, vw (tlW p c)), (15, vi a)], N, [(b5, Cl 95 ((Ag (mtA p w c) a q1).map vw)), (b4, Cl 95 zs)])) (fun a => a ≤ p.length) (fun a => p.length - a) 0 rfl (lA8 _) ?env1 (lA0 _) ?_
 case env1 =>
  exact eE
 intro a ha ih
 dsimp only at ha ih ⊢
 refine EV.seq ?_
 refine EV.seq ?_
 repeat' first | refine su ?_ | refine rg ?_ | (refine cX ?_ ?_ <;> intro h <;> try exact Ai h) | exact ⟨⟩ | fail
 ·have aU : a < p.length := by omega
  have hq := loopMA_ok (w := w) (b := c) hp a ha i5
  have ih2 := ih (a + 1) (by omega) (by omega)
  simp only [Ag, mtA] at ih2
  generalize Ag (mtA p w c) a q1 = q at *
  generalize iw p w = hd at *
  generalize tlW p c = tl at *
  have eC : IntKind.u64.wrap (a : Int) = (a : Int) := Bo (by omega)
  have cV : ¬ ((a : Int) < 0) := by omega
  have ar := Jw (b := a) qY (by omega)
  obtain ⟨cm, e1⟩ := hq.get (show a < 16 by omega)
  have bP := hq.at (show 16 ≤ 32 by omega) a
  rw [e1] at bP
  have cx : q[a] < 2 ^ 64 := lAv bP (by decide)
  have aj := X1 cx qZ
  repeat' first | refine st ?_ | (refine EV.reg ?_; (conv => (arg 2; whnf)); (repeat first | refine nx ?_ | simp only [eC, cV, ar, aj])) | (refine lA9 _ (lAd (Cd (f := vw) cm) ?_); (repeat first | refine nx ?_ | simp only [eC, cV, ar, aj])) | (refine cX ?_ ?_ <;> intro h <;> try exact Ai h) | refine ZF ?_ | (refine xw ?_; (repeat first | refine nx ?_ | simp only [eC, cV, ar, aj])) | fail
  ·refine ⟨by rw [lA1, hq.len]; omega, ?_⟩
   rw [Ao vw q cm]
   repeat' first | refine su ?_ | refine rg ?_ | exact ⟨⟩ | fail
   rw [if_pos (by simpa using h), orR, e1] at ih2
   refine JA ih2 ?_ (lA0 _)
   exact eE
  ·rw [if_neg (by simpa using h)] at ih2
   refine JA ih2 ?_ (lA0 _)
   exact eE
 ·have eA : a = p.length := by omega
  subst eA
  repeat' first | fail
  refine JA key ?_ (lA0 _)
  exact eE
theorem Ar2 (r : Rel) : ok1 (r.map vw) := fun v hv => by obtain ⟨x, _, rfl⟩ := lAi.1 hv; rfl
theorem X9 {x b : Nat} (hx : x < 2 ^ 64) (hb : b < 64) : decide (IntKind.u64.wrap ((BitVec.ofInt IntKind.u64.bits ((x : Int).fdiv (2 ^ min b IntKind.u64.bits)) &&& BitVec.ofInt IntKind.u64.bits 1).toNat : Int) = 0) = !x.testBit b := by
 have h := Jw hx hb
 have e0 : min b IntKind.u64.bits = b := lBx (show b ≤ 64 by omega)
 rw [e0] at h ⊢
 have e1 : (x : Int).fdiv (2 ^ b) = ((x / 2 ^ b : Nat) : Int) := by
  rw [lDr _ (by exact_mod_cast lA8 _)]; simp
 have hd : x / 2 ^ b < 2 ^ 64 := lEd (lFh _ _) hx
 rw [e1, X0 hd] at h ⊢
 have e : (BitVec.ofNat 64 (x / 2 ^ b) &&& BitVec.ofInt 64 1).toNat = (x / 2 ^ b) % 2 := by
  rw [lF9, lD4, lCg hd]
  show (x / 2 ^ b) &&& 1 = _
  exact lEu _
 have e2 : IntKind.u64.wrap ((BitVec.ofNat 64 (x / 2 ^ b) &&& BitVec.ofInt 64 1).toNat : Int) = ((x / 2 ^ b % 2 : Nat) : Int) := by rw [e, Bo (by omega)]
 change decide (IntKind.u64.wrap ((BitVec.ofNat 64 (x / 2 ^ b) &&& BitVec.ofInt 64 1).toNat : Int) = 1) = _ at h
 change decide (IntKind.u64.wrap ((BitVec.ofNat 64 (x / 2 ^ b) &&& BitVec.ofInt 64 1).toNat : Int) = 0) = _
 rw [e2] at h ⊢
 rw [← h, ← decide_not, decide_eq_decide]
 omega
section
variable {p : List Ev} {e : Exec} (hp : p.length ≤ 16)
include hp
theorem Ya {c : Nat} (hc : c < 2 ^ 16) : ∀ m, m ≤ p.length → Ag (chS e) m c < 2 ^ 16 := fun m hm => Kx (n := p.length) (fun i s hi hs => Nr hs (by omega)) m c hm hc
theorem Ai0 {w : Nat} (hw : w < p.length) : ∀ k, chN p e k w < 2 ^ 16
 | 0 => lBe (by decide) (by omega)
 | k + 1 => by
  show Cw3 p e (chN p e k w) < 2 ^ 16
  exact Ya hp (Ai0 hw k) _ (lA5 _)
theorem loopMB_ok {w : Nat} : ∀ m, m ≤ p.length → ∀ {r : Rel}, RelOk 16 r → RelOk 16 (Ag (mtB p e w) m r) := fun m hm r h => loopN_ok (n := p.length) (fun b q hb hq => by
 unfold mtB; split
 ·exact hq
 ·exact loopMA_ok hp _ (lA5 _) hq) m r hm h
theorem loopMW_ok : ∀ m, m ≤ p.length → ∀ {r : Rel}, RelOk 16 r → RelOk 16 (Ag (mtW p e) m r) := fun m hm r h => loopN_ok (n := p.length) (fun w q hw hq => by
 unfold mtW; split
 ·exact loopMB_ok hp _ (lA5 _) hq
 ·exact hq) m r hm h
end
section
variable {M : Aa}
theorem Wr (p : List Ev) (s : Value) (hs : Sl M 6 Hf s p) (hp : p.length ≤ 16) (bL : Yt p) (e : Exec) (v : Value) (hv : IsX M v e) (bA : e.frm.length = p.length) (bF : e.dn.length = p.length) (bj : ∀ i, i < p.length → Af e i < p.length) :
  Con Tryz.prog 95 #[s, v] M [] fun u _ _ => u = E0 (Ky p e) := by
 obtain ⟨pa, pc, rfl, aw⟩ := hs
 obtain ⟨f, d, o, n, rfl, ⟨fa, fc, rfl, cK⟩, ⟨da, dc, rfl, aH⟩, ⟨oa, oc, ovs, rfl, bC, bW, bo⟩, ⟨na, nc, rfl, _⟩⟩ := hv
 refine Con.enter Q89_ok (args := [.slice pa p.length pc, .agg #[.slice fa e.frm.length fc, .slice da e.dn.length dc, .slice oa e.ord.length oc, .slice na e.fen.length nc]]) (by simp [Q89]) fun w0 => ?_
 simp only [Q89, A9]
 repeat' first | refine st ?_ | refine rg ?_ | (with_reducible intro b; try refine nx ?_) | exact ⟨⟩ | fail
 obtain ⟨b5, rfl⟩ : ∃ x, x = b := ⟨_, rfl⟩
 obtain ⟨b4, rfl⟩ : ∃ x, x = b := ⟨_, rfl⟩
 obtain ⟨xb, rfl⟩ : ∃ x, x = b := ⟨_, rfl⟩
 obtain ⟨zs, hzs⟩ : ∃ zs : List Value, zs = [vw 0, vw 0, vw 0, vw 0, vw 0, vw 0, vw 0, vw 0, vw 0, vw 0, vw 0, vw 0, vw 0, vw 0, vw 0, vw 0] := ⟨_, rfl⟩
 refine EV.frz [(xb, Cl 37 [.slice fa e.frm.length fc, .slice da e.dn.length dc, .slice oa e.ord.length oc, .slice na e.fen.length nc])] ?_
 generalize hR : M.add _ = N
 have aB : M.le N := hR ▸ JB _ _
 have c7 : rd N xb 0 4 [.slice fa e.frm.length fc, .slice da e.dn.length dc, .slice oa e.ord.length oc, .slice na e.fen.length nc] := hR ▸ Ap 0 rfl rfl (by simp)
 clear hR
 have cQ := c7.pt 0 1 (by omega) rfl
 have bP := c7.pt 1 1 (by omega) rfl
 simp only [lBg] at cQ bP
 have eD := aw.mono aB
 refine JC (fun w : Nat => ([(0, .slice pa p.length pc), (3, pv xb 0), (4, pv b4 0), (5, pv b5 0), (6, vi w)], N, [(b5, Cl 95 ((Ag (mtW p e) w By).map vw)), (b4, Cl 95 zs)])) (fun w => w ≤ p.length) (fun w => p.length - w) 0 rfl (lA8 _) ?env1 (by subst hzs; exact lA0 _) ?_
 case env1 =>
  exact eE
 intro w hw ih
 dsimp only at hw ih ⊢
 refine EV.seq ?_
 refine EV.seq ?_
 repeat' first | refine su ?_ | refine rg ?_ | (refine cX ?_ ?_ <;> intro h <;> try exact Ai h) | exact ⟨⟩ | fail
 ·have fY : w < p.length := by omega
  obtain ⟨pb, po, rfl, jB⟩ := Sl.at (sz := 6) (enc := Hf) (fun _ => rfl) (by decide) eD (by omega)
  obtain ⟨fb, fo, rfl, nB⟩ := Sl.at (sz := 1) (enc := ei) (fun _ => rfl) (by decide) cK (by omega)
  obtain ⟨db, dof, rfl, jC⟩ := Sl.at (sz := 1) (enc := eb) (fun _ => rfl) (by decide) aH (by omega)
  have fA : ∀ b, b < p.length → rd N pb (po + b * 6) 6 (Hf (evAt p b)) := fun b hb => by
   have := jB b hb
   rwa [← D5 hb] at this
  have eG : ∀ b, b < p.length → rd N fb (fo + b) 1 [vi (Af e b)] := fun b hb => (C2 nB b (by omega)).mono aB
  have nC : ∀ b, b < p.length → rd N db (dof + b) 1 [vb (Ci e.dn b)] := fun b hb => by
   have := (jC b (by omega)).mono aB
   rw [lAw] at this
   rw [Ci, lA2 (by omega)]; exact this
  clear bW bo cK aw eD jB nB jC aH
  have ki := loopMW_ok (e := e) hp w hw zero16_ok
  have ihk := ih (w + 1) (by omega) (by omega)
  simp only [Ag, mtW] at ihk
  generalize Ag (mtW p e) w By = q0 at *
  have o8 := nC w fY
  cases lQ : Ci e.dn w with
  | false =>
   rw [lQ] at o8 ihk
   repeat' first | refine st ?_ | refine rg ?_ | (refine cX ?_ ?_ <;> intro h <;> try exact Ai h) | refine ZF ?_ | ((first | refine xm ?_ | refine xn ?_ | fail); try refine nx ?_) | exact ⟨⟩ | fail
   refine JA ihk ?_ (lA0 _)
   exact eE
  | true =>
   rw [lQ] at o8 ihk
   have fJ : IntKind.u64.wrap (w : Int) = (w : Int) := Bo (by omega)
   have cU : ¬ ((w : Int) < 0) := by omega
   have fx := Ht (show w < 64 by omega)
   repeat' first | refine st ?_ | (refine EV.reg ?_; (conv => (arg 2; whnf)); (repeat first | refine nx ?_ | simp only [fJ, cU, fx])) | (refine cX ?_ ?_ <;> intro h <;> try exact Ai h) | refine ZF ?_ | ((first | refine xm ?_ | refine xn ?_ | fail); (repeat first | refine nx ?_ | simp only [fJ, cU, fx])) | fail
   refine JC (fun r : Nat => ([(0, .slice (some ⟨pb, po, none⟩) p.length pc), (3, pv xb 0), (4, pv b4 0), (5, pv b5 0), (6, vi w), (7, vw (chN p e r w)), (8, vi r)], N, [(b5, Cl 95 ((q0).map vw)), (b4, Cl 95 zs)])) (fun r => r ≤ p.length) (fun r => p.length - r) 0 rfl (lA8 _) ?env2 (lA0 _) ?_
   case env2 =>
    exact eE
   intro r hr ih2
   dsimp only at hr ih2 ⊢
   repeat' first | refine st ?_ | refine rg ?_ | (refine cX ?_ ?_ <;> intro h <;> try exact Ai h) | exact ⟨⟩ | fail
   ·have be : r < p.length := by omega
    have gT := Ai0 (e := e) hp fY r
    have ih3 := ih2 (r + 1) (by omega) (by omega)
    rw [show chN p e (r + 1) w = Ag (chS e) p.length (chN p e r w) from rfl] at ih3
    generalize chN p e r w = c0 at *
    refine JC (fun a : Nat => ([(0, .slice (some ⟨pb, po, none⟩) p.length pc), (3, pv xb 0), (4, pv b4 0), (5, pv b5 0), (6, vi w), (7, vw (Ag (chS e) a c0)), (8, vi r), (9, vi a)], N, [(b5, Cl 95 ((q0).map vw)), (b4, Cl 95 zs)])) (fun a => a ≤ p.length) (fun a => p.length - a) 0 rfl (lA8 _) ?env3 (lA0 _) ?_
    case env3 =>
     exact eE
    intro a ha ih4
    dsimp only at ha ih4 ⊢
    refine EV.seq ?_
    refine EV.seq ?_
    repeat' first | refine su ?_ | refine rg ?_ | (refine cX ?_ ?_ <;> intro h <;> try exact Ai h) | exact ⟨⟩ | fail
    ·have aU : a < p.length := by omega
     have hc := Ya (e := e) hp gT a ha
     have ih5 := ih4 (a + 1) (by omega) (by omega)
     simp only [Ag, chS] at ih5
     generalize Ag (chS e) a c0 = c at *
     have jD := nC a aU
     have fy := eG a aU
     have eC : IntKind.u64.wrap (a : Int) = (a : Int) := Bo (by omega)
     have cV : ¬ ((a : Int) < 0) := by omega
     have gx := Ht (show a < 64 by omega)
     have cx : c < 2 ^ 64 := lAv hc (by decide)
     have aj := Hu (b := a) cx (by omega)
     by_cases h0 : 0 ≤ Af e a
     ·obtain ⟨u, hu⟩ : ∃ u : Nat, Af e a = u := ⟨(Af e a).toNat, by omega⟩
      have kw := bj a aU
      rw [hu] at fy kw ih5
      have je : IntKind.u64.wrap (u : Int) = (u : Int) := Bo (by omega)
      have cS : ¬ ((u : Int) < 0) := by omega
      have ar := Jw (b := u) cx (by omega)
      rw [lB2, decide_eq_true (show (0 : Int) ≤ (u : Int) by omega), lEl] at ih5
      generalize p7 : Ci e.dn a = y at *
      have sO : decide ((0 : Int) ≤ (u : Int)) = true := decide_eq_true (by omega)
      repeat' first | refine st ?_ | (refine EV.reg ?_; (conv => (arg 2; whnf)); (repeat first | refine nx ?_ | simp only [eC, cV, gx, aj, je, cS, ar, sO, lEl])) | with_reducible assumption | (refine JE ?_ (fun hc K' hK => ?_) ?_; rotate_left) | (refine cX ?_ ?_ <;> intro h <;> try exact Ai h) | refine ZF ?_ | ((first | refine xm ?_ | refine xn ?_ | fail); (repeat first | refine nx ?_ | simp only [eC, cV, gx, aj, je, cS, ar, sO, lEl])) | fail
      ·rw [Fs, if_pos (by simpa using h)] at ih5
       refine JA ih5 ?_ (lA0 _)
       exact eE
      ·rw [Fs, if_neg (by rw [lFa, lBm]; simpa using h)] at ih5
       refine JA ih5 ?_ (lA0 _)
       exact eE
     ·have eT : decide ((0 : Int) ≤ Af e a) = false := decide_eq_false h0
      rw [eT, lF3, lCa, Fs, if_neg (by decide)] at ih5
      generalize p7 : Ci e.dn a = y at *
      repeat' first | refine st ?_ | (refine EV.reg ?_; (conv => (arg 2; whnf)); (repeat first | refine nx ?_ | simp only [eT, lF3])) | with_reducible assumption | (refine JE ?_ (fun hc K' hK => ?_) ?_; rotate_left) | (refine cX ?_ ?_ <;> intro h <;> try exact Ai h) | refine ZF ?_ | ((first | refine xm ?_ | refine xn ?_ | fail); (repeat first | refine nx ?_ | simp only [eT, lF3])) | (exfalso; simp at hc; done) | fail
      refine JA ih5 ?_ (lA0 _)
      exact eE
    ·have eA : a = p.length := by omega
     subst eA
     refine JA ih3 ?_ (lA0 _)
     exact eE
   ·have hre : r = p.length := by omega
    subst hre
    have dX : chN p e p.length w = chW p e w := rfl
    have aO := Ai0 (e := e) hp fY p.length
    rw [dX] at aO
    rw [dX]
    have jf : chW p e w < 2 ^ 64 := lAv aO (by decide)
    rw [if_pos rfl] at ihk
    have oM := fun m hm => loopMB_ok (e := e) (w := w) hp m hm ki
    refine JC (fun c : Nat => ([(0, .slice (some ⟨pb, po, none⟩) p.length pc), (3, pv xb 0), (4, pv b4 0), (5, pv b5 0), (6, vi w), (7, vw (chW p e w)), (10, vi c)], N, [(b5, Cl 95 ((Ag (mtB p e w) c q0).map vw)), (b4, Cl 95 zs)])) (fun c => c ≤ p.length) (fun c => p.length - c) 0 rfl (lA8 _) ?env4 (lA0 _) ?_
    case env4 =>
     exact eE
    intro c hc ih3
    dsimp only at hc ih3 ⊢
    refine EV.seq ?_
    refine EV.seq ?_
    repeat' first | refine su ?_ | refine rg ?_ | (refine cX ?_ ?_ <;> intro h <;> try exact Ai h) | exact ⟨⟩ | fail
    ·have cJ : c < p.length := by omega
     have i5 := oM c hc
     have ih4 := ih3 (c + 1) (by omega) (by omega)
     simp only [Ag, mtB] at ih4
     generalize Ag (mtB p e w) c q0 = q1 at *
     have iq := eG c cJ
     generalize fk : chW p e w = ch at *
     by_cases hgo : (decide (Af e c < 0) || !ch.testBit (Af e c).toNat) = true
     ·rw [if_pos hgo] at ih4
      by_cases h0 : Af e c < 0
      ·have gy : decide (Af e c < 0) = true := decide_eq_true h0
       repeat' first | refine st ?_ | (refine EV.reg ?_; (conv => (arg 2; whnf)); (repeat first | refine nx ?_ | simp only [gy, Bool.true_or])) | (refine JE ?_ (fun hc K' hK => ?_) ?_; rotate_left) | (refine cX ?_ ?_ <;> intro h <;> try exact Ai h) | refine ZF ?_ | ((first | refine xm ?_ | refine xn ?_ | fail); (repeat first | refine nx ?_ | simp only [gy, Bool.true_or])) | (exfalso; simp at hc; done) | exact false | fail
       refine JA ih4 ?_ (lA0 _)
       exact eE
      ·obtain ⟨u, hu⟩ : ∃ u : Nat, Af e c = u := ⟨(Af e c).toNat, by omega⟩
       have kw := bj c cJ
       rw [hu] at iq kw hgo
       have je : IntKind.u64.wrap (u : Int) = (u : Int) := Bo (by omega)
       have cS : ¬ ((u : Int) < 0) := by omega
       have ar := X9 (b := u) jf (by omega)
       have eT : decide ((u : Int) < 0) = false := decide_eq_false cS
       rw [eT, lDv, lB2] at hgo
       repeat' first | refine st ?_ | (refine EV.reg ?_; (conv => (arg 2; whnf)); (repeat first | refine nx ?_ | simp only [je, cS, ar, eT, lDv, hgo])) | with_reducible assumption | (refine JE ?_ (fun hc K' hK => ?_) ?_; rotate_left) | (refine cX ?_ ?_ <;> intro h <;> try exact Ai h) | refine ZF ?_ | ((first | refine xm ?_ | refine xn ?_ | fail); (repeat first | refine nx ?_ | simp only [je, cS, ar, eT, lDv, hgo])) | fail
       refine JA ih4 ?_ (lA0 _)
       exact eE
     ·rw [if_neg hgo] at ih4
      have dB : (decide (Af e c < 0) || !ch.testBit (Af e c).toNat) = false := by simpa using hgo
      rw [lBn] at dB
      have h0 : ¬ Af e c < 0 := of_decide_eq_false dB.1
      obtain ⟨u, hu⟩ : ∃ u : Nat, Af e c = u := ⟨(Af e c).toNat, by omega⟩
      have kw := bj c cJ
      rw [hu] at iq kw dB
      have je : IntKind.u64.wrap (u : Int) = (u : Int) := Bo (by omega)
      have cS : ¬ ((u : Int) < 0) := by omega
      have ar := X9 (b := u) jf (by omega)
      have eT : decide ((u : Int) < 0) = false := decide_eq_false cS
      have q8 := dB.2
      rw [lB2] at q8
      repeat' first | refine st ?_ | (refine EV.reg ?_; (conv => (arg 2; whnf)); (repeat first | refine nx ?_ | simp only [je, cS, ar, eT, lDv, q8])) | with_reducible assumption | (refine JE ?_ (fun hc K' hK => ?_) ?_; rotate_left) | (refine cX ?_ ?_ <;> intro h <;> try exact Ai h) | refine ZF ?_ | ((first | refine xm ?_ | refine xn ?_ | fail); (repeat first | refine nx ?_ | simp only [je, cS, ar, eT, lDv, q8])) | fail
      refine Wq (w := w) (c := c) hp bL fA fY cJ ?_
      refine Ze hp i5 ?_
      repeat' first | refine su ?_ | refine rg ?_ | exact ⟨⟩ | fail
      refine JA ih4 ?_ (lA0 _)
      exact eE
    ·have lR : c = p.length := by omega
     subst lR
     refine JA ihk ?_ (lA0 _)
     exact eE
 ·have uH : w = p.length := by omega
  subst uH
  have bM : (Ag (mtW p e) p.length By).length = 16 := (loopMW_ok (e := e) hp _ (lA5 _) zero16_ok).len
  have aO : Ky p e = Ag (mtW p e) p.length By := rfl
  rw [aO]
  generalize Ag (mtW p e) p.length By = q at *
  repeat' first | refine st ?_ | refine rg ?_ | (refine lA9 _ (lAd (Fu (f := vw) bM) ?_); try refine nx ?_) | (refine xw ?_; refine nx ?_) | exact ⟨⟩ | fail
  refine ⟨by subst hzs; simp, by rw [lA1, bM], Ar2 _, ?_⟩
  rw [An4 (by rw [lA1, bM]) (by subst hzs; rfl)]
  (refine rt Q89_ok ?_; try with_reducible exact ⟨⟩)
  exact ⟨_, B3 (T := 95) (cs := q.map vw) (by simp) (by rw [lBr, lAx (by rw [lA1, bM]; exact lA5 _)]) (by rw [lA1, bM]; exact lA5 _), rfl⟩
end
section
variable {M : Aa}
theorem Mv (p : List Ev) (s : Value) (hs : Sl M 6 Hf s p) (hp : p.length ≤ 16) (bL : Yt p) (e : Exec) (v : Value) (hv : IsX M v e) (bA : e.frm.length = p.length) (bF : e.dn.length = p.length) (bj : ∀ i, i < p.length → Af e i < p.length)
  (hl : e.fen.length ≤ 16) (hin : ∀ k, k < e.fen.length → 0 ≤ Ae e.fen k ∧ Ae e.fen k < 16) :
  Con Tryz.prog 53 #[s, v] M [] fun u _ _ => u = E0 (Ns p e) := by
 have aK := hs
 have eP := hv
 obtain ⟨pa, pc, rfl, aw⟩ := hs
 obtain ⟨f, d, o, n, rfl, ⟨fa, fc, rfl, cK⟩, ⟨da, dc, rfl, aH⟩, ⟨oa, oc, ovs, rfl, bC, bW, bo⟩, ⟨na, nc, rfl, _⟩⟩ := hv
 refine Con.enter Q82_ok (args := [.slice pa p.length pc, .agg #[.slice fa e.frm.length fc, .slice da e.dn.length dc, .slice oa e.ord.length oc, .slice na e.fen.length nc]]) (by simp [Q82]) fun w0 => ?_
 simp only [Q82, A9]
 have gA := fun G => (show As _ _ _ (M.add G) _ from Hv (M := M.add G) p _ (aK.mono (JB _ _)) hp)
 have q9 := fun G => (show As _ _ _ (M.add G) _ from Wr (M := M.add G) p _ (aK.mono (JB _ _)) hp bL e _ (IsX.mono (JB _ _) eP) bA bF bj)
 have jE := fun G => (show As _ _ _ (M.add G) _ from Pp (M := M.add G) e _ (IsX.mono (JB _ _) eP) hl hin)
 have iQ := thrR_ok (p := p) hp
 have qa := meetsR_ok (p := p) (e := e) hp
 have jg := turnsR_ok (fen := e.fen) hin
 have jF := fun G => (show As _ _ _ (M.add G) _ from Fq (M := M.add G) _ _ qa jg)
 have jG := fun G => (show As _ _ _ (M.add G) _ from Fq (M := M.add G) _ _ iQ (unionR_ok qa jg))
 have gJ := unionR_ok iQ (unionR_ok qa jg)
 have eI := fun G => (show As _ _ _ (M.add G) _ from F5 (M := M.add G) _ gJ)
 repeat' first | refine st ?_ | refine rg ?_ | (with_reducible intro b; try refine nx ?_) | exact ⟨⟩ | fail
 obtain ⟨b4, rfl⟩ : ∃ x, x = b := ⟨_, rfl⟩
 obtain ⟨xb, rfl⟩ : ∃ x, x = b := ⟨_, rfl⟩
 refine EV.any (t := Bp7) [(xb, Cl 37 [.slice fa e.frm.length fc, .slice da e.dn.length dc, .slice oa e.ord.length oc, .slice na e.fen.length nc])] (lAp _ (lA0 _)) ?_
 simp only [An, Aq, Al, Au, reduceIte, Nat.reduceEqDiff]
 repeat' first | ((first | refine zo (fun lq aD => ?_) | refine zl ?_ | fail); try refine nz ?_) | refine zq (fun lq tq aD aA => ?_) | ((first | with_reducible refine As.call (gA _) ?_ | with_reducible refine As.call (q9 _) ?_ | with_reducible refine As.call (jE _) ?_ | with_reducible refine As.call (jF _) ?_ | with_reducible refine As.call (jG _) ?_ | with_reducible refine As.call (eI _) ?_ | fail); try refine nz ?_) | (refine ZA (fun tq aA => ?_) (fun tq aA => ?_) <;> try refine nz ?_) | (refine ZB (fun tq aA => ?_) (fun tq aA => ?_) <;> try refine nz ?_) | exact zn | ((first | refine xrA rfl ?_ | refine xw ?_ | refine lAd (Aa.le_refl _) (lAd (Ay ?_) ?_); focus ((repeat' first | exact lA0 _ | exact lAh _ | exact lAj _ _ | refine lAf _ ?_ | refine lAo ?_ _ | refine lAb ?_ | refine lAp _ ?_); done) | fail); try refine nz ?_) | exact ⟨⟩ | fail
 have fg : (Ns p e).length = 16 := (gJ.close).len
 have o4 : B8 (C3 (Uh p) (C3 (Ky p e) (F0 e.fen))) = Ns p e := rfl
 rw [o4]
 refine ⟨by rw [lA1, fg], Ar2 _, ?_⟩
 rw [An4 (by rw [lA1, fg]) rfl]
 repeat' first | (refine zl ?_; try refine nz ?_) | refine zq (fun lq tq aD aA => ?_) | refine zf ?_ | exact ⟨⟩ | fail
 (refine rt Q82_ok ?_; try with_reducible exact ⟨⟩)
 exact ⟨_, B3 (T := 95) (cs := (Ns p e).map vw) (by simp) (by rw [lBr, lAx (by rw [lA1, fg]; exact lA5 _)]) (by rw [lA1, fg]; exact lA5 _), rfl⟩
end
abbrev rkG (s : Rk) (rb lb kb fb : Nat) : Own :=
 [(fb, Cl 4 (s.f.map vb)), (kb, Cl 4 (s.k.map vb)), (lb, Cl 3 (s.l.map vi)), (rb, Cl 3 (s.r.map vi))]
theorem An5 {p : List Ev} {i : Nat} {s : Rk} {n : Nat} (h : s.Len n) : (Rr p i s).Len n := by
 unfold Rr
 refine ⟨h.r, ?_, h.k, by simp [h.f]⟩
 show List.length (if _ then _ else _) = n
 split
 ·simp [h.l]
 ·split <;> simp [h.l]
theorem R1 {p : List Ev} {f : List Int} {i : Nat} {s : Rk} {n : Nat} (h : s.Len n) : (C4 p f i s).Len n := by
 unfold C4
 split
 ·exact h
 ·have h1 : (B1 f i s).Len n := ⟨by unfold B1; dsimp only; split <;> simp [h.r], h.l, by simp [B1, h.k], h.f⟩
  unfold Gm
  split
  ·exact ⟨h1.r, by simp [h1.l], h1.k, by simp [h1.f]⟩
  ·exact h1
theorem He {g : Nat → Rk → Rk} {n : Nat} (hg : ∀ i s, s.Len n → (g i s).Len n) : ∀ m {s : Rk}, s.Len n → (Ag g m s).Len n
 | 0, _, h => h
 | m + 1, _, h => hg m _ (He hg m h)
theorem An6 (n : Nat) : (⟨List.replicate n 0, List.replicate n 0, List.replicate n false, List.replicate n false⟩ : Rk).Len n := ⟨by simp, by simp, by simp, by simp⟩
theorem Mw {C : Cx Tryz.prog} {k : List RItem} {p : List Ev} {N : Aa} {pb po pc xb rb lb kb fb r a : Nat} {t : Rk} (hp : p.length ≤ 16) (aU : a < p.length)
  (fw : rd N pb (po + a * 6) 6 (Hf (evAt p a))) (b0 : t.Len p.length) (hk : (evAt p a).op.kind = 2)
  (ih4 : EV C [0, 1, 3, 4, 5, 6, 7, 8, 9, 10, 11, 12, 13, 14, 45] k [(0, .slice (some ⟨pb, po, none⟩) p.length pc), (3, pv xb 0), (7, Av rb p.length p.length), (8, Av lb p.length p.length), (9, Av kb p.length p.length), (10, Av fb p.length p.length), (13, vi r), (14, vi (a + 1 : Nat))] N (rkG (Gm p a t) rb lb kb fb)) :
  EV C [0, 1, 3, 4, 5, 6, 7, 8, 9, 10, 11, 12, 13, 14, 45] (.code (.any W8) :: .code (.reg Ac0) :: .inBlock 6 :: .code (.reg Ac1) :: k)
   [(0, .slice (some ⟨pb, po, none⟩) p.length pc), (3, pv xb 0), (7, Av rb p.length p.length), (8, Av lb p.length p.length), (9, Av kb p.length p.length), (10, Av fb p.length p.length), (13, vi r), (14, vi a)] N (rkG t rb lb kb fb) := by
 have uI : rd N pb (po + a * 6 + 1 + 2) 1 [vi (evAt p a).op.v] := fw.pt 3 1 (by omega) rfl
 have aq := b0.r
 have bV := b0.l
 have dP := b0.k
 have cv := b0.f
 have io : a < t.r.length := by omega
 have cG : a < t.l.length := by omega
 have kR : a < t.f.length := by omega
 have eR : t.r[a]?.getD 0 = t.r[a] := by rw [lA2 io]; rfl
 rw [Gm, if_pos hk, eR] at ih4
 refine EV.any (t := W8) [(rb, Cl 3 (t.r.map vi))] (lAp _ (lAp _ (lAp _ (lA0 _)))) ?_
 simp only [An, Aq, Al, Au, reduceIte, Nat.reduceEqDiff]
 repeat' first | ((first | refine zo (fun lq aD => ?_) | refine zl ?_ | refine lA9 _ (lAd (Cd (f := vi) io) ?_) | fail); try refine nz ?_) | (refine ZB (fun tq aA => ?_) (fun tq aA => ?_) <;> try refine nz ?_) | exact zn | refine ZF ?_ | ((first | refine xm ?_ | refine xw ?_ | fail); try refine nz ?_) | exact ⟨⟩ | fail
 refine ⟨by rw [lA1]; omega, ?_⟩
 rw [Ao vi t.l cG]
 repeat' first | (refine zl ?_; try refine nz ?_) | refine zq (fun lq tq aD aA => ?_) | refine zf ?_ | exact ⟨⟩ | fail
 repeat' first | refine su ?_ | (refine EV.reg ?_; (conv => (arg 2; whnf)); (repeat first | refine nx ?_ | simp only [Ao, lA1, cv, aU])) | refine ZF ?_ | (refine xw ?_; (repeat first | refine nx ?_ | simp only [Ao, lA1, cv, aU])) | fail
 refine JA ih4 ?_ (lA0 _)
 exact eE
theorem Ta {C : Cx Tryz.prog} {k : List RItem} {p : List Ev} {e : Exec} {N : Aa} {pa : Option Addr} {pc xb rb lb kb fb r a : Nat} {t : Rk} {fa : Option Addr} {fc : Nat} (hp : p.length ≤ 16) (aU : a < p.length) (bA : e.frm.length = p.length) (bj : ∀ i, i < p.length → Af e i < p.length)
  (cQ : rd N xb 0 1 [.slice fa e.frm.length fc])
  (eG : ∀ b, b < p.length → ∃ fb fo, fa = some ⟨fb, fo, none⟩ ∧ rd N fb (fo + b) 1 [vi (Af e b)])
  (au : ∀ b, b < p.length → ∃ pb po, pa = some ⟨pb, po, none⟩ ∧ rd N pb (po + b * 6) 6 (Hf (evAt p b)))
  (b0 : t.Len p.length)
  (ih4 : EV C [0, 1, 3, 4, 5, 6, 7, 8, 9, 10, 11, 12, 13, 14, 45] k [(0, .slice pa p.length pc), (3, pv xb 0), (7, Av rb p.length p.length), (8, Av lb p.length p.length), (9, Av kb p.length p.length), (10, Av fb p.length p.length), (13, vi r), (14, vi (a + 1 : Nat))] N (rkG (C4 p e.frm a t) rb lb kb fb)) :
  EV C [0, 1, 3, 4, 5, 6, 7, 8, 9, 10, 11, 12, 13, 14, 45] (.code (.seq (.block 6 (.seq (.seq (.reg Ao7) (.cond (.t 95) (.exit 6) .skip)) (.seq (.reg Ao8) (.seq (.seq (.reg Ao9) (.cond (.t 104) (.reg Ap0) .skip)) (.seq (.reg Ap1) (.cond (.t 122) (.seq (.any W8) (.reg Ac0)) .skip)))))) (.reg Ac1)) :: k)
   [(0, .slice pa p.length pc), (3, pv xb 0), (7, Av rb p.length p.length), (8, Av lb p.length p.length), (9, Av kb p.length p.length), (10, Av fb p.length p.length), (13, vi r), (14, vi a)] N (rkG t rb lb kb fb) := by
 obtain ⟨pb, po, rfl, fw⟩ := au a aU
 obtain ⟨qb, qo, rfl, iq⟩ := eG a aU
 have kw := bj a aU
 have gz : rd N pb (po + a * 6 + 1 + 0) 1 [vi (evAt p a).op.kind] := fw.pt 1 1 (by omega) rfl
 have uI : rd N pb (po + a * 6 + 1 + 2) 1 [vi (evAt p a).op.v] := fw.pt 3 1 (by omega) rfl
 simp only [lDd] at gz
 rw [C4] at ih4
 have aq := b0.r
 have bV := b0.l
 have dP := b0.k
 have cv := b0.f
 have io : a < t.r.length := by omega
 have cG : a < t.l.length := by omega
 have d7 : a < t.k.length := by omega
 have kR : a < t.f.length := by omega
 have eK : t.K a = t.k[a] := by rw [Rk.K, lA2 d7]; rfl
 have efr : B0 e.frm a = Af e a := rfl
 rw [eK, efr] at ih4
 refine EV.seq ?_
 refine EV.block ?_
 cases hK : t.k[a] with
 | true =>
  rw [hK, if_pos (by simp)] at ih4
  repeat' first | refine st ?_ | (refine EV.reg ?_; (conv => (arg 2; whnf)); (repeat first | refine nx ?_ | simp only [hK])) | (refine lA9 _ (lAd (Cd (f := vb) d7) ?_); (repeat first | refine nx ?_ | simp only [hK])) | (refine A5.intro (fun hc => ?_) (fun hc => ?_) <;> try simp only [ne_eq, lBj, lBl, not_true_eq_false, not_false_eq_true, reduceCtorEq] at hc <;> try (exfalso; first | exact hc | omega | (simp at hc; done))) | (refine cX ?_ ?_ <;> intro h <;> try exact Ai h) | refine ZF ?_ | fail
  refine JA ih4 ?_ (lA0 _)
  exact eE
 | false =>
  rw [hK, lDv] at ih4
  by_cases h0 : 0 ≤ Af e a
  ·obtain ⟨u, hu⟩ : ∃ u : Nat, Af e a = u := ⟨(Af e a).toNat, by omega⟩
   rw [hu] at iq kw
   have qc : u < t.f.length := by omega
   have bM : u < t.l.length := by omega
   have gy : decide ((0 : Int) ≤ (u : Int)) = true := decide_eq_true (by omega)
   have eF : t.F u = t.f[u] := by rw [Rk.F, lA2 qc]; rfl
   rw [hu, gy, lC1, lB2, eF] at ih4
   cases hF : t.f[u] with
   | false =>
    rw [hF, if_pos (by simp)] at ih4
    repeat' first | refine st ?_ | (refine EV.reg ?_; (conv => (arg 2; whnf)); (repeat first | refine nx ?_ | simp only [hK, hF, gy])) | with_reducible assumption | ((first | refine lA9 _ (lAd (Cd (f := vb) qc) ?_) | refine lA9 _ (lAd (Cd (f := vb) d7) ?_) | fail); (repeat first | refine nx ?_ | simp only [hK, hF, gy])) | (refine JE ?_ (fun hc K' hK => ?_) ?_; rotate_left) | (refine cX ?_ ?_ <;> intro h <;> try exact Ai h) | refine ZF ?_ | ((first | refine xm ?_ | refine xn ?_ | fail); (repeat first | refine nx ?_ | simp only [hK, hF, gy])) | fail
    refine JA ih4 ?_ (lA0 _)
    exact eE
   | true =>
    rw [hF, if_neg (by simp)] at ih4
    have eR : B1 e.frm a t = { t with k := t.k.set a true, r := t.r.set a t.l[u] } := by
     unfold B1
     rw [efr, hu, if_pos (by omega), lB2, lA2 bM]; rfl
    rw [eR] at ih4
    repeat' first | refine st ?_ | (refine EV.reg ?_; (conv => (arg 2; whnf)); (repeat first | refine nx ?_ | simp only [hK, hF, gy, Ao, lA1, aq, bV, dP, cv, aU])) | with_reducible assumption | ((first | refine lA9 _ (lAd (Cd (f := vi) bM) ?_) | refine lA9 _ (lAd (Cd (f := vb) qc) ?_) | refine lA9 _ (lAd (Cd (f := vb) d7) ?_) | fail); (repeat first | refine nx ?_ | simp only [hK, hF, gy, Ao, lA1, aq, bV, dP, cv, aU])) | (refine JE ?_ (fun hc K' hK => ?_) ?_; rotate_left) | (refine cX ?_ ?_ <;> intro h <;> try exact Ai h) | refine ZF ?_ | ((first | refine xm ?_ | refine xn ?_ | fail); (repeat first | refine nx ?_ | simp only [hK, hF, gy, Ao, lA1, aq, bV, dP, cv, aU])) | (refine xw ?_; (repeat first | refine nx ?_ | simp only [hK, hF, gy, Ao, lA1, aq, bV, dP, cv, aU])) | fail
    ·refine JA (Mw (t := { t with k := t.k.set a true, r := t.r.set a t.l[u] }) hp aU fw ⟨by simp [aq], bV, by simp [dP], cv⟩ (by assumption) ih4) ?_ (lA0 _)
     exact eE
    ·rw [Gm, if_neg (by assumption)] at ih4
     refine JA ih4 ?_ (lA0 _)
     exact eE
  ·have eT : decide ((0 : Int) ≤ Af e a) = false := decide_eq_false h0
   have eR : B1 e.frm a t = { t with k := t.k.set a true } := by
    unfold B1
    rw [efr, if_neg h0]
   rw [eT, lCa, if_neg (by simp), eR] at ih4
   repeat' first | refine st ?_ | (refine EV.reg ?_; (conv => (arg 2; whnf)); (repeat first | refine nx ?_ | simp only [hK, eT, Ao, lA1, aq, bV, dP, cv, aU])) | (refine lA9 _ (lAd (Cd (f := vb) d7) ?_); (repeat first | refine nx ?_ | simp only [hK, eT, Ao, lA1, aq, bV, dP, cv, aU])) | (refine A5.intro (fun hc => ?_) (fun hc => ?_) <;> try simp only [ne_eq, lBj, lBl, not_true_eq_false, not_false_eq_true, reduceCtorEq] at hc <;> try (exfalso; first | exact hc | omega | (simp at hc; done))) | (refine cX ?_ ?_ <;> intro h <;> try exact Ai h) | refine ZF ?_ | ((first | refine xm ?_ | refine xn ?_ | fail); (repeat first | refine nx ?_ | simp only [hK, eT, Ao, lA1, aq, bV, dP, cv, aU])) | (refine xw ?_; (repeat first | refine nx ?_ | simp only [hK, eT, Ao, lA1, aq, bV, dP, cv, aU])) | fail
   ·refine JA (Mw (t := { t with k := t.k.set a true }) hp aU fw ⟨aq, bV, by simp [dP], cv⟩ (by assumption) ih4) ?_ (lA0 _)
    exact eE
   ·rw [Gm, if_neg (by assumption)] at ih4
    refine JA ih4 ?_ (lA0 _)
    exact eE
section
variable {M : Aa}
theorem Jl (p : List Ev) (s : Value) (hs : Sl M 6 Hf s p) (hp : p.length ≤ 16) (e : Exec) (v : Value) (hv : IsX M v e) (bA : e.frm.length = p.length) (bj : ∀ i, i < p.length → Af e i < p.length) :
  Con Tryz.prog 43 #[s, v] M [] fun u M' G' => ∃ rb lb kb, u = .tuple #[Av rb p.length p.length, Av lb p.length p.length, Av kb p.length p.length] ∧ (Bg p e.frm).Len p.length ∧ 
   G' = [(kb, Cl 4 ((Bg p e.frm).k.map vb)), (lb, Cl 3 ((Bg p e.frm).l.map vi)), (rb, Cl 3 ((Bg p e.frm).r.map vi))] := by
 obtain ⟨pa, pc, rfl, aw⟩ := hs
 obtain ⟨f, d, o, n, rfl, ⟨fa, fc, rfl, cK⟩, ⟨da, dc, rfl, aH⟩, ⟨oa, oc, ovs, rfl, bC, bW, bo⟩, ⟨na, nc, rfl, _⟩⟩ := hv
 refine Con.enter Q91_ok (args := [.slice pa p.length pc, .agg #[.slice fa e.frm.length fc, .slice da e.dn.length dc, .slice oa e.ord.length oc, .slice na e.fen.length nc]]) (by simp [Q91]) fun w0 => ?_
 simp only [Q91, A9]
 repeat' first | refine st ?_ | (refine EV.reg ?_; (conv => (arg 2; whnf)); (repeat first | refine nx ?_ | simp only [A6])) | (with_reducible intro b; (repeat first | refine nx ?_ | simp only [A6])) | refine ZF ?_ | fail
 obtain ⟨fb, rfl⟩ : ∃ x, x = b := ⟨_, rfl⟩
 obtain ⟨kb, rfl⟩ : ∃ x, x = b := ⟨_, rfl⟩
 obtain ⟨lb, rfl⟩ : ∃ x, x = b := ⟨_, rfl⟩
 obtain ⟨rb, rfl⟩ : ∃ x, x = b := ⟨_, rfl⟩
 obtain ⟨xb, rfl⟩ : ∃ x, x = b := ⟨_, rfl⟩
 refine EV.frz [(xb, Cl 37 [.slice fa e.frm.length fc, .slice da e.dn.length dc, .slice oa e.ord.length oc, .slice na e.fen.length nc])] ?_
 generalize hR : M.add _ = N
 have aB : M.le N := hR ▸ JB _ _
 have c7 : rd N xb 0 4 [.slice fa e.frm.length fc, .slice da e.dn.length dc, .slice oa e.ord.length oc, .slice na e.fen.length nc] := hR ▸ Ap 0 rfl rfl (by simp)
 clear hR
 have cQ := c7.pt 0 1 (by omega) rfl
 simp only [lBg] at cQ
 have eD := aw.mono aB
 have eG : ∀ b, b < p.length → ∃ fb fo, fa = some ⟨fb, fo, none⟩ ∧ rd N fb (fo + b) 1 [vi (Af e b)] := fun b hb => by
  obtain ⟨fb, fo, e1, hat⟩ := Sl.at (sz := 1) (enc := ei) (fun _ => rfl) (by decide) cK (by omega)
  exact ⟨fb, fo, e1, (C2 hat b (by omega)).mono aB⟩
 have au : ∀ b, b < p.length → ∃ pb po, pa = some ⟨pb, po, none⟩ ∧ rd N pb (po + b * 6) 6 (Hf (evAt p b)) := fun b hb => by
  obtain ⟨pb, po, e1, hat⟩ := Sl.at (sz := 6) (enc := Hf) (fun _ => rfl) (by decide) eD (by omega)
  have := hat b hb
  rw [← D5 hb] at this
  exact ⟨pb, po, e1, this⟩
 clear bW bo cK aw eD aH
 have eg : ∀ m, (Ag (Rr p) m ⟨List.replicate p.length 0, List.replicate p.length 0, List.replicate p.length false, List.replicate p.length false⟩).Len p.length := fun m => He (fun i s h => An5 h) m (An6 _)
 refine JC (fun a : Nat => ([(0, .slice pa p.length pc), (3, pv xb 0), (7, Av rb p.length p.length), (8, Av lb p.length p.length), (9, Av kb p.length p.length), (10, Av fb p.length p.length), (11, vi a)], N, rkG (Ag (Rr p) a ⟨List.replicate p.length 0, List.replicate p.length 0, List.replicate p.length false, List.replicate p.length false⟩) rb lb kb fb)) (fun a => a ≤ p.length) (fun a => p.length - a) 0 rfl (lA8 _) ?env1 ?sub1 ?_
 case env1 =>
  exact eE
 case sub1 =>
  simp only [rkG, Ag, lEc]
  exact lA0 _
 intro a ha ih
 dsimp only at ha ih ⊢
 refine EV.seq ?_
 refine EV.seq ?_
 repeat' first | refine su ?_ | refine rg ?_ | (refine cX ?_ ?_ <;> intro h <;> try exact Ai h) | exact ⟨⟩ | fail
 ·have aU : a < p.length := by omega
  have b0 := eg a
  have ih2 := ih (a + 1) (by omega) (by omega)
  simp only [Ag] at ih2
  generalize Ag (Rr p) a ⟨List.replicate p.length 0, List.replicate p.length 0, List.replicate p.length false, List.replicate p.length false⟩ = s at *
  obtain ⟨pb, po, rfl, fw⟩ := au a aU
  have cW : rd N pb (po + a * 6 + 1) 5 [vi (evAt p a).op.kind, vi (evAt p a).op.loc, vi (evAt p a).op.v, vi (evAt p a).op.w, vi (evAt p a).op.ord] := fw.pt 1 5 (by omega) rfl
  have e1 : Rr p a s = ⟨s.r, if (evAt p a).op.kind = 1 then s.l.set a (evAt p a).op.v else if (evAt p a).op.kind = 3 ∨ (evAt p a).op.kind = 4 then s.l.set a (evAt p a).op.w else s.l, s.k, s.f.set a (!decide ((evAt p a).op.kind = 2))⟩ := by simp [Rr]
  rw [e1] at ih2
  clear e1
  generalize (evAt p a).op = o at *
  have cv := b0.f
  have bV := b0.l
  have kR : a < s.f.length := by omega
  have cG : a < s.l.length := by omega
  repeat' first | refine st ?_ | (refine EV.reg ?_; (conv => (arg 2; whnf)); (repeat first | refine nx ?_ | simp only [Ao, lA1, cv, bV, aU])) | (refine cX ?_ ?_ <;> intro h <;> try exact Ai h) | (with_reducible intro b; (repeat first | refine nx ?_ | simp only [Ao, lA1, cv, bV, aU])) | refine ZF ?_ | ((first | refine xm ?_ | refine xiA rfl ?_ | fail); (repeat first | refine nx ?_ | simp only [Ao, lA1, cv, bV, aU])) | (refine xw ?_; (repeat first | refine nx ?_ | simp only [Ao, lA1, cv, bV, aU])) | fail
  all_goals
   first
    | rw [if_pos (show o.kind = 1 by assumption)] at ih2
    | rw [if_neg (show ¬ o.kind = 1 by assumption), if_pos (show o.kind = 3 ∨ o.kind = 4 by omega)] at ih2
    | rw [if_neg (show ¬ o.kind = 1 by assumption), if_neg (show ¬ (o.kind = 3 ∨ o.kind = 4) by omega)] at ih2
   refine JA ih2 ?_ (lAp _ (lA0 _))
   exact eE
 ·have eA : a = p.length := by omega
  subst eA
  have qd : Ag (Rr p) p.length ⟨List.replicate p.length 0, List.replicate p.length 0, List.replicate p.length false, List.replicate p.length false⟩ = rk0 p := rfl
  have nD : (rk0 p).Len p.length := eg p.length
  rw [qd]
  repeat' first | refine st ?_ | refine rg ?_ | exact ⟨⟩ | fail
  obtain ⟨s0, aK⟩ : ∃ x, x = rk0 p := ⟨_, rfl⟩
  rw [← aK] at nD ⊢
  have fG : ∀ m, (Ag (fun _ s => Jb p e.frm s) m s0).Len p.length := fun m => He (fun i s h => He (fun i s h => R1 h) _ h) m nD
  refine JC (fun r : Nat => ([(0, .slice pa p.length pc), (3, pv xb 0), (7, Av rb p.length p.length), (8, Av lb p.length p.length), (9, Av kb p.length p.length), (10, Av fb p.length p.length), (13, vi r)], N, rkG (Ag (fun _ s => Jb p e.frm s) r s0) rb lb kb fb)) (fun r => r ≤ p.length + 1) (fun r => p.length + 1 - r) 0 rfl (lA8 _) ?env2 (lA0 _) ?_
  case env2 =>
   exact eE
  intro r hr ih
  dsimp only at hr ih ⊢
  refine EV.seq ?_
  refine EV.seq ?_
  repeat' first | refine su ?_ | refine rg ?_ | (refine cX ?_ ?_ <;> intro h <;> try exact Ai h) | exact ⟨⟩ | fail
  ·have be : r ≤ p.length := by omega
   have b0 := fG r
   have ih2 := ih (r + 1) (by omega) (by omega)
   rw [show Ag (fun _ s => Jb p e.frm s) (r + 1) s0 = Jb p e.frm (Ag (fun _ s => Jb p e.frm s) r s0) from rfl] at ih2
   generalize Ag (fun _ s => Jb p e.frm s) r s0 = s at *
   rw [Jb] at ih2
   have iZ : ∀ m, (Ag (C4 p e.frm) m s).Len p.length := fun m => He (fun i s h => R1 h) m b0
   repeat' first | refine st ?_ | refine rg ?_ | exact ⟨⟩ | fail
   refine JC (fun a : Nat => ([(0, .slice pa p.length pc), (3, pv xb 0), (7, Av rb p.length p.length), (8, Av lb p.length p.length), (9, Av kb p.length p.length), (10, Av fb p.length p.length), (13, vi r), (14, vi a)], N, rkG (Ag (C4 p e.frm) a s) rb lb kb fb)) (fun a => a ≤ p.length) (fun a => p.length - a) 0 rfl (lA8 _) ?env3 (lA0 _) ?_
   case env3 =>
    exact eE
   intro a ha ih3
   dsimp only at ha ih3 ⊢
   refine EV.seq ?_
   refine EV.seq ?_
   repeat' first | refine su ?_ | refine rg ?_ | (refine cX ?_ ?_ <;> intro h <;> try exact Ai h) | exact ⟨⟩ | fail
   ·have aU : a < p.length := by omega
    have qf := iZ a
    have ih4 := ih3 (a + 1) (by omega) (by omega)
    simp only [Ag] at ih4
    generalize Ag (C4 p e.frm) a s = t at *
    refine JA (Ta hp aU bA bj cQ eG au qf ih4) ?_ (lA0 _)
    exact eE
   ·have eA : a = p.length := by omega
    subst eA
    refine JA ih2 ?_ (lA0 _)
    exact eE
  ·have hre : r = p.length + 1 := by omega
   subst hre
   have bJ : Ag (fun _ s => Jb p e.frm s) (p.length + 1) s0 = Bg p e.frm := by subst_vars; rfl
   have bV := fG (p.length + 1)
   rw [bJ] at bV ⊢
   repeat' first | refine st ?_ | refine rg ?_ | exact ⟨⟩ | fail
   refine JD (G' := [(kb, Cl 4 ((Bg p e.frm).k.map vb)), (lb, Cl 3 ((Bg p e.frm).l.map vi)), (rb, Cl 3 ((Bg p e.frm).r.map vi))]) (ρ' := [(4, Av rb p.length p.length), (5, Av lb p.length p.length), (6, Av kb p.length p.length)]) ?_ ?env9
   case env9 =>
    exact eE
   (refine rt Q91_ok ?_; try with_reducible exact ⟨⟩)
   exact ⟨_, _, _, rfl, bV, rfl⟩
end
def Tb (p : List Ev) (e : Exec) : Bool := (List.range p.length).all fun a => (Bg p e.frm).K a
section
variable {M : Aa}
theorem Pq (p : List Ev) (s : Value) (hs : Sl M 6 Hf s p) (hp : p.length ≤ 16) (e : Exec) (v : Value) (hv : IsX M v e) (bA : e.frm.length = p.length) (bj : ∀ i, i < p.length → Af e i < p.length) :
  Con Tryz.prog 45 #[s, v] M [] fun u M' _ => (Tb p e = false ∧ u = .tuple #[.slice none 0 0, .slice none 0 0, vb false]) ∨
   (Tb p e = true ∧ ∃ rv lv, u = .tuple #[rv, lv, vb true] ∧ Sl M' 1 ei rv (Bg p e.frm).r ∧ Sl M' 1 ei lv (Bg p e.frm).l) := by
 have aK := hs
 have eP := hv
 obtain ⟨pa, pc, rfl, aw⟩ := hs
 obtain ⟨f, d, o, n, rfl, ⟨fa, fc, rfl, cK⟩, ⟨da, dc, rfl, aH⟩, ⟨oa, oc, ovs, rfl, bC, bW, bo⟩, ⟨na, nc, rfl, _⟩⟩ := hv
 refine Con.enter Q81_ok (args := [.slice pa p.length pc, .agg #[.slice fa e.frm.length fc, .slice da e.dn.length dc, .slice oa e.ord.length oc, .slice na e.fen.length nc]]) (by simp [Q81]) fun w0 => ?_
 simp only [Q81, A9]
 repeat' first | refine st ?_ | refine rg ?_ | ((first | with_reducible intro b | refine xrA rfl ?_ | fail); try refine nx ?_) | exact ⟨⟩ | fail
 refine Con.callS (G1 := []) (Jl p _ aK hp e _ eP bA bj) ?_
 rintro v M1 G1 bw ⟨rb, lb, kb, rfl, aG, rfl⟩
 refine JG [] ?_
 generalize hR : M1.add _ = N
 have aB : M.le N := hR ▸ Aa.le_trans bw (JB _ _)
 have kS : ∀ a, a < p.length → rd N kb a 1 [vb ((Bg p e.frm).K a)] := fun a ha => by
  have h1 : a < (Bg p e.frm).k.length := by rw [aG.k]; exact ha
  have h2 := Cd (M := M1) (G := [(kb, Cl 4 ((Bg p e.frm).k.map vb)), (lb, Cl 3 ((Bg p e.frm).l.map vi)), (rb, Cl 3 ((Bg p e.frm).r.map vi))]) (b := kb) (f := vb) h1
  rw [Rk.K, lA2 h1, lAr]
  rw [← hR]
  exact h2.mono (fun b o h => h.imp id fun h => lD5 _ h)
 have aq := aG.r
 have bV := aG.l
 have dZ : Sl N 1 ei (Av rb p.length p.length) (Bg p e.frm).r := ⟨some ⟨rb, 0, none⟩, p.length, by rw [aq], .inr ⟨rb, 0, rfl, by
  rw [← hR, Ax, aq, lAw]
  exact Ap 2 rfl (by rw [lBr, lAx (by rw [lA1, aq]; exact lA5 _)]) (by rw [lA1, aq]; omega)⟩⟩
 have f9 : Sl N 1 ei (Av lb p.length p.length) (Bg p e.frm).l := ⟨some ⟨lb, 0, none⟩, p.length, by rw [bV], .inr ⟨lb, 0, rfl, by
  rw [← hR, Ax, bV, lAw]
  exact Ap 1 rfl (by rw [lBr, lAx (by rw [lA1, bV]; exact lA5 _)]) (by rw [lA1, bV]; omega)⟩⟩
 clear hR
 repeat' first | refine st ?_ | refine rg ?_ | exact ⟨⟩ | fail
 refine JC (fun a : Nat => ([(0, .slice pa p.length pc), (7, Av rb p.length p.length), (8, Av lb p.length p.length), (9, Av kb p.length p.length), (10, vi a)], N, [])) (fun a => a ≤ p.length ∧ ∀ x, x < a → (Bg p e.frm).K x = true) (fun a => p.length - a) 0 rfl ⟨lA8 _, fun x hx => absurd hx (lBy _)⟩ ?env1 (lAh _) ?_
 case env1 =>
  exact eE
 rintro a ⟨ha, hall⟩ ih
 dsimp only at ha hall ih ⊢
 refine EV.seq ?_
 refine EV.seq ?_
 repeat' first | refine su ?_ | refine rg ?_ | (refine cX ?_ ?_ <;> intro h <;> try exact Ai h) | exact ⟨⟩ | fail
 ·have aU : a < p.length := by omega
  have uJ := kS a aU
  have ih2 := fun h => ih (a + 1) ⟨by omega, h⟩ (by omega)
  generalize hK : (Bg p e.frm).K a = y at *
  repeat' first | refine st ?_ | refine rg ?_ | (refine cX ?_ ?_ <;> intro h <;> try exact Ai h) | refine ZF ?_ | (refine xm ?_; try refine nx ?_) | exact ⟨⟩ | fail
  ·have aP : Tb p e = false := by
    unfold Tb
    rw [lEh]
    exact ⟨a, lAn.2 aU, by rw [hK]; simpa using h⟩
   (refine rt Q81_ok ?_; try with_reducible exact ⟨⟩)
   first | exact .inl aP | exact .inl ⟨aP, rfl⟩ | exact ⟨aP, rfl⟩
  ·have hy : y = true := by simpa using h
   refine JA (ih2 fun x hx => ?_) ?_ (lA0 _)
   ·by_cases e1 : x = a
    ·rw [e1, hK]; exact hy
    ·exact hall x (by omega)
   ·exact eE
 ·have bX : Tb p e = true := by
   unfold Tb
   rw [lB0]
   intro x hx
   exact hall x (by have := lAn.1 hx; omega)
  repeat' first | refine st ?_ | refine rg ?_ | exact ⟨⟩ | fail
  (refine rt Q81_ok ?_; try with_reducible exact ⟨⟩)
  exact .inr ⟨bX, _, _, rfl, dZ, f9⟩
theorem U5 (p : List Ev) (s : Value) (hs : Sl M 6 Hf s p) (hp : p.length ≤ 16) (e : Exec) (v : Value) (hv : IsX M v e) (bF : e.dn.length = p.length) (rv kv : Value) (gK : Sl M 1 ei rv (Bg p e.frm).r) (hP : Sl M 1 eb kv (Bg p e.frm).k) (aG : (Bg p e.frm).Len p.length) :
  As Tryz.prog 44 #[s, v, rv, kv] M (vb ((List.range p.length).all (Jc p e))) := by
 obtain ⟨pa, pc, rfl, aw⟩ := hs
 obtain ⟨ra, rc, rfl, dZ⟩ := gK
 obtain ⟨ka, kc, rfl, kS⟩ := hP
 obtain ⟨f, d, o, n, rfl, ⟨fa, fc, rfl, cK⟩, ⟨da, dc, rfl, aH⟩, ⟨oa, oc, ovs, rfl, bC, bW, bo⟩, ⟨na, nc, rfl, _⟩⟩ := hv
 rw [aG.r] at dZ
 rw [aG.k] at kS
 refine Con.enter Q96_ok (args := [.slice pa p.length pc, .agg #[.slice fa e.frm.length fc, .slice da e.dn.length dc, .slice oa e.ord.length oc, .slice na e.fen.length nc], .slice ra (Bg p e.frm).r.length rc, .slice ka (Bg p e.frm).k.length kc]) (by simp [Q96]) fun w0 => ?_
 simp only [Q96, A9]
 rw [aG.r, aG.k]
 repeat' first | refine st ?_ | refine rg ?_ | (with_reducible intro b; try refine nx ?_) | exact ⟨⟩ | fail
 obtain ⟨xb, rfl⟩ : ∃ x, x = b := ⟨_, rfl⟩
 refine EV.frz [(xb, Cl 37 [.slice fa e.frm.length fc, .slice da e.dn.length dc, .slice oa e.ord.length oc, .slice na e.fen.length nc])] ?_
 generalize hR : M.add _ = N
 have aB : M.le N := hR ▸ JB _ _
 have c7 : rd N xb 0 4 [.slice fa e.frm.length fc, .slice da e.dn.length dc, .slice oa e.ord.length oc, .slice na e.fen.length nc] := hR ▸ Ap 0 rfl rfl (by simp)
 clear hR
 have bP := c7.pt 1 1 (by omega) rfl
 simp only [lBg] at bP
 refine JC (fun a : Nat => ([(0, .slice pa p.length pc), (2, .slice ra p.length rc), (3, .slice ka p.length kc), (5, pv xb 0), (8, vb false), (9, vi a)], N, [])) (fun a => a ≤ p.length ∧ ∀ x, x < a → Jc p e x = true) (fun a => p.length - a) 0 rfl ⟨lA8 _, fun x hx => absurd hx (lBy _)⟩ ?env1 (lAh _) ?_
 case env1 =>
  exact eE
 rintro a ⟨ha, hall⟩ ih
 dsimp only at ha hall ih ⊢
 refine EV.seq ?_
 refine EV.seq ?_
 repeat' first | refine su ?_ | refine rg ?_ | (refine cX ?_ ?_ <;> intro h <;> try exact Ai h) | exact ⟨⟩ | fail
 ·have aU : a < p.length := by omega
  have ih2 := fun h => ih (a + 1) ⟨by omega, h⟩ (by omega)
  have aP : Jc p e a = false → (List.range p.length).all (Jc p e) = false := fun h => lEh.2 ⟨a, lAn.2 aU, by rw [h]; decide⟩
  have dN : Jc p e a = true → ∀ x, x < a + 1 → Jc p e x = true := fun h x hx => by
   by_cases e1 : x = a
   ·rw [e1]; exact h
   ·exact hall x (by omega)
  have qg : rdS N 1 ra (Bg p e.frm).r.length ((Bg p e.frm).r.flatMap ei) := by rw [aG.r]; exact dZ.mono aB
  have qh : rdS N 1 ka (Bg p e.frm).k.length ((Bg p e.frm).k.flatMap eb) := by rw [aG.k]; exact kS.mono aB
  obtain ⟨pb, po, rfl, jB⟩ := Sl.at (sz := 6) (enc := Hf) (fun _ => rfl) (by decide) (aw.mono aB) (by omega)
  obtain ⟨rb, ro, rfl, qi⟩ := Sl.at (sz := 1) (enc := ei) (fun _ => rfl) (by decide) qg (by rw [aG.r]; omega)
  obtain ⟨kb, ko, rfl, qj⟩ := Sl.at (sz := 1) (enc := eb) (fun _ => rfl) (by decide) qh (by rw [aG.k]; omega)
  obtain ⟨db, dof, rfl, jC⟩ := Sl.at (sz := 1) (enc := eb) (fun _ => rfl) (by decide) (aH.mono aB) (by omega)
  have fw := jB a aU
  rw [← D5 aU] at fw
  have cW : rd N pb (po + a * 6 + 1) 5 [vi (evAt p a).op.kind, vi (evAt p a).op.loc, vi (evAt p a).op.v, vi (evAt p a).op.w, vi (evAt p a).op.ord] := fw.pt 1 5 (by omega) rfl
  have lL : rd N rb (ro + a) 1 [vi ((Bg p e.frm).R a)] := by
   have h1 : a < (Bg p e.frm).r.length := by rw [aG.r]; exact aU
   have := qi a h1
   rw [lAw] at this
   rw [Rk.R, lA2 h1]; exact this
  have uJ : rd N kb (ko + a) 1 [vb ((Bg p e.frm).K a)] := by
   have h1 : a < (Bg p e.frm).k.length := by rw [aG.k]; exact aU
   have := qj a h1
   rw [lAw] at this
   rw [Rk.K, lA2 h1]; exact this
  have jD : rd N db (dof + a) 1 [vb (Ci e.dn a)] := by
   have := jC a (by omega)
   rw [lAw] at this
   rw [Ci, lA2 (by omega)]; exact this
  have ii : Jc p e a = (!(Bg p e.frm).K a || !((decide ((evAt p a).op.kind = 3) && (Ci e.dn a != decide ((Bg p e.frm).R a = (evAt p a).op.v))) || (decide ((evAt p a).op.kind = 4) && Ci e.dn a && decide ((Bg p e.frm).R a ≠ (evAt p a).op.v)))) := rfl
  rw [ii] at aP dN
  generalize (evAt p a).op = o at *
  generalize (Bg p e.frm).R a = R at *
  generalize (Bg p e.frm).K a = K at *
  generalize Ci e.dn a = D at *
  refine EV.seq ?_
  refine EV.block ?_
  repeat' first | refine st ?_ | refine rg ?_ | (refine cX ?_ ?_ <;> intro h <;> try exact Ai h) | (with_reducible intro b; try refine nx ?_) | refine ZF ?_ | (refine xm ?_; try refine nx ?_) | (refine xw ?_; refine nx ?_) | exact ⟨⟩ | fail
  ·refine JA (ih2 (dN (by simp_all))) ?_ (lAh _)
   exact eE
  ·have uK : K = true := by simpa using h
   subst uK
   refine EV.any (t := Bn8) [(b, Cl 83 [vi o.kind, vi o.loc, vi o.v, vi o.w, vi o.ord])] (lA0 _) ?_
   simp only [An, Aq, Al, Au, reduceIte, Nat.reduceEqDiff]
   repeat' first | ((refine ZE ?_ (fun lq aD hc => ?_) (fun lq aD => ?_); rotate_left) <;> (try (exfalso; simp at hc; done)) <;> try refine nz ?_) | ((first | refine zo (fun lq aD => ?_) | refine zl ?_ | fail); try refine nz ?_) | refine zf ?_ | with_reducible rfl | refine ZF ?_ | ((first | refine xm ?_ | refine xn ?_ | refine xiA rfl ?_ | fail); try refine nz ?_) | exact ⟨⟩ | fail
   have uL : (decide (o.kind = 3) && (D != decide (R = o.v)) || decide (o.kind = 4) && D && decide (R ≠ o.v)) = (decide (o.kind = 3) && !(D == decide (R = o.v)) || decide (o.kind = 4) && D && !decide (R = o.v)) := by
    simp [bne]
   rw [uL] at aP dN
   generalize (decide (o.kind = 3) && !(D == decide (R = o.v)) || decide (o.kind = 4) && D && !decide (R = o.v)) = Y at *
   repeat' first | refine st ?_ | refine rg ?_ | (refine cX ?_ ?_ <;> intro h <;> try exact Ai h) | exact ⟨⟩ | fail
   ·(refine rt Q96_ok ?_; try with_reducible exact ⟨⟩)
    rw [aP (by rw [h]; rfl)]
   ·refine JA (ih2 (dN (by rw [h]; rfl))) ?_ (lAh _)
    exact eE
 ·have : (List.range p.length).all (Jc p e) = true := lB0.2 fun x hx => hall x (by have := lAn.1 hx; omega)
  repeat' first | refine st ?_ | refine rg ?_ | exact ⟨⟩ | fail
  (refine rt Q96_ok ?_; try with_reducible exact ⟨⟩)
  rw [this]
end
end Go.EV

namespace Go.EV
open Go.Proofs
def marks (L : List Int) : List Bool := (List.range 16).map fun (i : Nat) => decide ((i : Int) ∈ L)
theorem Iu (L : List Int) : (marks L).length = 16 := by simp [marks]
theorem Tc {L : List Int} {u : Nat} (h : u < (marks L).length) : (marks L)[u] = decide ((u : Int) ∈ L) := by simp [marks]
theorem Ai1 {L : List Int} {u : Nat} (hu : u < 16) : (marks L).set u true = marks (L ++ [(u : Int)]) := by
 apply lE8
 ·simp [marks]
 ·intro i h1 h2
  rw [List.getElem_set, Tc, Tc]
  by_cases hi : u = i
  ·subst hi; simp
  ·rw [if_neg hi]
   have : ¬ ((i : Int) = (u : Int)) := by omega
   simp [this]
theorem Ai2 : marks [] = List.replicate 16 false := by decide
theorem Pr {l : List Int} {i : Nat} (hi : i < l.length) : l.take (i + 1) = l.take i ++ [Ae l i] := by
 rw [lA7 hi, Ae, lA2 hi]; rfl
end Go.EV

namespace Go.EV
open Go.Proofs
section
variable {P : Program}
def Bc9 {α : Type} (P : Program) (g : FuncId) (first caps : Array Value) (M : Aa) (L : List α) (El : α → Value → Aa → Prop) : Prop :=
 ∀ (l : Nat) (I : Nat → Aa → Own → Prop) (S : Aa → Own → Prop) (M1 : Aa) (G : Own), M.le M1 →
  (∀ i (h : i < L.length), ∀ M2 G2 v, M1.le M2 → I i M2 G2 → El L[i] v M2 → N7 P l #[v] M2 G2 fun b M3 G3 => (b = .bool true ∧ I (i + 1) M3 G3) ∨ (b = .bool false ∧ S M3 G3)) →
  I 0 M1 G → Con P g (first ++ #[yv l] ++ caps) M1 G fun _ M' G' => I L.length M' G' ∨ S M' G'
theorem Bc9.mono {α : Type} {g : FuncId} {first caps : Array Value} {M M' : Aa} {L : List α} {El : α → Value → Aa → Prop} (h : Bc9 P g first caps M L El) (hM : M.le M') : Bc9 P g first caps M' L El :=
 fun l I S M1 G a8 => h l I S M1 G (Aa.le_trans hM a8)
variable {α : Type} {C : Cx P} {V : List Nat} {k : List RItem} {ρ : Env} {M : Aa} {G : Own} {f : A} {ps : List Nat} {asg bd : RCode} {fv : Value} {g : FuncId} {first caps : Array Value}
end
section
variable {M : Aa}
end
variable {P : Program}
end Go.EV

namespace Go.Proofs
open Go.Shelf Go.RowKit Go.Lib Go.Sort
def Tryz.sortInts_ren : Go.Shelf.Ren := ⟨fun | 53 => 167 | 64 => 126 | 63 => 173 | 78 => 150 | 79 => 151 | 70 => 176 | 71 => 177 | 72 => 178 | 73 => 179 | 74 => 180 | 75 => 181 | 59 => 182 | 76 => 183 | 77 => 184 | 88 => 186 | 89 => 161 | 90 => 162 | 91 => 187 | 92 => 188 | 68 => 152 | 96 => 189 | n => n, fun | 22 => 34 | 23 => 3 | 3 => 3 | 51 => 67 | 0 => 0 | 67 => 144 | 69 => 175 | 4 => 4 | 61 => 167 | 60 => 166 | 44 => 171 | 5 => 5 | 9 => 9 | 75 => 181 | 79 => 185 | 83 => 188 | 84 => 189 | n => n, fun | n => n⟩
theorem Tryz.sortInts : Go.Proofs.SlLaysN.n53 Tryz.prog Tryz.sortInts_ren := {
 mixed := by kernel_rfl
 f53 := ⟨Tryz.f167.name, by decide, Tryz.func167.trans (congrArg some (by kernel_rfl))⟩
 f59 := ⟨Tryz.f182.name, by decide, Tryz.func182.trans (congrArg some (by kernel_rfl))⟩
 f63 := ⟨Tryz.f173.name, by decide, Tryz.func173.trans (congrArg some (by kernel_rfl))⟩
 f64 := Tryz.func126.trans (congrArg some (by kernel_rfl))
 f68 := ⟨Tryz.f152.name, by decide, Tryz.func152.trans (congrArg some (by kernel_rfl))⟩
 f70 := ⟨Tryz.f176.name, by decide, Tryz.func176.trans (congrArg some (by kernel_rfl))⟩
 f71 := ⟨Tryz.f177.name, by decide, Tryz.func177.trans (congrArg some (by kernel_rfl))⟩
 f72 := ⟨Tryz.f178.name, by decide, Tryz.func178.trans (congrArg some (by kernel_rfl))⟩
 f73 := ⟨Tryz.f179.name, by decide, Tryz.func179.trans (congrArg some (by kernel_rfl))⟩
 f74 := ⟨Tryz.f180.name, by decide, Tryz.func180.trans (congrArg some (by kernel_rfl))⟩
 f75 := ⟨Tryz.f181.name, by decide, Tryz.func181.trans (congrArg some (by kernel_rfl))⟩
 f76 := ⟨Tryz.f183.name, by decide, Tryz.func183.trans (congrArg some (by kernel_rfl))⟩
 f77 := ⟨Tryz.f184.name, by decide, Tryz.func184.trans (congrArg some (by kernel_rfl))⟩
 f78 := Tryz.func150.trans (congrArg some (by kernel_rfl))
 f79 := Tryz.func151.trans (congrArg some (by kernel_rfl))
 f88 := ⟨Tryz.f186.name, by decide, Tryz.func186.trans (congrArg some (by kernel_rfl))⟩
 f89 := Tryz.func161.trans (congrArg some (by kernel_rfl))
 f90 := Tryz.func162.trans (congrArg some (by kernel_rfl))
 f91 := ⟨Tryz.f187.name, by decide, Tryz.func187.trans (congrArg some (by kernel_rfl))⟩
 f92 := ⟨Tryz.f188.name, by decide, Tryz.func188.trans (congrArg some (by kernel_rfl))⟩
 f96 := ⟨Tryz.f189.name, by decide, Tryz.func189.trans (congrArg some (by kernel_rfl))⟩
 t0 := Tryz.underlying0
 a0 := Tryz.isAgg0
 z0 := Tryz.sizeOf0
 v0 := Tryz.zeroValue0
 t3 := Tryz.underlying3
 a3 := Tryz.isAgg3
 z3 := Tryz.sizeOf3
 v3 := Tryz.zeroValue3
 t4 := Tryz.underlying4
 a4 := Tryz.isAgg4
 z4 := Tryz.sizeOf4
 v4 := Tryz.zeroValue4
 t5 := Tryz.underlying5
 a5 := Tryz.isAgg5
 z5 := Tryz.sizeOf5
 v5 := Tryz.zeroValue5
 t9 := Tryz.underlying9
 a9 := Tryz.isAgg9
 z9 := Tryz.sizeOf9
 v9 := Tryz.zeroValue9
 t22 := Tryz.underlying34
 a22 := Tryz.isAgg34
 z22 := Tryz.sizeOf34
 v22 := Tryz.zeroValue34
 t23 := Tryz.underlying3
 a23 := Tryz.isAgg3
 z23 := Tryz.sizeOf3
 v23 := Tryz.zeroValue3
 t44 := Tryz.underlying171
 a44 := Tryz.isAgg171
 z44 := Tryz.sizeOf171
 v44 := Tryz.zeroValue171
 t51 := Tryz.underlying67
 a51 := Tryz.isAgg67
 z51 := Tryz.sizeOf67
 v51 := Tryz.zeroValue67
 t60 := Tryz.underlying166
 a60 := Tryz.isAgg166
 z60 := Tryz.sizeOf166
 v60 := Tryz.zeroValue166
 t61 := Tryz.underlying167
 a61 := Tryz.isAgg167
 z61 := Tryz.sizeOf167
 v61 := Tryz.zeroValue167
 t67 := Tryz.underlying144
 a67 := Tryz.isAgg144
 z67 := Tryz.sizeOf144
 v67 := Tryz.zeroValue144
 t69 := Tryz.underlying175
 a69 := Tryz.isAgg175
 z69 := Tryz.sizeOf175
 v69 := Tryz.zeroValue175
 t75 := Tryz.underlying181
 a75 := Tryz.isAgg181
 z75 := Tryz.sizeOf181
 v75 := Tryz.zeroValue181
 t79 := Tryz.underlying185
 a79 := Tryz.isAgg185
 z79 := Tryz.sizeOf185
 v79 := Tryz.zeroValue185
 t83 := Tryz.underlying188
 a83 := Tryz.isAgg188
 z83 := Tryz.sizeOf188
 v83 := Tryz.zeroValue188
 t84 := Tryz.underlying189
 a84 := Tryz.isAgg189
 z84 := Tryz.sizeOf189
 v84 := Tryz.zeroValue189 }
end Go.Proofs
namespace Go.EV
open Go.Proofs
section
variable {M : Aa}
end
end Go.EV

namespace Go.EV
open Go.Proofs
section
variable {M : Aa}
open Classical in
open Classical in
open Classical in
end

section
variable {M : Aa}
end
section
variable {M : Aa}
end
section
variable {M : Aa}
open Classical in
end
section
variable {M : Aa}
end
def Fe9 (xs : List Int) : Value → Aa → Own → Prop := fun u _ G' => ∃ ov : Vec, Eo 1 ov xs.length (xs.map vi) ∧ u = osv ov xs.length ∧ G' = osg 3 ov (xs.map vi)
def rkW (p : List Ev) (e : Exec) : Wd := { r := (Bg p e.frm).r, w := (Bg p e.frm).l, k := [], t := [] }
theorem Jm {p : List Ev} {V W : Wd} (h : ∀ i, i < p.length → V.r[i]?.getD 0 = W.r[i]?.getD 0) : ∀ n, n ≤ p.length → A8 p V n = A8 p W n
 | 0, _ => rfl
 | n + 1, hn => by rw [A8, A8, Jm h n (by omega), h n (by omega)]
theorem Zh {p : List Ev} {e : Exec} (hs : Shape p e) (al : Tz p e) : A8 p (rkW p e) p.length ++ e.ord.map (Bm (rkW p e)) = Ar p e := by
 have hw := Am8 hs al
 rw [Ar]
 congr 1
 ·exact Jm (V := rkW p e) (W := Aw p e.frm) (fun i hi => (hw i hi).1) _ (lA5 _)
 ·refine lEq fun l hl => ?_
  obtain ⟨k, hk, rfl⟩ := lBf hl
  have hp := hs.ord k (by rw [← hs.ol]; exact hk)
  rw [lA2 hk, lAr] at hp
  unfold Bm
  split
  ·rfl
  ·rename_i h0
   have hm : Ae e.ord[k] (e.ord[k].length - 1) ∈ e.ord[k] := by
    rw [Ae, lA2 (by omega)]; exact lAm _
   obtain ⟨i, e1, e2, _, e4, _⟩ := Bc.1 (hp.mem_iff.1 hm)
   have h1 := hs.dn0 i e2 e4
   rw [e1, lB2]
   exact (hw i e2).2 h1.1 h1.2
section
variable {M : Aa}
theorem Td (ts : List (List OpV)) (s : Value) (hs : Ee M 5 Bb s ts) (aM : A2 ts = 0) (e : Exec) (v : Value) (hv : IsX M v e) (cP : Shape (Ad ts) e) (al : Tz (Ad ts) e) :
  Con Tryz.prog 21 #[.agg #[s], v] M [] (Fe9 (Ar (Ad ts) e)) := by
 have aK := hs
 have eP := hv
 have cZ := Ck aM
 have hp := Ho aM
 have hm := Ks ts
 have gz := Kr aM
 obtain ⟨a, c, vs, rfl, hl, aH, hk⟩ := hs
 obtain ⟨f, d, o, n, rfl, ⟨fa, fc, rfl, _⟩, ⟨da, dc, rfl, _⟩, ⟨oa, oc, ovs, rfl, bC, bW, bo⟩, ⟨na, nc, rfl, _⟩⟩ := hv
 have g8 := cP.ol
 obtain ⟨ob, oo, rfl, bU⟩ := D4.at bW bC bo (by omega)
 refine Con.enter Q74_ok (args := [.agg #[.slice a ts.length c], .agg #[.slice fa e.frm.length fc, .slice da e.dn.length dc, .slice (some ⟨ob, oo, none⟩) e.ord.length oc, .slice na e.fen.length nc]]) (by simp [Q74]) fun w0 => ?_
 simp only [Q74, A9]
 repeat' first | refine st ?_ | refine rg ?_ | ((first | with_reducible intro b | refine xrA rfl ?_ | fail); try refine nx ?_) | exact ⟨⟩ | fail
 obtain ⟨xb, rfl⟩ : ∃ x, x = b := ⟨_, rfl⟩
 refine Con.callS (G1 := []) (Mt ts _ aK aM) ?_
 rintro v M1 G1 bw f7
 have kz := f7
 obtain ⟨pa, pc, rfl, aw⟩ := f7
 have hx := cP.xok (.inr trivial)
 have aa := Zh cP al
 have fQ : Tb (Ad ts) e = true := by
  unfold Tb
  rw [lB0]
  intro a ha
  have ha := lAn.1 ha
  cases hr : (evAt (Ad ts) a).reads with
  | false => exact Aq9 cP.fromOk cP.srcOk cP.outLt ha hr
  | true => exact (Cw4 cP.fromOk cP.srcOk cP.outLt ha hr).1.2 ⟨_, Rq cP al ha hr⟩
 have aG : (Bg (Ad ts) e.frm).Len (Ad ts).length := (rkAll_ok cP.fromOk cP.srcOk cP.outLt _).len
 generalize Ad ts = p at *
 refine JG [] ?_
 generalize hR : M1.add _ = N
 have aB : M1.le N := hR ▸ JB _ _
 have c7 : rd N xb 0 4 [.slice fa e.frm.length fc, .slice da e.dn.length dc, .slice (some ⟨ob, oo, none⟩) e.ord.length oc, .slice na e.fen.length nc] := hR ▸ B3 (T := 37) (cs := [.slice fa e.frm.length fc, .slice da e.dn.length dc, .slice (some ⟨ob, oo, none⟩) e.ord.length oc, .slice na e.fen.length nc]) (by simp) rfl (by simp)
 clear hR
 replace kz := kz.mono aB
 replace eP := IsX.mono (Aa.le_trans bw aB) eP
 replace aw := aw.mono aB
 have eH : ∀ k (hk : k < e.ord.length), ∃ a' c', rd N ob (oo + k) 1 [.slice a' e.ord[k].length c'] ∧ rdS N 1 a' e.ord[k].length (e.ord[k].flatMap ei) := fun k hk => by
  obtain ⟨a', c', h1, _, h2⟩ := bU k hk
  rw [lAw] at h1
  exact ⟨a', c', h1.mono (Aa.le_trans bw aB), h2.mono (Aa.le_trans bw aB)⟩
 clear aK aH hk bU bW bo
 repeat' first | refine st ?_ | refine rg ?_ | (refine xm ?_; try refine nx ?_) | exact ⟨⟩ | fail
 refine Con.callS (G1 := []) (Pq p _ kz (by omega) e _ eP cP.fl fun i hi => (hx.fr i hi).1) ?_
 rintro v M2 G2 bZ (⟨aP, rfl⟩ | ⟨_, rv, lv, rfl, gK, bB⟩)
 ·rw [fQ] at aP; cases aP
 refine JG [] ?_
 generalize hR : M2.add _ = N2
 have fC : N.le N2 := hR ▸ Aa.le_trans bZ (JB _ _)
 have qk : Sl N2 1 ei rv (rkW p e).r := gK.mono (hR ▸ JB _ _)
 have qm : Sl N2 1 ei lv (rkW p e).w := bB.mono (hR ▸ JB _ _)
 clear hR
 replace c7 := c7.mono fC
 have bi := c7.pt 2 1 (by omega) rfl
 simp only [lBg] at bi
 replace aw := aw.mono fC
 have eH : ∀ k (hk : k < e.ord.length), ∃ a' c', rd N2 ob (oo + k) 1 [.slice a' e.ord[k].length c'] ∧ rdS N2 1 a' e.ord[k].length (e.ord[k].flatMap ei) := fun k hk => by
  obtain ⟨a', c', h1, h2⟩ := eH k hk
  exact ⟨a', c', h1.mono fC, h2.mono fC⟩
 rw [← aa]
 have e8 : (rkW p e).r.length = p.length := aG.r
 have cF : (rkW p e).w.length = p.length := aG.l
 generalize rkW p e = W at *
 obtain ⟨ra, rc, rfl, dZ⟩ := qk
 obtain ⟨wa, wc, rfl, fJ⟩ := qm
 clear gK bB bZ aB bw
 repeat' first | refine st ?_ | refine rg ?_ | exact ⟨⟩ | fail
 refine JC (fun x : Nat × Vec => ([(3, pv xb 0), (5, .slice pa p.length pc), (6, .slice ra W.r.length rc), (7, .slice wa W.w.length wc), (9, osv x.2 (A8 p W x.1).length), (10, vi x.1)], N2, osg 3 x.2 ((A8 p W x.1).map vi)))
  (fun x => x.1 ≤ p.length ∧ Eo 1 x.2 (A8 p W x.1).length ((A8 p W x.1).map vi)) (fun x => p.length - x.1) (0, none) rfl ⟨lA8 _, rfl, rfl⟩ ?env1 (by simp [osg]) ?_
 case env1 =>
  exact eE
 rintro ⟨i, ov⟩ ⟨hi, aL⟩ ih
 dsimp only at hi aL ih ⊢
 refine EV.seq ?_
 refine EV.seq ?_
 repeat' first | refine su ?_ | refine rg ?_ | (refine cX ?_ ?_ <;> intro h <;> try exact Ai h) | exact ⟨⟩ | fail
 ·have aC : i < p.length := by omega
  obtain ⟨pb, po, rfl, hat⟩ := Sl.at (enc := Hf) (fun _ => rfl) (by decide) aw (by omega)
  obtain ⟨rb, ro, rfl, fi⟩ := Sl.at (sz := 1) (enc := ei) (fun _ => rfl) (by decide) dZ (by omega)
  have i8 := hat i aC
  rw [← D5 aC] at i8
  have cW : rd N2 pb (po + i * 6 + 1) 5 [vi (evAt p i).op.kind, vi (evAt p i).op.loc, vi (evAt p i).op.v, vi (evAt p i).op.w, vi (evAt p i).op.ord] := i8.pt 1 5 (by omega) rfl
  have gZ : rd N2 rb (ro + i) 1 [vi (W.r[i]?.getD 0)] := C2 fi i (by omega)
  have r6 : (i : Int) < W.r.length := by omega
  have kB := Cf p W i
  have bE : A8 p W (i + 1) = A8 p W i ++ if (evAt p i).reads then [W.r[i]?.getD 0] else [] := rfl
  have gB := fun G => Jx (M := N2.add G) (evAt p i).op
  rw [Fr (gz i aC)] at gB
  repeat' first | refine st ?_ | refine rg ?_ | (refine As.call (gB _) ?_; try refine nx ?_) | (refine cX ?_ ?_ <;> intro h <;> try exact Ai h) | (with_reducible intro b; try refine nx ?_) | refine ZF ?_ | (refine xm ?_; try refine nx ?_) | exact ⟨⟩ | fail
  ·rw [if_pos (by assumption)] at bE
   refine ⟨[vi (W.r[i]?.getD 0)], Or.inr ⟨b, 0, rfl, Ap 0 rfl rfl (by simp)⟩, by simp [Bp, Cb, Value.oneCell'], Or.inl ⟨ov, _, rfl, _, aL, _, PullL.p, ?_, ?_, ?_⟩⟩
   ·simp only [maxLen]; omega
   ·omega
   intro o2 an _
   (refine nx ?_; try with_reducible exact ⟨⟩)
   repeat' first | refine su ?_ | refine rg ?_ | exact ⟨⟩ | fail
   have ih3 := ih (i + 1, o2) ⟨by dsimp only; omega, by rw [bE, lA4, lAu]; exact an⟩ (by dsimp only; omega)
   dsimp only at ih3
   rw [bE, lA4, lAu, show List.map vi [W.r[i]?.getD 0] = [vi (W.r[i]?.getD 0)] from rfl] at ih3
   refine JD ih3 ?_
   exact eE
  ·rw [if_neg (by simp_all), lAa] at bE
   have ih3 := ih (i + 1, ov) ⟨by dsimp only; omega, by rw [bE]; exact aL⟩ (by dsimp only; omega)
   dsimp only at ih3
   rw [bE] at ih3
   refine JD ih3 ?_
   exact eE
 ·have bO : i = p.length := by omega
  subst bO
  clear ih
  repeat' first | refine st ?_ | refine rg ?_ | exact ⟨⟩ | fail
  have pY := Cf p W p.length
  generalize hR : A8 p W p.length = R at *
  refine JC (fun x : Nat × Vec => ([(3, pv xb 0), (7, .slice wa W.w.length wc), (9, osv x.2 (R ++ (e.ord.take x.1).map (Bm W)).length), (11, vi x.1)], N2, osg 3 x.2 ((R ++ (e.ord.take x.1).map (Bm W)).map vi)))
   (fun x => x.1 ≤ e.ord.length ∧ Eo 1 x.2 (R ++ (e.ord.take x.1).map (Bm W)).length ((R ++ (e.ord.take x.1).map (Bm W)).map vi)) (fun x => e.ord.length - x.1) (0, ov) rfl ⟨lA8 _, by simpa using aL⟩ ?env2 (by simp) ?_
  case env2 =>
   simp only [lDc, lFj, lAa]
   exact eE
  rintro ⟨k, o1⟩ ⟨hk, bQ⟩ ih
  dsimp only at hk bQ ih ⊢
  refine EV.seq ?_
  refine EV.seq ?_
  repeat' first | refine su ?_ | refine rg ?_ | (refine cX ?_ ?_ <;> intro h <;> try exact Ai h) | exact ⟨⟩ | fail
  ·have ak : k < e.ord.length := by omega
   obtain ⟨la, lc, aR, aW⟩ := eH k ak
   obtain ⟨hin, kB⟩ := hx.oin _ (lAm ak)
   have lK : R ++ (e.ord.take (k + 1)).map (Bm W) = (R ++ (e.ord.take k).map (Bm W)) ++ [Bm W e.ord[k]] := by
    rw [lA7 ak, lAu, lAc]; rfl
   have ah : (R ++ (e.ord.take k).map (Bm W)).length ≤ 35 := by simp; omega
   have ih3 := fun o2 h => ih (k + 1, o2) ⟨by dsimp only; omega, h⟩ (by dsimp only; omega)
   dsimp only at ih3
   rw [lK, lA4, lAu] at ih3
   have hlo : Bm W e.ord[k] = if e.ord[k].length = 0 then 0 else W.w[(Ae e.ord[k] (e.ord[k].length - 1)).toNat]?.getD 0 := rfl
   generalize R ++ (e.ord.take k).map (Bm W) = Q at *
   generalize e.ord[k] = l at *
   clear ih
   refine EV.seq ?_
   refine EV.block ?_
   refine EV.seq ?_
   repeat' first | refine rg ?_ | exact ⟨⟩ | fail
   refine EV.seq (JH (fun ρ' M' G' => M' = N2 ∧ (∀ q ∈ [(3, pv xb 0), (7, .slice wa W.w.length wc), (9, osv o1 Q.length), (11, vi k), (12, vi (Bm W l))], get ρ' q.1 = some q.2) ∧
    G' = osg 3 o1 (Q.map vi)) ?_ ?_)
   ·intro k' key
    clear ih3
    rw [hlo] at key
    by_cases eg : l.length = 0
    ·rw [if_pos eg] at key
     repeat' first | refine st ?_ | refine rg ?_ | (refine cX ?_ ?_ <;> intro h <;> try exact Ai h) | refine ZF ?_ | (refine xn ?_; try refine nx ?_) | exact ⟨⟩ | fail
     refine JI (key _ _ _ ⟨rfl, ?_, rfl⟩)
     exact eE
    ·rw [if_neg eg] at key
     obtain ⟨lb, lo, rfl, bG⟩ := Sl.at (sz := 1) (enc := ei) (fun _ => rfl) (by decide) aW (by omega)
     have bV := C2 bG (l.length - 1) (by omega)
     have pZ := Er hin (k := l.length - 1) (by omega)
     have gY : 0 < p.length := by omega
     obtain ⟨wb, wo, rfl, gp⟩ := Sl.at (sz := 1) (enc := ei) (fun _ => rfl) (by decide) fJ (by omega)
     have fI := C2 gp (Ae l (l.length - 1)).toNat (by omega)
     simp only [Ae] at fI
     change rd N2 wb _ 1 [vi (W.w[(Ae l (l.length - 1)).toNat]?.getD 0)] at fI
     have rW : Ae l (l.length - 1) < (W.w.length : Int) := by omega
     have aT : IntKind.i64.wrap ((l.length : Int) - 1) = ((l.length - 1 : Nat) : Int) := (w64 (by omega) (by omega)).trans (by omega)
     have dD : (((l.length - 1 : Nat) : Int)) < (l.length : Int) := by omega
     clear bG gp
     repeat' first | refine st ?_ | (refine EV.reg ?_; (conv => (arg 2; whnf)); (repeat first | refine nx ?_ | simp only [aT])) | (refine cX ?_ ?_ <;> intro h <;> try exact Ai h) | refine ZF ?_ | ((first | refine xm ?_ | refine xn ?_ | fail); (repeat first | refine nx ?_ | simp only [aT])) | fail
     refine JI (key _ _ _ ⟨rfl, ?_, rfl⟩)
     exact eE
   rintro ρ2 M2 G2 ⟨e0, hq, e2⟩
   rw [e0, e2]
   clear e0 e2
   refine JA ?_ hq (lA0 _)
   clear hq hlo
   generalize Bm W l = lw at *
   repeat' first | refine rg ?_ | (with_reducible intro b; try refine nx ?_) | exact ⟨⟩ | fail
   refine ⟨[vi lw], Or.inr ⟨b, 0, rfl, Ap 0 rfl rfl (by simp)⟩, by simp [Bp, Cb, Value.oneCell'], Or.inl ⟨o1, _, rfl, _, bQ, _, PullL.p, ?_, ?_, ?_⟩⟩
   ·simp only [maxLen]; omega
   ·omega
   intro o2 an _
   (refine nx ?_; try with_reducible exact ⟨⟩)
   repeat' first | refine su ?_ | refine rg ?_ | exact ⟨⟩ | fail
   have ih4 := ih3 o2 an
   rw [show List.map vi [lw] = [vi lw] from rfl] at ih4
   refine JD ih4 ?_
   exact eE
  ·have dY : k = e.ord.length := by omega
   subst dY
   rw [lB1] at bQ ⊢
   repeat' first | refine st ?_ | refine rg ?_ | exact ⟨⟩ | fail
   (refine rt Q74_ok ?_; try with_reducible exact ⟨⟩)
   exact ⟨o1, bQ, rfl, rfl⟩
end
structure SX where
 frm : List Int
 dn : List Bool
 ord : List (List Int)
 fen : List Int
 outs : List (List Int)
 cnt : Nat
 fb : Nat
 db : Nat
 ob : Nat
 ords : List Value
 fenV : Value
 oo : Vec
 vs : List Value
 sm : List Value
def SX.exec (x : SX) : Exec := ⟨x.frm, x.dn, x.ord, x.fen⟩
def SX.xV (x : SX) : List Value := [Av x.fb x.frm.length x.frm.length, Av x.db x.dn.length x.dn.length, Av x.ob x.ord.length x.ord.length, x.fenV]
def SX.box (x : SX) (pv lv : Value) : List Value := pv :: lv :: (x.xV ++ osv x.oo x.outs.length :: vi x.cnt :: vi 0 :: x.sm)
def SX.G (x : SX) (mb : Nat) (pv lv : Value) : Own :=
 (mb, Cl 39 (x.box pv lv)) :: (x.fb, Cl 3 (x.frm.map vi)) :: (x.db, Cl 4 (x.dn.map vb)) :: (x.ob, Cl 34 x.ords) :: osg 34 x.oo x.vs
theorem JR (x : SX) (mb : Nat) (ps lv : Value) : x.G mb ps lv = (mb, Cl 39 (ps :: lv :: Av x.fb x.frm.length x.frm.length :: Av x.db x.dn.length x.dn.length :: Av x.ob x.ord.length x.ord.length :: x.fenV :: osv x.oo x.outs.length :: vi x.cnt :: vi 0 :: x.sm)) :: (x.fb, Cl 3 (x.frm.map vi)) :: (x.db, Cl 4 (x.dn.map vb)) :: (x.ob, Cl 34 x.ords) :: osg 34 x.oo x.vs := rfl
structure SX.Ok (x : SX) (p : List Ev) (M : Aa) : Prop where
 fl : x.frm.length = p.length
 dl : x.dn.length = p.length
 ol : x.ord.length = 3
 ords : x.ords.length = 3
 ord : ∀ k, (h : k < x.ords.length) → (h' : k < x.ord.length) → SlC M 1 ei x.ords[k] x.ord[k]
 fen : Sl M 1 ei x.fenV x.fen
 oo : Eo 1 x.oo x.outs.length x.vs
 vs : RowsOk M x.vs x.outs
 asc : x.outs.Pairwise fun x y => Da x y < 0
 out : ∀ y ∈ x.outs, T9 p y
 sl : ∃ a b c d e f g h i j k l, x.sm = [.slice a b c, .slice d e f, .slice g h i, .slice j k l]
theorem SX.Ok.mono {x : SX} {p : List Ev} {M M' : Aa} (h : x.Ok p M) (k : M.le M') : x.Ok p M' :=
 ⟨h.fl, h.dl, h.ol, h.ords, fun i a b => (h.ord i a b).mono k, h.fen.mono k, h.oo, h.vs.mono k, h.asc, h.out, h.sl⟩
theorem SX.Ok.isX {x : SX} {p : List Ev} {M : Aa} (h : x.Ok p M) {mb : Nat} {pv lv : Value} : IsX (M.add (x.G mb pv lv)) (.agg x.xV.toArray) x.exec := by
 refine ⟨_, _, _, _, rfl, ⟨_, _, rfl, ?_⟩, ⟨_, _, rfl, ?_⟩, ⟨_, _, x.ords, rfl, h.ords.trans h.ol.symm, ?_, fun i a b => (h.ord i a b).mono (JB _ _)⟩, h.fen.mono (JB _ _)⟩
 ·rw [Ax]
  exact .inr ⟨_, 0, rfl, B3 (T := 3) (cs := x.frm.map vi) (by simp [SX.G]) (by simp [SX.exec, lAx]) (by simp [SX.exec])⟩
 ·rw [Eh]
  exact .inr ⟨_, 0, rfl, B3 (T := 4) (cs := x.dn.map vb) (by simp [SX.G]) (by simp [SX.exec, lAx]) (by simp [SX.exec])⟩
 ·exact .inr ⟨_, 0, rfl, B3 (T := 34) (cs := x.ords) (by simp [SX.G]) (by simp [SX.exec, h.ords, h.ol, lAx]) (by simp [SX.exec, h.ords, h.ol])⟩
structure SF where
 outs : List (List Int)
 cnt : Nat
 oo : Vec
 vs : List Value
 sm : List Value
def SX.now (x : SX) (r : SF) : SX := { x with outs := r.outs, cnt := r.cnt, oo := r.oo, vs := r.vs, sm := r.sm }
def SX.sf (x : SX) : SF := ⟨x.outs, x.cnt, x.oo, x.vs, x.sm⟩
structure SX.Found (x : SX) (p : List Ev) (l : List Exec) (r : SF) : Prop where
 outs : r.outs = K5 p l x.outs
 cnt : r.cnt = x.cnt + l.length
theorem SX.Found.refl (x : SX) (p : List Ev) : x.Found p [] x.sf := ⟨rfl, rfl⟩
theorem SX.Found.trans {x : SX} {p : List Ev} {l m : List Exec} {r s : SF} (h : x.Found p l r) (k : (x.now r).Found p m s) : x.Found p (l ++ m) s :=
 ⟨by rw [k.outs, An1]; show K5 p m r.outs = _; rw [h.outs], by rw [k.cnt, lA4]; show r.cnt + _ = _; rw [h.cnt]; omega⟩
def SX.Post (x : SX) (p : List Ev) (l : List Exec) (mb : Nat) (pv lv : Value) (M : Aa) : Value → Aa → Own → Prop :=
 fun _ M' G' => M.le M' ∧ ∃ r : SF, G' = (x.now r).G mb pv lv ∧ (x.now r).Ok p M' ∧ x.Found p l r
theorem JO {x : SX} (r : SF) (mb : Nat) (ps lv : Value) {na : Option Addr} {n nc : Nat} (h : x.fenV = .slice na n nc) : (x.now r).G mb ps lv = (mb, Cl 39 (ps :: lv :: Av x.fb x.frm.length x.frm.length :: Av x.db x.dn.length x.dn.length :: Av x.ob x.ord.length x.ord.length :: .slice na n nc :: osv r.oo r.outs.length :: vi r.cnt :: vi 0 :: r.sm)) :: (x.fb, Cl 3 (x.frm.map vi)) :: (x.db, Cl 4 (x.dn.map vb)) :: (x.ob, Cl 34 x.ords) :: osg 34 r.oo r.vs := by
 rw [JR]
 show _ :: _ = _
 simp only [SX.now, h]
end Go.EV
