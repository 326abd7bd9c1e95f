/- Part of the proof of a statement about executions of litmus programs: walks and laws. -/
import Derived.Test.YtmgnpoleilcjoaaGreatVQaa
import Derived.Test.YtmgnpoleilcjoaaGreatProg
import Derived.RangeFuncIn
set_option maxHeartbeats 8000000
set_option maxRecDepth 8000
set_option linter.unusedSimpArgs false
set_option linter.unusedVariables false
set_option linter.unusedSectionVars false
namespace Go.EV
variable {P : Program}
def Kx (ops : Array Oper) (s : Nat) (g : Option (Nat × Bool)) : Nat → Nat → Option Nat
 | _, 0 => none
 | i, n + 1 => match ops[i]? with
  | some o => if o.guard = g then (match o.op with
    | .pick (.tmp s') _ _ => if s' = s then some i else Kx ops s g (i + 1) n
    | _ => Kx ops s g (i + 1) n) else Kx ops s g (i + 1) n
  | none => none
def X8 (want : Bool) (s : Nat) : Op → Option Operand
 | .pick (.tmp s') x y => if s' = s then (if want then (match y with | .const (.bool false) => some x | _ => none) else (match x with | .const (.bool true) => some y | _ => none)) else none
 | _ => none
theorem pickOf_ok {want : Bool} {s : Nat} {op : Op} {x : Operand} (h : X8 want s op = some x) : op = if want then .pick (.tmp s) x (.const (.bool false)) else .pick (.tmp s) (.const (.bool true)) x := by
 unfold X8 at h
 split at h
 ·split at h
  ·rename_i e
   subst e
   split at h
   ·rename_i hw
    split at h
    ·cases h; simp [hw]
    ·cases h
   ·rename_i hw
    split at h
    ·cases h; simp [hw]
    ·cases h
  ·cases h
 ·cases h
def okG (g : Option (Nat × Bool)) (i : Nat) : Bool :=
 match g with
 | none => true
 | some p => decide (p.1 < i)
theorem okG_ok {g : Option (Nat × Bool)} {i : Nat} (h : okG g i = true) : ∀ p, g = some p → p.1 < i := by
 intro p e; subst e; simpa [okG] using h
def Af2 : Op → Bool
 | .defer _ => true
 | _ => false
def Ao2 (d : Option Nat) (nt : Nat) : Bool :=
 match d with
 | none => true
 | some d => decide (d < nt)
def Fr6 (g : Option (Nat × Bool)) (og : Oper) (i0 gi : Nat) : Bool :=
 match g with
 | none => true
 | some _ => decide (i0 ≤ gi) && decide (og.guard = g)
def Ws (P : Program) (ops : Array Oper) (nt : Nat) : Nat → Option (Nat × Bool) → Nat → Nat → Nat → Option Sts
 | 0, _, _, _, _ => none
 | fuel + 1, g, i0, i, j =>
  if i = j then some .nil else
  (ops[i]?).bind fun o =>
  if o.guard = g then
   (if (okG g i && Ao2 o.dst nt && !Af2 o.op) = true then (Aw5 P o).bind fun r => (Ws P ops nt fuel g i0 (i + 1) j).bind fun rest => some (.op o.dst r rest) else none)
  else match o.guard with
   | none => none
   | some (gi, want) => (ops[gi]?).bind fun og => og.dst.bind fun s => (Kx ops s g i (j - i)).bind fun m => (ops[m]?).bind fun p => p.dst.bind fun d =>
     (X8 want s p.op).bind fun x => (cA x).bind fun last =>
     if (decide (gi < i) && Fr6 g og i0 gi && okG g i && decide (p.guard = g) && decide (d < nt)) = true then
      (Ws P ops nt fuel (some (gi, want)) i i m).bind fun body => (Ws P ops nt fuel g i0 (m + 1) j).bind fun rest => some (.cnd s want body d last rest)
     else none
theorem compS_ok {ops : Array Oper} {nt : Nat} : ∀ {fuel : Nat} {g : Option (Nat × Bool)} {i0 i j : Nat} {sts : Sts}, Ws P ops nt fuel g i0 i j = some sts → CmpS P ops nt g i0 i j sts
 | 0, g, i0, i, j, sts, h => by simp [Ws] at h
 | fuel + 1, g, i0, i, j, sts, h => by
  unfold Ws at h
  split at h
  ·rename_i e; cases h; subst e; exact .nil
  ·simp only [lA3] at h
   obtain ⟨o, ho, h⟩ := h
   split at h
   ·rename_i hg
    split at h
    ·rename_i hc
     simp only [lA6] at hc
     obtain ⟨⟨h1, h2⟩, h3⟩ := hc
     simp only [lA3] at h
     obtain ⟨r, hr, rest, hZ, e⟩ := h
     cases e
     refine .op ho hg (okG_ok h1) (comp_ok hr) ?_ ?_ (compS_ok hZ)
     ·intro c e; simp [Af2, e] at h3
     ·intro d e; simpa [Ao2, e] using h2
    ·cases h
   ·split at h
    ·cases h
    ·rename_i gi want tj
     simp only [lA3] at h
     obtain ⟨og, dU, s, hs, m, hm, p, hp, d, hd, x, hx, last, hl, h⟩ := h
     split at h
     ·rename_i hc
      simp only [lA6, decide_eq_true_eq] at hc
      obtain ⟨⟨⟨⟨h1, h2⟩, h3⟩, h4⟩, h5⟩ := hc
      simp only [lA3] at h
      obtain ⟨body, hb, rest, hr, e⟩ := h
      cases e
      refine .cnd dU hs h1 ?_ (okG_ok h3) (compS_ok hb) hp h4 (pickOf_ok hx) hl hd h5 (compS_ok hr)
      intro h9
      cases g with
      | none => simp at h9
      | some q => simpa [Fr6] using h2
     ·cases h
def Wt (ops : Array Oper) : Bool :=
 (List.range ops.size).all fun t => (List.range ops.size).all fun t' =>
  t == t' || (match (ops[t]?).bind (·.dst), (ops[t']?).bind (·.dst) with | some d, some d' => !(d == d') | _, _ => true)
theorem oneDst_ok {ops : Array Oper} (h : Wt ops = true) : Ri ops := by
 intro t t' o o' d ho bH hd dM
 have h1 : t < ops.size := (lBu.1 ho).1
 have h2 : t' < ops.size := (lBu.1 bH).1
 have h3 := lAz.1 (lAz.1 h t (lAl.2 h1)) t' (lAl.2 h2)
 simpa [ho, bH, hd, dM] using h3
def Af3 (ops : Array Oper) (V : List Nat) : Bool :=
 ops.toList.all fun o => match o.guard, o.dst with | some _, some d => !V.contains d | _, _ => true
theorem guardV_ok {ops : Array Oper} {V : List Nat} (h : Af3 ops V = true) : ∀ (t : Nat) (o : Oper) (d : Nat), ops[t]? = some o → o.dst = some d → o.guard ≠ none → d ∉ V := by
 intro t o d ho hd hg hm
 have := lAz.1 h o (by simpa using Array.mem_of_getElem? ho)
 cases iz : o.guard with
 | none => exact hg iz
 | some g => simp [iz, hd, hm] at this
def Mn (o : Oper) (D : Nat) : Bool := o.after.toList.all fun e => !Region.binds .any e || bit D e.on
theorem depsIn_ok {ops : Array Oper} {i D : Nat} {o : Oper} (ho : ops[i]? = some o) (h : Mn o D = true) : ∀ p, dep ops p i → bit D p = true := by
 rintro p ⟨o', bH, e, he, hb, rfl⟩
 rw [ho] at bH; cases bH
 have := lAz.1 h e he
 simpa [hb] using this
theorem Af4 {ops : Array Oper} {i D : Nat} {o : Oper} (ho : ops[i]? = some o) (h : Mn o D = false) : ∃ p, dep ops p i ∧ bit D p = false := by
 simp only [Mn, lDo] at h
 obtain ⟨e, he, h⟩ := h
 simp at h
 exact ⟨e.on, ⟨o, ho, e, he, h.1, rfl⟩, h.2⟩
def Ar6 (l : List Nat) (o : Oper) : Nat := o.after.toList.foldl (fun m e => if Region.binds .any e then m ||| (1 <<< e.on) ||| l.getD e.on 0 else m) 0
def ups (ops : Array Oper) : Nat → List Nat
 | 0 => []
 | n + 1 => let l := ups ops n; l ++ [match ops[n]? with | some o => Ar6 l o | none => 0]
theorem Rj (ops : Array Oper) : ∀ n, (ups ops n).length = n
 | 0 => rfl
 | n + 1 => by simp [ups, Rj ops n]
theorem upMask_ok {ops : Array Oper} {n : Nat} {o : Oper} (ho : ops[n]? = some o) {l : List Nat} (hl : ∀ i j, bit (l.getD j 0) i = true → Bef ops i j) {i : Nat} (h : bit (Ar6 l o) i = true) : Bef ops i n := by
 have key : ∀ (es : List Edge) (m : Nat), (∀ e ∈ es, e ∈ o.after.toList) → (bit m i = true → Bef ops i n) → bit (es.foldl (fun m e => if Region.binds .any e then m ||| (1 <<< e.on) ||| l.getD e.on 0 else m) m) i = true → Bef ops i n := by
  intro es
  induction es with
  | nil => intro m _ hm h; exact hm h
  | cons e es ih =>
   intro m fK hm h
   refine ih _ (fun e' tk => fK e' (by simp [tk])) ?_ h
   intro hb
   dsimp only at hb
   split at hb
   ·rename_i oV
    simp only [bit, lD2, Nat.one_shiftLeft, lCj, lAr, decide_eq_true_eq] at hb
    have hd : dep ops e.on n := ⟨o, ho, e, fK e (by simp), oV, rfl⟩
    rcases hb with (hb | hb) | hb
    ·exact hm hb
    ·subst hb; exact .one hd
    ·exact .step (hl _ _ hb) hd
   ·exact hm hb
 exact key o.after.toList 0 (fun e he => he) (fun h => by simp [bit] at h) h
theorem ups_ok {ops : Array Oper} : ∀ n i j, bit ((ups ops n).getD j 0) i = true → Bef ops i j := by
 intro n
 induction n with
 | zero => intro i j h; simp [ups, bit] at h
 | succ n ih =>
  intro i j h
  have aG := Rj ops n
  simp only [ups, List.getD_eq_getElem?_getD] at h
  by_cases hj : j < n
  ·rw [lE1 (by omega)] at h
   exact ih i j (by rw [List.getD_eq_getElem?_getD]; exact h)
  ·by_cases e : j = n
   ·subst e
    rw [lEn (by omega), aG, lF9] at h
    simp only [lE9, lAn] at h
    split at h
    ·rename_i o ho; exact upMask_ok ho ih h
    ·simp [bit] at h
   ·rw [lD1 (by simp [aG]; omega)] at h
    simp [bit] at h
def Z7 (md : Region.Mode) (ops : Array Oper) : List Nat → Nat → Bool
 | [], D => (List.range ops.size).all fun i => bit D i
 | i :: l, D => match ops[i]? with
  | some o => (o.after.toList.all fun e => !Region.binds md e || bit D e.on) && Z7 md ops l (bset D i)
  | none => false
theorem liveB_ok {md : Region.Mode} {ops : Array Oper} {listed : Array Bool} (aO : listed.size = ops.size) (hr : Region.ready md ops listed = []) : ∀ {l : List Nat} {D : Nat}, Z7 md ops l D = true → (∀ i, bit D i = true → listed.getD i false = true) →
  ∀ i, i < ops.size → listed.getD i false = true
 | [], D, h, hD, i, hi => hD i (lAz.1 h i (lAl.2 hi))
 | x :: l, D, h, hD, i, hi => by
  simp only [Z7] at h
  split at h
  ·rename_i o ho
   simp only [lA6] at h
   refine liveB_ok aO hr h.2 ?_ i hi
   intro j hj
   rw [A3] at hj
   rcases Fd hj with rfl | hj
   ·cases hl : listed.getD j false with
    | true => rfl
    | false =>
     exfalso
     have aU : j < listed.size := by have := (lBu.1 ho).1; omega
     have := An9 (md := md) (listed := listed) ho (by simpa [lBz, aU] using hl) (fun e he hb => hD _ (by
      have := lAz.1 h.1 e he
      simpa [hb] using this))
     rw [hr] at this; cases this
   ·exact hD j hj
  ·cases h
def Dj2 (md : Region.Mode) (ops : Array Oper) : Nat → Nat → List Nat
 | 0, _ => []
 | fuel + 1, D => match (List.range ops.size).find? fun i => !bit D i && (match ops[i]? with | some o => o.after.toList.all fun e => !Region.binds md e || bit D e.on | none => false) with
  | some i => i :: Dj2 md ops fuel (bset D i)
  | none => []
def Wu (ops : Array Oper) : Bool :=
 Z7 .any ops (Dj2 .any ops ops.size 0) 0 && Z7 .text ops (Dj2 .text ops ops.size 0) 0 && Z7 .gc ops (Dj2 .gc ops ops.size 0) 0
theorem liveAll_ok {ops : Array Oper} (h : Wu ops = true) (md : Region.Mode) (listed : Array Bool) (aO : listed.size = ops.size) (hr : Region.ready md ops listed = []) : ∀ i, i < ops.size → listed.getD i false = true := by
 simp only [Wu, lA6] at h
 obtain ⟨⟨h1, h2⟩, h3⟩ := h
 cases md
 ·exact liveB_ok aO hr h2 (by simp [bit])
 ·exact liveB_ok aO hr h3 (by simp [bit])
 ·exact liveB_ok aO hr h1 (by simp [bit])
def Aw6 (ops : Array Oper) (nt : Nat) (us : List Nat) : Bool :=
 Wt ops && Wu ops && (ops.toList.all fun o => Ao2 o.dst nt && (match o.op with | .select _ _ => false | .defer _ => false | _ => true)) &&
 (List.range ops.size).all fun i => match ops[i]? with
  | none => true
  | some o => (o.after.toList.all fun e => !Region.binds .any e || decide (e.on < i)) &&
   (o.looksAt ops).all fun t => (List.range ops.size).all fun j => match (ops[j]?).bind (·.dst) with
    | some d => !(d == t) || bit (us.getD i 0) j || bit (us.getD j 0) i
    | none => true
theorem planB_ok {ops : Array Oper} {nt n : Nat} (h : Aw6 ops nt (ups ops n) = true) : Plan ops nt := by
 simp only [Aw6, lA6] at h
 obtain ⟨⟨⟨h1, mQ⟩, h2⟩, h3⟩ := h
 have hall : ∀ (i : Nat) (o : Oper), ops[i]? = some o → (∀ d, o.dst = some d → d < nt) ∧ (∀ cs b, o.op ≠ .select cs b) ∧ (∀ c, o.op ≠ .defer c) := by
  intro i o ho
  have := lAz.1 h2 o (by simpa using Array.mem_of_getElem? ho)
  simp only [lA6] at this
  refine ⟨fun d hd => by simpa [Ao2, hd] using this.1, fun cs b e => by simp [e] at this, fun c e => by simp [e] at this⟩
 have lm : ∀ (i : Nat) (o : Oper), ops[i]? = some o → (∀ e ∈ o.after.toList, Region.binds .any e = true → e.on < i) ∧
   ∀ t ∈ o.looksAt ops, ∀ (j : Nat) (oj : Oper), ops[j]? = some oj → oj.dst = some t → Bef ops j i ∨ Bef ops i j := by
  intro i o ho
  have hi : i < ops.size := (lBu.1 ho).1
  have := lAz.1 h3 i (lAl.2 hi)
  simp only [ho, lA6] at this
  refine ⟨fun e he hb => ?_, fun t ht j oj hj hd => ?_⟩
  ·have := lAz.1 this.1 e he
   simpa [hb] using this
  ·have aR : j < ops.size := (lBu.1 hj).1
   have := lAz.1 (lAz.1 this.2 t ht) j (lAl.2 aR)
   simp only [hj, Option.bind_some, hd, beq_self_eq_true, lBd, lDw, lAr] at this
   exact this.imp (ups_ok n _ _) (ups_ok n _ _)
 have jl : ∀ i j, dep ops i j → i < j := by
  rintro i j ⟨o, ho, e, he, hb, rfl⟩
  exact (lm j o ho).1 e he hb
 have kT : ∀ i j, Bef ops i j → i < j := by
  intro i j hb
  induction hb with
  | one h => exact jl _ _ h
  | step _ hd ih => exact Nat.lt_trans ih (jl _ _ hd)
 refine ⟨?_, fun i hb => by have := kT i i hb; omega, oneDst_ok h1, fun i o d ho hd => (hall i o ho).1 d hd, fun i o ho => (hall i o ho).2, liveAll_ok mQ⟩
 intro i j oi oj t hi hj hd ht
 exact (lm i oi hi).2 t ht j oj hj hd
def Bj6 (g : Option (Nat × Bool)) (og : Oper) (D0 gi : Nat) : Bool :=
 match g with
 | none => true
 | some _ => decide (og.guard = g) && !bit D0 gi
def Qh (P : Program) (ops : Array Oper) (Q : List Nat) : Nat → Option (Nat × Bool) → Bool → Nat → Nat → Nat → Nat → Option (QL × Nat)
 | 0, _, _, _, _, _, _ => none
 | fuel + 1, g, must, D0, i, j, D =>
  if j ≤ i then some (.nil, D) else
  if bit D i = true then Qh P ops Q fuel g must D0 (i + 1) j D else
  (ops[i]?).bind fun o =>
  if o.guard = g then
   (Aw5 P o).bind fun r =>
   if (Mn o D && Ug Q r) = true then (Qh P ops Q fuel g must D0 (i + 1) j (bset D i)).bind fun q => some (.op i o.dst r q.1, q.2)
   else if must = true then none else Qh P ops Q fuel g must D0 (i + 1) j D
  else match o.guard with
   | none => none
   | some (gi, want) => (ops[gi]?).bind fun og => og.dst.bind fun s => (Kx ops s g i (j - i)).bind fun m => (ops[m]?).bind fun p => p.dst.bind fun d =>
     (X8 want s p.op).bind fun x => (cA x).bind fun last =>
     match (if bit D gi = true then Qh P ops Q fuel (some (gi, want)) true D i m D else none) with
     | some q =>
      if (Bj6 g og D0 gi && decide (p.guard = g) && !bit q.2 m && Mn p q.2) = true then
       (Qh P ops Q fuel g must D0 (m + 1) j (bset q.2 m)).bind fun q' => some (.g s want q.1 m d last q'.1, q'.2)
      else none
     | none => if must = true then none else Qh P ops Q fuel g must D0 (m + 1) j D
theorem takeQ_ok {ops : Array Oper} {nt : Nat} {Q : List Nat} : ∀ {fuel : Nat} {g : Option (Nat × Bool)} {must : Bool} {D0 i j D : Nat} {q : QL × Nat}, Qh P ops Q fuel g must D0 i j D = some q → CmpQL P ops nt Q g D0 D q.1 q.2
 | 0, g, must, D0, i, j, D, q, h => by simp [Qh] at h
 | fuel + 1, g, must, D0, i, j, D, q, h => by
  unfold Qh at h
  split at h
  ·cases h; exact .nil
  ·split at h
   ·exact takeQ_ok h
   ·rename_i hD
    simp only [lA3] at h
    obtain ⟨o, ho, h⟩ := h
    split at h
    ·rename_i hg
     simp only [lA3] at h
     obtain ⟨r, hr, h⟩ := h
     split at h
     ·rename_i hc
      simp only [lA6] at hc
      simp only [lA3] at h
      obtain ⟨q', pU, e⟩ := h
      cases e
      exact .op ho hg (by simpa using hD) (depsIn_ok ho hc.1) (comp_ok hr) hc.2 (takeQ_ok pU)
     ·split at h
      ·cases h
      ·exact takeQ_ok h
    ·split at h
     ·cases h
     ·rename_i gi want tj
      simp only [lA3] at h
      obtain ⟨og, dU, s, hs, m, hm, p, hp, d, hd, x, hx, last, hl, h⟩ := h
      split at h
      ·rename_i q1 jE
       split at jE
       ·rename_i hgi
        split at h
        ·rename_i hc
         simp only [lA6, decide_eq_true_eq, lB6] at hc
         obtain ⟨⟨⟨h1, h2⟩, h3⟩, h4⟩ := hc
         simp only [lA3] at h
         obtain ⟨q', pU, e⟩ := h
         cases e
         refine .g dU hs hgi ?_ (takeQ_ok jE) hp h2 h3 (depsIn_ok hp h4) (pickOf_ok hx) hl hd (takeQ_ok pU)
         intro h9
         cases g with
         | none => simp at h9
         | some q => simpa [Bj6] using h1
        ·cases h
       ·cases jE
      ·split at h
       ·cases h
       ·exact takeQ_ok h
def Bj7 (P : Program) (Q : List Nat) (o : Oper) : Bool := match Aw5 P o with | some r => Ug Q r | none => false
def Bj8 (P : Program) (ops : Array Oper) (Q : List Nat) (Γ : Gam) (D : Nat) : Option (Nat × Oper × Nat × Bool) :=
 (List.range ops.size).findSome? fun i => if bit D i = true then none else match ops[i]? with
  | some o => match o.guard with
   | some (gi, want) => if (Mn o D && bit D gi && (!Γ.contains (gi, some want) || Bj7 P Q o)) = true then some (i, o, gi, want) else none
   | none => none
  | none => none
theorem nextG_ok {ops : Array Oper} {Q : List Nat} {Γ : Gam} {D : Nat} {i gi : Nat} {o : Oper} {want : Bool} (h : Bj8 P ops Q Γ D = some (i, o, gi, want)) : ops[i]? = some o ∧ o.guard = some (gi, want) ∧ bit D i = false ∧ Mn o D = true ∧ bit D gi = true := by
 obtain ⟨j, _, h⟩ := List.exists_of_findSome?_eq_some h
 split at h
 ·cases h
 ·rename_i hD
  split at h
  ·rename_i o' ho
   split at h
   ·rename_i gi' want' hg
    split at h
    ·rename_i hc
     simp only [lA6] at hc
     cases h
     exact ⟨ho, hg, by simpa using hD, hc.1.1, hc.1.2⟩
    ·cases h
   ·cases h
  ·cases h
def Wv (Γ : Gam) (g : Option (Nat × Bool)) : Bool :=
 match g with
 | none => true
 | some p => Γ.contains (p.1, some p.2)
theorem guardIn_ok {Γ : Gam} {g : Option (Nat × Bool)} (h : Wv Γ g = true) : ∀ p, g = some p → (p.1, some p.2) ∈ Γ := by
 intro p e
 subst e
 simpa [Wv] using h
def mkT (P : Program) (ops : Array Oper) (Q : List Nat) (us : List Nat) : Nat → Gam → Option Nat → Nat → Option AT
 | 0, _, _, _ => none
 | fuel + 1, Γ, none, D => (Qh P ops Q (ops.size + 1) none false D 0 ops.size D).bind fun q =>
   if ((List.range ops.size).all fun i => bit q.2 i) = true then some (.q q.1 .fin) else
   match Bj8 P ops Q Γ q.2 with
   | some (i, o, gi, want) => match Γ.find? fun p => p.1 == gi with
    | some (gj, x) => if gj = gi ∧ (gj, x) ∈ Γ then
      (if x = some want then (Aw5 P o).bind fun r => if Ug Q r = true then (mkT P ops Q us fuel Γ none (bset q.2 i)).bind fun t => some (.q q.1 (.q (.op i o.dst r .nil) t))
        else (mkT P ops Q us fuel Γ (some 0) q.2).bind fun t => some (.q q.1 t)
       else (mkT P ops Q us fuel (if o.dst.isSome = true then (i, none) :: Γ else Γ) none (bset q.2 i)).bind fun t => some (.q q.1 (.sk i o.dst t)))
      else none
    | none => (ops[gi]?).bind fun og => og.dst.bind fun s => (mkT P ops Q us fuel ((gi, some true) :: Γ) none q.2).bind fun y => (mkT P ops Q us fuel ((gi, some false) :: Γ) none q.2).bind fun n => some (.q q.1 (.br s y n))
   | none => (mkT P ops Q us fuel Γ (some 0) q.2).bind fun t => some (.q q.1 t)
 | fuel + 1, Γ, some i, D =>
   if ops.size ≤ i then some .no else
   if bit D i = true then mkT P ops Q us fuel Γ (some (i + 1)) D else
   (ops[i]?).bind fun o =>
   if Mn o D = true then
    if Wv Γ o.guard = true then (Aw5 P o).bind fun r => (mkT P ops Q us fuel Γ none (bset D i)).bind fun t => (mkT P ops Q us fuel Γ (some (i + 1)) D).bind fun more =>
     some (.s i o.dst r (Nat.land D (us.getD i 0) == D) t more) else none
   else mkT P ops Q us fuel Γ (some (i + 1)) D
theorem mkT_ok {ops : Array Oper} {nt n : Nat} {Q : List Nat} : ∀ {fuel : Nat} {Γ : Gam} {mode : Option Nat} {D : Nat} {t : AT}, mkT P ops Q (ups ops n) fuel Γ mode D = some t → CmpA P ops nt Q Γ mode D t
 | 0, Γ, mode, D, t, h => by simp [mkT] at h
 | fuel + 1, Γ, none, D, t, h => by
  simp only [mkT, lA3] at h
  obtain ⟨q, hq, h⟩ := h
  have dm : ∀ p : Nat × Bool, (none : Option (Nat × Bool)) = some p → (p.1, some p.2) ∈ Γ := fun p e => by cases e
  split at h
  ·rename_i hall
   cases h
   exact .q dm (takeQ_ok hq) (.fin fun i hi => lAz.1 hall i (lAl.2 hi))
  ·rename_i hall
   have hne : ∃ i, i < ops.size ∧ bit q.2 i = false := by
    have hall : ((List.range ops.size).all fun i => bit q.2 i) = false := by simpa using hall
    obtain ⟨i, hi, hb⟩ := lDo.1 hall
    exact ⟨i, lAl.1 hi, by simpa using hb⟩
   split at h
   ·rename_i i o gi want hn
    obtain ⟨ho, hg, hD, hdep, hgD⟩ := nextG_ok hn
    split at h
    ·rename_i gj x _
     split at h
     ·rename_i hc
      obtain ⟨rfl, aJ⟩ := hc
      split at h
      ·rename_i hx
       subst hx
       simp only [lA3] at h
       obtain ⟨r, hr, h⟩ := h
       split at h
       ·rename_i tm
        simp only [lA3] at h
        obtain ⟨t', fM, e⟩ := h
        cases e
        refine .q dm (takeQ_ok hq) (.q (g := some (gj, want)) (fun p e => by cases e; exact aJ) (.op ho hg hD (depsIn_ok ho hdep) (comp_ok hr) tm .nil) (mkT_ok fM))
       ·simp only [lA3] at h
        obtain ⟨t', fM, e⟩ := h
        cases e
        exact .q dm (takeQ_ok hq) (.alts hne (mkT_ok fM))
      ·rename_i hx
       simp only [lA3] at h
       obtain ⟨t', fM, e⟩ := h
       cases e
       refine .q dm (takeQ_ok hq) (.sk ho hg aJ hx hD (depsIn_ok ho hdep) ?_ (mkT_ok fM))
       intro y hy
       split at hy
       ·rename_i hs
        rcases lBp.1 hy with e | hy
        ·exact .inr ⟨e, Option.isSome_iff_exists.1 hs⟩
        ·exact .inl hy
       ·exact .inl hy
     ·cases h
    ·simp only [lA3] at h
     obtain ⟨og, dU, s, hs, y, hy, n', kU, e⟩ := h
     cases e
     exact .q dm (takeQ_ok hq) (.br dU hs hgD (mkT_ok hy) (mkT_ok kU))
   ·simp only [lA3] at h
    obtain ⟨t', fM, e⟩ := h
    cases e
    exact .q dm (takeQ_ok hq) (.alts hne (mkT_ok fM))
 | fuel + 1, Γ, some i, D, t, h => by
  simp only [mkT] at h
  split at h
  ·rename_i hi; cases h; exact .no hi
  ·split at h
   ·rename_i hD; exact .pass (.inl hD) (mkT_ok h)
   ·rename_i hD
    simp only [lA3] at h
    obtain ⟨o, ho, h⟩ := h
    split at h
    ·split at h
     ·rename_i hg
      simp only [lA3] at h
      obtain ⟨r, hr, t', fM, more, hm, e⟩ := h
      cases e
      refine .s ho (guardIn_ok hg) (by simpa using hD) (comp_ok hr) ?_ (mkT_ok fM) (mkT_ok hm)
      intro hre j hj
      have e : Nat.land D ((ups ops n).getD i 0) = D := by simpa using hre
      refine ups_ok n _ _ ?_
      have : bit (Nat.land D ((ups ops n).getD i 0)) j = true := by rw [e]; exact hj
      have h2 : bit (D &&& ((ups ops n).getD i 0)) j = true := this
      rw [bit, Nat.testBit_and, lA6] at h2
      exact h2.2
     ·cases h
    ·rename_i hd
     exact .pass (.inr (Af4 ho (by simpa using hd))) (mkT_ok h)
def It (P : Program) (nt : Nat) (V Q : List Nat) : Code → Option RCode
 | .skip => some .skip
 | .region _ ops false => if (Wt ops && Af3 ops V) = true then (Ws P ops nt (ops.size + 1) none 0 0 ops.size).bind fun s => some (.reg s) else none
 | .region _ ops true => if (Aw6 ops nt (ups ops ops.size) && Af3 ops V) = true then (mkT P ops Q (ups ops ops.size) ((ops.size + 2) * (ops.size + 2)) [] none 0).bind fun t => some (.any t) else none
 | .seq a b => (It P nt V Q a).bind fun a' => (It P nt V Q b).bind fun b' => some (.seq a' b')
 | .cond c a b => (cA c).bind fun c' => (It P nt V Q a).bind fun a' => (It P nt V Q b).bind fun b' => some (.cond c' a' b')
 | .block id c => (It P nt V Q c).bind fun c' => some (.block id c')
 | .loop c => (It P nt V Q c).bind fun c' => some (.loop c')
 | .exit id => some (.exit id)
 | .ret => some .ret
 | .rangeFunc f ps a b => (cA f).bind fun f' => (It P nt V Q a).bind fun a' => (It P nt V Q b).bind fun b' => if (ps.toList.all fun t => decide (t < nt)) = true then some (.rangeF f' ps.toList a' b') else none
 | _ => none
theorem compC_ok {nt : Nat} {V Q : List Nat} : ∀ {c : Code} {r : RCode}, It P nt V Q c = some r → CmpC P nt V c r := by
 intro c
 induction c with
 | skip => intro r h; cases h; exact .skip
 | region id ops draw =>
  intro r h
  cases draw with
  | true =>
   simp only [It] at h
   split at h
   ·rename_i hc
    simp only [lA6] at hc
    simp only [lA3] at h
    obtain ⟨t, ht, e⟩ := h
    cases e
    exact .any (planB_ok hc.1) (mkT_ok ht) (guardV_ok hc.2)
   ·cases h
  | false =>
   simp only [It] at h
   split at h
   ·rename_i hc
    simp only [lA6] at hc
    simp only [lA3] at h
    obtain ⟨s, hs, e⟩ := h
    cases e
    exact .reg (compS_ok hs) (oneDst_ok hc.1) (guardV_ok hc.2)
   ·cases h
 | seq a b iha ihb =>
  intro r h
  simp only [It, lA3] at h
  obtain ⟨a', ha, b', hb, e⟩ := h
  cases e; exact .seq (iha ha) (ihb hb)
 | cond c a b iha ihb =>
  intro r h
  simp only [It, lA3] at h
  obtain ⟨c', hc, a', ha, b', hb, e⟩ := h
  cases e; exact .cond hc (iha ha) (ihb hb)
 | block id c ih =>
  intro r h
  simp only [It, lA3] at h
  obtain ⟨c', hc, e⟩ := h
  cases e; exact .block (ih hc)
 | loop c ih =>
  intro r h
  simp only [It, lA3] at h
  obtain ⟨c', hc, e⟩ := h
  cases e; exact .loop (ih hc)
 | exit id => intro r h; cases h; exact .exit
 | ret => intro r h; cases h; exact .ret
 | rangeFunc f ps a b iha ihb =>
  intro r h
  simp only [It, lA3] at h
  obtain ⟨f', hf, a', ha, b', hb, e⟩ := h
  split at e
  ·rename_i hps
   cases e; exact .rangeF hf (fun t ht => by simpa using lAz.1 hps t ht) (iha ha) (ihb hb)
  ·cases e
 | _ => intro r h; cases h
def Aw7 (P : Program) : ResultVar → Option RRes
 | .tmp t => some (.tmp t)
 | .cell t T => match Of P T with
  | some true => (szP P T).bind fun sz => some (.cellA t sz)
  | some false => some (.cell1 t)
  | none => none
theorem compR_ok {x : ResultVar} {y : RRes} (h : Aw7 P x = some y) : CmpR P x y := by
 cases x with
 | tmp t => cases h; exact .tmp
 | cell t T =>
  simp only [Aw7] at h
  split at h
  ·rename_i ha
   simp only [lA3] at h
   obtain ⟨sz, hs, e⟩ := h
   cases e; exact .cellA ha hs
  ·rename_i ha; cases h; exact .cell1 ha
  ·cases h
def X9 (P : Program) : List ResultVar → Option (List RRes)
 | [] => some []
 | x :: l => (Aw7 P x).bind fun y => (X9 P l).bind fun m => some (y :: m)
theorem compRs_ok : ∀ {l : List ResultVar} {m : List RRes}, X9 P l = some m → CmpRs P l m
 | [], m, h => by cases h; exact .nil
 | x :: l, m, h => by
  simp only [X9, lA3] at h
  obtain ⟨y, hy, m', hm, e⟩ := h
  cases e; exact .cons (compR_ok hy) (compRs_ok hm)
structure RFun where
 nt : Nat
 V : List Nat
 body : RCode
 res : List RRes
def Al (P : Program) (V Q : List Nat) (f : FuncId) : Option RFun :=
 if An1 P f = true then
  (P.funcs[f]?).bind fun fn => fn.body.bind fun c => (It P fn.ntmps V Q c).bind fun r => (X9 P fn.results.toList).bind fun res => some ⟨fn.ntmps, V, r, res⟩
 else none
def Cx.fn (P : Program) (f : FuncId) (nt : Nat) (w0 : World) (F : List Nat) (M0 : Aa) (Φ : Value → Aa → Own → Prop) : Cx P where
 b := { (default : Frame) with fn := f, kind := .normal, roundOf := none }
 T := fun cs m => ∃ e w' fr, (∃ v, e = Ending.returned v ∧ ∃ M' G', EV.St w0 F M0 M' G' w' ∧ Φ v M' G') ∧ Comes P m (lone fr cs w') e ∧ fr.fn = f ∧ fr.leaving P w' e
 back := by
  rintro cs m m' hs ⟨e, w', fr, h1, h2, h3, h4⟩
  exact ⟨e, w', fr, h1, Comes.of_steps (.one hs) h2, h3, h4⟩
 nt := nt
 ds := []
 w0 := w0
 F := F
 M0 := M0
def A9 : Nat → List Value → Env
 | _, [] => []
 | i, v :: l => (i, v) :: A9 (i + 1) l
theorem Ao3 {l : List Value} : ∀ {i t : Nat} {v : Value}, get (A9 i l) t = some v → i ≤ t ∧ l[t - i]? = some v := by
 induction l with
 | nil => intro i t v h; simp [A9, get] at h
 | cons u l ih =>
  intro i t v h
  simp only [A9, get] at h
  split at h
  ·rename_i e; subst e; cases h; simp
  ·rename_i e
   obtain ⟨h1, h2⟩ := ih h
   refine ⟨by omega, ?_⟩
   have : t - i = (t - (i + 1)) + 1 := by omega
   rw [this]; simpa using h2
theorem Con.enter {f : FuncId} {V Q : List Nat} {R : RFun} (hR : Al P V Q f = some R) {args : List Value} (aG : args.length ≤ R.nt) {M : Aa} {G : Own} {Φ : Value → Aa → Own → Prop}
  (h : ∀ w0, EV (Cx.fn P f R.nt w0 (G.map (·.1)) M Φ) R.V [.code R.body] (A9 0 args) M G) : Con P f args.toArray M G Φ := by
 unfold Al at hR
 split at hR
 ·rename_i hgo
  simp only [lA3] at hR
  obtain ⟨fn, bu, c, hc, r, hr, res, aF, e⟩ := hR
  cases e
  refine ⟨hgo, ?_⟩
  intro w hs cs
  have hE := h w [.code c] (.cons (.code (compC_ok hr)) .nil) { tmps := args.toArray ++ Array.replicate (fn.ntmps - args.toArray.size) undef, defers := [] } w
  have eA : Fc fn.ntmps (A9 0 args) { tmps := args.toArray ++ Array.replicate (fn.ntmps - args.toArray.size) undef, defers := [] } := by
   refine ⟨?_, ?_⟩
   ·simp only [Array.size_append, Array.size_replicate, lE3]
    dsimp only at aG
    omega
   ·intro t v ht
    obtain ⟨_, h2⟩ := Ao3 ht
    simp only [Nat.sub_zero] at h2
    obtain ⟨aU, _⟩ := lCv.1 h2
    rw [lDr (by simpa using aU)]
    simpa using h2
  have := hE eA rfl hs cs
  have kV : Frame.enter P f args.toArray .normal = (Cx.fn P f fn.ntmps w (G.map (·.1)) M Φ).b.atR { tmps := args.toArray ++ Array.replicate (fn.ntmps - args.toArray.size) undef, defers := [] } [.code c] := by
   simp only [Frame.enter, Frame.atR, Cx.fn, bu, lC9, lAn, Option.bind_some, hc]
  rw [kV]
  exact this
 ·cases hR
section
variable {f : FuncId} {w0 : World} {F : List Nat} {M0 M : Aa} {G : Own} {Φ : Value → Aa → Own → Prop} {V Q : List Nat} {k : List RItem} {ρ : Env}
def Bi8 (R : RFun) (ρ : Env) (M : Aa) (G : Own) (Φ : Value → Aa → Own → Prop) : Prop := Am8 ρ (M.add G) R.res fun vs => Φ (Bj5 vs) M G
theorem EV.ret {R : RFun} (hR : Al P V Q f = some R) (h : Bi8 R ρ M G Φ) : EV (Cx.fn P f R.nt w0 F M0 Φ) R.V (.code .ret :: k) ρ M G := by
 unfold Al at hR
 split at hR
 ·rename_i hgo
  simp only [lA3] at hR
  obtain ⟨fn, bu, c, hc, r, hr, res, aF, e⟩ := hR
  cases e
  intro k' hk a w hf hd hs cs
  cases hk with
  | cons hx hk => cases hx with
   | code hc => cases hc with
    | ret =>
     obtain ⟨v, hv, hΦ⟩ := H5 (P := P) (fn := fn) (Q := fun v => Φ v M G) hf (fun b o hb => hs.agreeAdd hb) (compRs_ok aF) h
     refine ⟨.returned v, w, { (Cx.fn P f fn.ntmps w0 F M0 Φ).b.atR a (.code .ret :: _) with mode := .returning }, ⟨v, rfl, M, G, hs, hΦ⟩, .one (stepR_ret rfl), rfl, ?_⟩
     exact ⟨rfl, hd, rfl, fn, bu, hv⟩
 ·cases hR
theorem EV.done {R : RFun} (hR : Al P V Q f = some R) (h : Bi8 R ρ M G Φ) : EV (Cx.fn P f R.nt w0 F M0 Φ) R.V [] ρ M G := by
 unfold Al at hR
 split at hR
 ·rename_i hgo
  simp only [lA3] at hR
  obtain ⟨fn, bu, c, hc, r, hr, res, aF, e⟩ := hR
  cases e
  intro k' hk a w hf hd hs cs
  cases hk with
  | nil =>
   obtain ⟨v, hv, hΦ⟩ := H5 (P := P) (fn := fn) (Q := fun v => Φ v M G) hf (fun b o hb => hs.agreeAdd hb) (compRs_ok aF) h
   refine ⟨.returned v, w, { (Cx.fn P f fn.ntmps w0 F M0 Φ).b.atR a [] with mode := .returning }, ⟨v, rfl, M, G, hs, hΦ⟩, .one (stepR_end rfl), rfl, ?_⟩
   exact ⟨rfl, hd, rfl, fn, bu, hv⟩
 ·cases hR
end
theorem Au (i : Nat) : get [] i = none := rfl
theorem Ak (j : Nat) (v : Value) (ρ : Env) (i : Nat) : get ((j, v) :: ρ) i = if i = j then some v else get ρ i := rfl
theorem As (ρ : Env) : Wb [] ρ = [] := rfl
theorem Aj (i : Nat) (V : List Nat) (ρ : Env) : Wb (i :: V) ρ = match get ρ i with | some v => (i, v) :: Wb V ρ | none => Wb V ρ := rfl
attribute [push_cast] X7 qW opW C2 An2 ev evs evp evo Au Ak As Aj putE A9 Bj2 Dl7 shV Dl8 Wh Di9 sl? Qf Jr An3 Dj0 fn? Qg Is eqL Rc Value.cells An4 Gh Ad3 E3 Am8 Bj5 Bi8
 lB3 lC1 lE9 lEu lEs lCr lEa lBr lAj lAp List.take_nil List.drop_nil lE8 List.replicate_zero lD0 lEp
attribute [push_cast] List.set_cons_zero List.set_cons_succ or_self or_false false_or and_self true_and and_true lBi lAu lDc Bool.false_xor Bool.true_xor if_true if_false lAy lB8 Int.toNat_zero ne_eq not_true_eq_false not_false_eq_true Value.oneCell' lE3 lAc lAa Array.append_empty lFj lA5 exists_eq_left exists_and_left lA8 Nat.sub_zero
variable {P : Program}
theorem w64 {x : Int} (h1 : -9223372036854775808 ≤ x) (h2 : x < 9223372036854775808) : IntKind.i64.wrap x = x := by
 have e : (2 : Int) ^ IntKind.i64.bits = 18446744073709551616 := rfl
 have e2 : (2 : Int) ^ (IntKind.i64.bits - 1) = 9223372036854775808 := rfl
 have e3 : IntKind.i64.signed = true := rfl
 simp only [IntKind.wrap, e, e2, e3, lC5, decide_eq_true_eq]
 split <;> omega
theorem Ch : ok1 [] ↔ True := by simp [ok1]
theorem Bq (v : Value) (l : List Value) : ok1 (v :: l) ↔ v.oneCell' = true ∧ ok1 l := by simp [ok1]
theorem Z8 {ρ : Env} {t : Nat} {v : Value} (h : get ρ t = some v) : (t, v) ∈ ρ := by
 induction ρ with
 | nil => simp [get] at h
 | cons p ρ ih =>
  obtain ⟨j, u⟩ := p
  simp only [get] at h
  split at h
  ·rename_i e; subst e; cases h; simp
  ·exact lBa _ (ih h)
section
variable {C : Cx P} {V : List Nat} {k : List RItem} {ρ ρ' : Env} {M : Aa} {G G' : Own}
theorem JA (h : EV C V k ρ' M G') (hρ : ∀ p ∈ ρ', get ρ p.1 = some p.2) (hG : G'.Sublist G) : EV C V k ρ M G :=
 h.weaken (fun t v ht => hρ (t, v) (Z8 ht)) hG
theorem Ar7 {b off n : Nat} {T : TypeId} {cs : List Value} (i : Nat) (h : G[i]? = some (b, Cl T cs)) (hl : off + n ≤ cs.length) : rd (M.add G) b off n ((cs.drop off).take n) :=
 ⟨cs.toArray, T, (0, 0), .inr (lCb h), by simpa using hl, by simp⟩
theorem An {b off n : Nat} {T : TypeId} {cs out : List Value} (i : Nat) (h : G[i]? = some (b, Cl T cs)) (e : (cs.drop off).take n = out) (hl : off + n ≤ cs.length) : rd (M.add G) b off n out :=
 e ▸ Ar7 i h hl
theorem Aw8 {b off n : Nat} {cs : List Value} (h : rd M b off n cs) : rd (M.add G) b off n cs := h.mono (JB _ _)
theorem Ww {sz n : Nat} {a : Option Addr} {cs : List Value} (h : rdS M sz a n cs) : rdS (M.add G) sz a n cs :=
 h.imp id fun ⟨b, off, e, h⟩ => ⟨b, off, e, Aw8 h⟩
theorem rdS.mono {H H' : Aa} (h : H.le H') {sz n : Nat} {a : Option Addr} {cs : List Value} (k : rdS H sz a n cs) : rdS H' sz a n cs :=
 k.imp id fun ⟨b, off, e, k⟩ => ⟨b, off, e, k.mono h⟩
theorem rd.part {H : Aa} {b off n i m : Nat} {cs : List Value} (h : rd H b off n cs) (hm : i + m ≤ n) : rd H b (off + i) m ((cs.drop i).take m) := by
 obtain ⟨c, T, fz, h1, h2, h3⟩ := h
 refine ⟨c, T, fz, h1, by omega, ?_⟩
 rw [h3, List.drop_take, lEo, lDb, lC0 (by omega)]
end
def Sl {α : Type} (H : Aa) (sz : Nat) (enc : α → List Value) (v : Value) (xs : List α) : Prop :=
 ∃ a c, v = .slice a xs.length c ∧ rdS H sz a xs.length (xs.flatMap enc)
theorem Mo {α : Type} {sz : Nat} {enc : α → List Value} (ck : ∀ x, (enc x).length = sz) : ∀ {xs : List α} {i : Nat} (h : i < xs.length), ((xs.flatMap enc).drop (i * sz)).take sz = enc xs[i]
 | x :: xs, 0, _ => by simp [lC2, ← ck x]
 | x :: xs, i + 1, h => by
  have h' : i < xs.length := by simpa using h
  have := Mo ck h'
  simp only [lC2, lAs]
  rw [← this, lFb, lCt (by rw [ck, lEh]; omega), lAj, ck, lEh, lEv]
theorem Gx {α : Type} {sz : Nat} {enc : α → List Value} (ck : ∀ x, (enc x).length = sz) : ∀ (xs : List α), (xs.flatMap enc).length = xs.length * sz
 | [] => by simp
 | x :: xs => by simp [lC2, Gx ck xs, ck, lEh, lE6]
theorem Sl.at {α : Type} {H : Aa} {sz : Nat} {enc : α → List Value} (ck : ∀ x, (enc x).length = sz) (hpos : 0 < sz) {a : Option Addr} {xs : List α} (h : rdS H sz a xs.length (xs.flatMap enc)) (hn : 0 < xs.length) :
  ∃ b off, a = some ⟨b, off, none⟩ ∧ ∀ i (hi : i < xs.length), rd H b (off + i * sz) sz (enc xs[i]) := by
 rcases h with ⟨h0, _⟩ | ⟨b, off, e, h⟩
 ·exfalso
  rcases lFh.1 h0 with h0 | h0
  ·rw [h0] at hn; exact absurd hn (by simp)
  ·omega
 ·refine ⟨b, off, e, fun i hi => ?_⟩
  have := h.part (i := i * sz) (m := sz) (by
   have : (i + 1) * sz ≤ xs.length * sz := lBw _ hi
   rw [lEh] at this; exact this)
  rwa [Mo ck hi] at this
theorem Sl.mono {α : Type} {H H' : Aa} (hh : H.le H') {sz : Nat} {enc : α → List Value} {v : Value} {xs : List α} (h : Sl H sz enc v xs) : Sl H' sz enc v xs :=
 let ⟨a, c, e, h⟩ := h; ⟨a, c, e, h.mono hh⟩
def Dv {α : Type} (H : Aa) (sz : Nat) (enc : α → List Value) (v : Value) (xss : List (List α)) : Prop :=
 ∃ a c vs, v = .slice a xss.length c ∧ vs.length = xss.length ∧ rdS H 1 a xss.length vs ∧ ∀ i (h : i < vs.length) (h' : i < xss.length), Sl H sz enc vs[i] xss[i]
theorem Dv.mono {α : Type} {H H' : Aa} (hh : H.le H') {sz : Nat} {enc : α → List Value} {v : Value} {xss : List (List α)} (h : Dv H sz enc v xss) : Dv H' sz enc v xss :=
 let ⟨a, c, vs, e, hl, h, k⟩ := h; ⟨a, c, vs, e, hl, h.mono hh, fun i h h' => (k i h h').mono hh⟩
theorem J0 (vs : List Value) : vs.flatMap (fun v => [v]) = vs := by simp [List.flatMap_singleton']
theorem Dv.at {α : Type} {H : Aa} {sz : Nat} {enc : α → List Value} {a : Option Addr} {vs : List Value} {xss : List (List α)} (h : rdS H 1 a xss.length vs) (hl : vs.length = xss.length) (hk : ∀ i (h : i < vs.length) (h' : i < xss.length), Sl H sz enc vs[i] xss[i]) (hn : 0 < xss.length) :
  ∃ b off, a = some ⟨b, off, none⟩ ∧ ∀ i (hi : i < xss.length), ∃ a' c', rd H b (off + i * 1) 1 [.slice a' xss[i].length c'] ∧ rdS H sz a' xss[i].length (xss[i].flatMap enc) := by
 have h1 : rdS H 1 a vs.length (vs.flatMap fun v => [v]) := by rw [J0, hl]; exact h
 obtain ⟨b, off, e, hr⟩ := Sl.at (sz := 1) (enc := fun v => [v]) (fun _ => rfl) (by omega) h1 (by omega)
 refine ⟨b, off, e, fun i hi => ?_⟩
 have bj := hr i (by omega)
 obtain ⟨a', c', e', h'⟩ := hk i (by omega) hi
 rw [e'] at bj
 exact ⟨a', c', bj, h'⟩
attribute [push_cast] Ch Bq
theorem Bj9 {M : Aa} {G : Own} {b off n : Nat} {T : TypeId} {cs : List Value} (h : (b, Cl T cs) ∈ G) (hl : off + n ≤ cs.length) : rd (M.add G) b off n ((cs.drop off).take n) := by
 obtain ⟨i, hi⟩ := List.mem_iff_getElem?.1 h
 exact Ar7 i hi hl
theorem Bm {M : Aa} {G : Own} {b off n : Nat} {T : TypeId} {cs out : List Value} (h : (b, Cl T cs) ∈ G) (e : (cs.drop off).take n = out) (hl : off + n ≤ cs.length) : rd (M.add G) b off n out := e ▸ Bj9 h hl
theorem E5 {M : Aa} {G : Own} {sz n : Nat} {T : TypeId} {ov : Vec} {xs : List Value} (ai : Ey sz ov n xs) (hM : ∀ p ∈ osg T ov xs, p ∈ G) : rdS (M.add G) sz (oad ov) n xs := by
 cases ov with
 | none =>
  obtain ⟨rfl, rfl⟩ := ai
  exact .inl ⟨by simp, rfl⟩
 | some p =>
  obtain ⟨b, cap, sp⟩ := p
  obtain ⟨h1, h2, h3, h4⟩ := ai
  refine .inr ⟨b, 0, rfl, (xs ++ sp).toArray, T, (0, 0), .inr (hM _ (by simp [osg])), ?_, ?_⟩
  ·simp at h2 ⊢; omega
  ·simp [← h1]
def cat {α : Type} : List (List α) → List α
 | [] => []
 | [x] => x
 | x :: y :: l => x ++ cat (y :: l)
theorem Ya {α : Type} (x : List α) : ∀ l : List (List α), cat (x :: l) = x ++ cat l
 | [] => by simp [cat]
 | _ :: _ => rfl
theorem B8 {α : Type} : ∀ (l : List (List α)) (i : Nat) (h : i < l.length), (cat l).Perm (l[i] ++ cat (l.eraseIdx i))
 | x :: l, 0, _ => by simp [Ya]
 | x :: l, i + 1, h => by
  have := B8 l i (by simpa using h)
  simp only [Ya, lAs, lBb]
  refine (lEi x this).trans ?_
  rw [← lAc, ← lAc]
  exact List.Perm.append_right _ lBt
theorem C9 {α : Type} : cat ([] : List (List α)) = [] := rfl
theorem Da {α : Type} (x : List α) : cat [x] = x := rfl
theorem Db {α : Type} (x y : List α) (l : List (List α)) : cat (x :: y :: l) = x ++ cat (y :: l) := rfl
theorem JT {c want : Bool} {A : (Bool → Prop) → Prop} {K : Bool → Prop} (e : Bool) (h : c = want → A fun u => u = e) (hk : K (if want then c && e else c || e)) : So c want A K := ⟨e, h, hk⟩
theorem A4.intro {c want : Bool} {M : Aa} {G : Own} {A : (Bool → Aa → Own → Prop) → Prop} {K : Bool → Aa → Own → Prop} (h : c = want → A K) (h2 : c ≠ want → K c M G) : A4 c want M G A K := ⟨h, h2⟩
theorem Ax {G G' : Own} (h : G.Sublist G') : ∀ p, p ∈ G → p ∈ G' := fun _ hp => h.subset hp
theorem Af5 {ρ : Env} {t : Nat} {x y : Int} (h : get ρ t = some (.int .i64 (IntKind.i64.wrap x))) (e : x = y) (h1 : -9223372036854775808 ≤ y) (h2 : y < 9223372036854775808) : get ρ t = some (.int .i64 y) := by
 subst e; rw [h, w64 h1 h2]
class At (G : Own) (b : Nat) (T : outParam TypeId) (cs : outParam (List Value)) : Prop where
 mem : (b, Cl T cs) ∈ G
instance At.here {G : Own} {b : Nat} {T : TypeId} {cs : List Value} : At ((b, Cl T cs) :: G) b T cs := ⟨lB1 ..⟩
instance (priority := low) At.there {G : Own} {p : Nat × Obj} {b : Nat} {T : TypeId} {cs : List Value} [h : At G b T cs] : At (p :: G) b T cs := ⟨lBa _ h.mem⟩
class Split (G : Own) (b : Nat) (T : outParam TypeId) (cs : outParam (List Value)) (Ga Gb : outParam Own) : Prop where
 eq : G = Ga ++ (b, Cl T cs) :: Gb
instance Split.here {G : Own} {b : Nat} {T : TypeId} {cs : List Value} : Split ((b, Cl T cs) :: G) b T cs [] G := ⟨rfl⟩
instance (priority := low) Split.there {G : Own} {p : Nat × Obj} {b : Nat} {T : TypeId} {cs : List Value} {Ga Gb : Own} [h : Split G b T cs Ga Gb] : Split (p :: G) b T cs (p :: Ga) Gb := ⟨by rw [h.eq]; rfl⟩
theorem xr {M : Aa} {G : Own} {b off n : Nat} {T : TypeId} {cs out : List Value} {K : List Value → Prop} [h : At G b T cs] (e : (cs.drop off).take n = out) (hl : off + n ≤ cs.length) (k : K out) : ∃ cs, rd (M.add G) b off n cs ∧ K cs := ⟨out, Bm h.mem e hl, k⟩
theorem xi {M : Aa} {G : Own} {b off : Nat} {T : TypeId} {cs : List Value} {α : Type} {f : α → Value} {x : α} {K : α → Prop} [h : At G b T cs] (e : (cs.drop off).take 1 = [f x]) (hl : off + 1 ≤ cs.length) (k : K x) : ∃ n, rd (M.add G) b off 1 [f n] ∧ K n := ⟨x, Bm h.mem e hl, k⟩
theorem xs {M : Aa} {G : Own} {b off : Nat} {T : TypeId} {cs : List Value} {a : Option Addr} {n c : Nat} {K : Option Addr → Nat → Nat → Prop} [h : At G b T cs] (e : (cs.drop off).take 1 = [.slice a n c]) (hl : off + 1 ≤ cs.length) (k : K a n c) : ∃ a n c, rd (M.add G) b off 1 [.slice a n c] ∧ K a n c := ⟨a, n, c, Bm h.mem e hl, k⟩
theorem xw {G Ga Gb : Own} {b : Nat} {T : TypeId} {cs : List Value} {K : TypeId → List Value → Own → Own → Prop} [h : Split G b T cs Ga Gb] (k : K T cs Ga Gb) : ∃ T cs Ga Gb, G = Ga ++ (b, Cl T cs) :: Gb ∧ K T cs Ga Gb := ⟨T, cs, Ga, Gb, h.eq, k⟩
theorem nx {A B : Prop} (h : B) (e : A = B := by simp only [wpS, wpA, Js, push_cast, lB8, reduceIte, Nat.reduceEqDiff, reduceCtorEq, Nat.reduceAdd, Nat.reduceSub, Nat.reduceMul, Int.reduceToNat, Nat.reduceLeDiff]; exact rfl) : A := Eq.mpr e h
theorem nz {A B : Prop} (h : B) (e : A = B := by simp only [push_cast, lB8, reduceIte, Nat.reduceEqDiff, reduceCtorEq, Nat.reduceAdd, Nat.reduceSub, Nat.reduceMul, Int.reduceToNat, Nat.reduceLeDiff]; exact rfl) : A := Eq.mpr e h
theorem Ah {A B : Prop} (h : A) (e : A → False := by intro h; first | exact h | exact h True.intro | omega | (simp only [not_true_eq_false, false_or, or_false] at h; omega)) : B := (e h).elim
theorem EV.condX {C : Cx P} {V : List Nat} {k : List RItem} {ρ : Env} {M : Aa} {G : Own} {c : A} {b : Bool} {x y : RCode} {p q : Prop} (hc : ev ρ c = some (.bool b)) (h1 : p → EV C V (.code x :: k) ρ M G) (h2 : q → EV C V (.code y :: k) ρ M G)
  (e1 : (b = true) = p := by first | (simp only [reduceCtorEq, reduceIte, if_true, if_false, lB6, lCe, decide_eq_true_eq, decide_eq_false_iff_not, lA6, lAr, lBj, lBq, false_and, and_false, true_and, and_true, false_or, or_false, true_or, or_true]; exact rfl) | exact rfl)
  (e2 : (b = false) = q := by first | (simp only [reduceCtorEq, reduceIte, if_true, if_false, lB6, lCe, decide_eq_true_eq, decide_eq_false_iff_not, lA6, lAr, lBj, lBq, false_and, and_false, true_and, and_true, false_or, or_false, true_or, or_true]; exact rfl) | exact rfl) : EV C V (.code (.cond c x y) :: k) ρ M G :=
 EV.cond hc (fun h => h1 (e1 ▸ h)) (fun h => h2 (e2 ▸ h))
theorem xrA {M : Aa} {G : Own} {b off n : Nat} {T : TypeId} {cs out : List Value} {K : List Value → Prop} [h : At G b T cs] (e : (cs.drop off).take n = out) (k : K out) (hl : off + n ≤ cs.length := by simp only [lB3, lC1]; omega) : ∃ cs, rd (M.add G) b off n cs ∧ K cs := xr e hl k
theorem xiA {M : Aa} {G : Own} {b off : Nat} {T : TypeId} {cs : List Value} {α : Type} {f : α → Value} {x : α} {K : α → Prop} [h : At G b T cs] (e : (cs.drop off).take 1 = [f x]) (k : K x) (hl : off + 1 ≤ cs.length := by simp only [lB3, lC1]; omega) : ∃ n, rd (M.add G) b off 1 [f n] ∧ K n := xi e hl k
theorem xsA {M : Aa} {G : Own} {b off : Nat} {T : TypeId} {cs : List Value} {a : Option Addr} {n c : Nat} {K : Option Addr → Nat → Nat → Prop} [h : At G b T cs] (e : (cs.drop off).take 1 = [.slice a n c]) (k : K a n c) (hl : off + 1 ≤ cs.length := by simp only [lB3, lC1]; omega) : ∃ a n c, rd (M.add G) b off 1 [.slice a n c] ∧ K a n c := xs e hl k
def Qq (A B : Prop) : Prop := A = B
theorem qqr {A : Prop} : Qq A A := rfl
theorem rg {P : Program} {C : Cx P} {V : List Nat} {k : List RItem} {ρ : Env} {M : Aa} {G : Own} {sts : Sts} {B : Prop} (h : B) (e : Qq (wpS C sts (Wb V ρ) M G (fun ρ' M' G' => EV C V k ρ' M' G')) B := by (conv => (arg 1; arg 2; whnf)); simp only [wpS, wpA, Js, push_cast, lB8, reduceIte, Nat.reduceEqDiff, reduceCtorEq, Nat.reduceAdd, Nat.reduceSub, Nat.reduceMul, Int.reduceToNat, Nat.reduceLeDiff]; exact qqr) : EV C V (.code (.reg sts) :: k) ρ M G := EV.reg (Eq.mpr e h)
theorem rt {P : Program} {f : Nat} {Q : List Nat} {w0 : World} {F : List Nat} {M0 : Aa} {k : List RItem} {ρ : Env} {M : Aa} {G : Own} {Φ : Value → Aa → Own → Prop} {R : RFun} {B : Prop} {V : List Nat} (hR : Al P V Q f = some R) (h : B) (e : Qq (Bi8 R ρ M G Φ) B := by (conv => (arg 1; arg 1; whnf)); simp only [wpS, wpA, Js, push_cast, lB8, reduceIte, Nat.reduceEqDiff, reduceCtorEq, Nat.reduceAdd, Nat.reduceSub, Nat.reduceMul, Int.reduceToNat, Nat.reduceLeDiff]; exact qqr) : EV (Cx.fn P f R.nt w0 F M0 Φ) R.V (.code .ret :: k) ρ M G := EV.ret hR (Eq.mpr e h)
theorem cX {P : Program} {C : Cx P} {V : List Nat} {k : List RItem} {ρ : Env} {M : Aa} {G : Own} {c : A} {b : Bool} {x y : RCode} {p q : Prop} (h1 : p → EV C V (.code x :: k) ρ M G) (h2 : q → EV C V (.code y :: k) ρ M G) (hc : ev ρ c = some (.bool b) := by rfl)
 (e1 : (b = true) = p := by first | (simp only [reduceCtorEq, reduceIte, if_true, if_false, lB6, lCe, decide_eq_true_eq, decide_eq_false_iff_not, lA6, lAr, lBj, lBq, false_and, and_false, true_and, and_true, false_or, or_false, true_or, or_true]; exact rfl) | exact rfl)
 (e2 : (b = false) = q := by first | (simp only [reduceCtorEq, reduceIte, if_true, if_false, lB6, lCe, decide_eq_true_eq, decide_eq_false_iff_not, lA6, lAr, lBj, lBq, false_and, and_false, true_and, and_true, false_or, or_false, true_or, or_true]; exact rfl) | exact rfl) : EV C V (.code (.cond c x y) :: k) ρ M G :=
 EV.cond hc (fun h => h1 (e1 ▸ h)) (fun h => h2 (e2 ▸ h))
theorem xm {α : Type} {M : Aa} {G : Own} {b o m : Nat} {f : α → List Value} {x : α} {K : α → Prop} (k : K x) (h : rd M b o m (f x) := by assumption) : ∃ n, rd (M.add G) b o m (f n) ∧ K n := ⟨x, Aw8 h, k⟩
theorem xn {M : Aa} {G : Own} {b o m n c : Nat} {a : Option Addr} {K : Option Addr → Nat → Nat → Prop} (k : K a n c) (h : rd M b o m [.slice a n c] := by assumption) : ∃ a n c, rd (M.add G) b o m [.slice a n c] ∧ K a n c := ⟨a, n, c, Aw8 h, k⟩
attribute [push_cast] lB8
theorem eE {P : Prop} (h : P := by (repeat' first | (refine lBs.2 (lAd ?_ ?_)) | (intro _ bn; cases bn; done) | rfl | (refine Af5 rfl (by first | rfl | (push_cast; first | rfl | omega)) (by omega) (by omega); done))) : P := h
theorem ZF {p q : Prop} (h : q) (k : p := by omega) : p ∧ q := ⟨k, h⟩
theorem eS {P : Prop} (h : P := by (repeat' first | exact lA0 _ | exact lAe _ | exact lAh _ _ | refine lAg _ ?_ | refine lAo ?_ _ | refine lA9 ?_ | refine lAq _ ?_)) : P := h
section
variable {P : Program}
def stp : Nat → List RItem → List RItem
 | 0, k => k
 | n+1, .code (.seq a b) :: k => stp n (.code a :: .code b :: k)
 | n+1, .code .skip :: k => stp n k
 | n+1, .code (.block i c) :: k => stp n (.code c :: .inBlock i :: k)
 | n+1, .inBlock _ :: k => stp n k
 | n+1, .code (.exit i) :: k => match Oj i k with | some j => stp n j | none => .code (.exit i) :: k
 | _+1, k => k
def stn : Nat → List RItem → List RItem
 | 0, k => k
 | n+1, .code .skip :: k => stn n k
 | n+1, .code (.block i c) :: k => stn n (.code c :: .inBlock i :: k)
 | n+1, .inBlock _ :: k => stn n k
 | n+1, .code (.exit i) :: k => match Oj i k with | some j => stn n j | none => .code (.exit i) :: k
 | _+1, k => k
def stB : Bool → List RItem → Bool
 | s, .code (.seq _ _) :: _ => s
 | _, .code .skip :: _ => true
 | _, .code (.block _ _) :: _ => true
 | _, .inBlock _ :: _ => true
 | _, .code (.exit _) :: _ => true
 | _, _ => false
theorem stp_ok {C : Cx P} {V : List Nat} {ρ : Env} {M : Aa} {G : Own} : ∀ n k, EV C V (stp n k) ρ M G → EV C V k ρ M G := by
 intro n
 induction n with
 | zero => exact fun k h => h
 | succ n ih =>
 intro k h
 unfold stp at h
 split at h
 ·rename_i e; cases e
 ·rename_i e; cases e; exact EV.seq (ih _ h)
 ·rename_i e; cases e; exact EV.skip (ih _ h)
 ·rename_i e; cases e; exact EV.block (ih _ h)
 ·rename_i e; cases e; exact EV.inBlock (ih _ h)
 ·rename_i e; cases e
  split at h
  ·rename_i e; exact EV.exit e (ih _ h)
  ·exact h
 ·exact h
theorem stn_ok {C : Cx P} {V : List Nat} {ρ : Env} {M : Aa} {G : Own} : ∀ n k, EV C V (stn n k) ρ M G → EV C V k ρ M G := by
 intro n
 induction n with
 | zero => exact fun k h => h
 | succ n ih =>
 intro k h
 unfold stn at h
 split at h
 ·rename_i e; cases e
 ·rename_i e; cases e; exact EV.skip (ih _ h)
 ·rename_i e; cases e; exact EV.block (ih _ h)
 ·rename_i e; cases e; exact EV.inBlock (ih _ h)
 ·rename_i e; cases e
  split at h
  ·rename_i e; exact EV.exit e (ih _ h)
  ·exact h
 ·exact h
def stK : List RItem → Bool
 | [] => true
 | _ :: _ => true
theorem st {C : Cx P} {V : List Nat} {k k' : List RItem} {ρ : Env} {M : Aa} {G : Own} (h : EV C V k' ρ M G) (_ : stB true k = true := by exact rfl) (e : ∃ n, stp n k = k' ∧ (n = 1 ∨ stK k' = true) := by first | (refine ⟨99, ?_, .inr ?_⟩; (conv => (lhs; whnf)); exact rfl) | (refine ⟨1, ?_, .inl rfl⟩; (conv => (lhs; whnf)))) : EV C V k ρ M G := by
 obtain ⟨n, rfl, _⟩ := e
 exact stp_ok n k h
theorem su {C : Cx P} {V : List Nat} {k k' : List RItem} {ρ : Env} {M : Aa} {G : Own} (h : EV C V k' ρ M G) (_ : stB false k = true := by exact rfl) (e : ∃ n, stn n k = k' ∧ (n = 1 ∨ stK k' = true) := by first | (refine ⟨99, ?_, .inr ?_⟩; (conv => (lhs; whnf)); exact rfl) | (refine ⟨1, ?_, .inl rfl⟩; (conv => (lhs; whnf)))) : EV C V k ρ M G := by
 obtain ⟨n, rfl, _⟩ := e
 exact stn_ok n k h
end
open Go.Proofs

abbrev zA (d : Nat) (r : ROp) (k : Sts) : Sts := .op (some d) r k
abbrev zB (d n : Nat) (k : Sts) : Sts := .op (some d) (.mv (.t n)) k
abbrev zC (i d : Nat) (r : ROp) (k : QL) : QL := .op i (some d) r k
abbrev zD (i d n : Nat) (k : QL) : QL := .op i (some d) (.mv (.t n)) k
abbrev zE (i d : Nat) (r : ROp) (re : Bool) (k m : AT) : AT := .s i (some d) r re k m
abbrev zF (k : AT) : AT := .q .nil k
abbrev zG (d : Nat) (n : Int) (k : Sts) : Sts := .op (some d) (.mv (.c (.int .i64 n))) k
abbrev zH (k n d : Nat) : ROp := .iaddrS k (.t n) (.t d)
abbrev zI (k n : Nat) : ROp := .faddr k (.t n)
abbrev zJ (n : Nat) : ROp := .loadI .i64 (.t n)
abbrev zK (n : Nat) : ROp := .loadS (.t n)
abbrev zL (i d : Nat) (k : AT) : AT := .sk i (some d) k
abbrev zM (n : Nat) : ROp := .len (.t n)
abbrev zN (n : Nat) : A := .c (.int .i64 n)

abbrev Zn : Value := .slice none 0 0
abbrev Zi : Value := .int .i64 0
abbrev Zf : Value := .bool false
abbrev Zb (o : BinOp) (a b : Nat) : ROp := .bin o (.t a) (.t b)
abbrev Zc (o : BinOp) (a : Nat) (n : Int) : ROp := .bin o (.t a) (.c (.int .i64 n))
abbrev Z1 (f a : Nat) : ROp := .call f [.t a]
abbrev Z2 (f a b : Nat) : ROp := .call f [.t a, .t b]
abbrev Zk (a : Nat) : ROp := .nilck (.t a)
abbrev Zt (a : Nat) : ROp := .notb (.t a)
abbrev Zo (k a : Nat) : ROp := .loadA k (.t a)
abbrev Zg (a : Nat) : ROp := .loadB (.t a)
abbrev Zx (k a : Nat) : ROp := .extract k (.t a)
abbrev ZW (a b : Nat) (k : Sts) : Sts := .op none (.store 1 (.t a) (.t b)) k
abbrev Zw (n a b : Nat) (k : Sts) : Sts := .op none (.store n (.t a) (.t b)) k
abbrev ZP (a b c d x o : Nat) (k : Sts) : Sts := zB a x <| zA b (Zk a) <| zA c (zI o b) <| zA d (zK c) k
abbrev ZO (a b c x o : Nat) (k : Sts) : Sts := zB a x <| zA b (Zk a) <| zA c (zI o b) k
abbrev ZY (c d o b : Nat) (k : Sts) : Sts := zA c (zI o b) <| zA d (zK c) k
abbrev Zy (c d o b : Nat) (k : Sts) : Sts := zA c (zI o b) <| zA d (zJ c) k
abbrev ZZ (a b x n s : Nat) (k : Sts) : Sts := zB a x <| zA b (zH n s a) k
abbrev Zj (a b n s i : Nat) (k : Sts) : Sts := zA a (zH n s i) <| zA b (zJ a) k
abbrev Zr (s : Sts) (c : RCode) : RCode := .seq (.reg s) c
abbrev ZX (t e : Nat) : RCode := .cond (.t t) .skip (.exit e)
abbrev Zs (t e : Nat) : RCode := .cond (.t t) (.exit e) .skip
abbrev Zu (a x b : Nat) : Sts := zB a x <| zA b (Zc .add a 1) <| zB x b .nil
abbrev Zl (a x b y c d : Nat) : Sts := zB a x <| zB b y <| zA c (zM b) <| zA d (Zb .lss a c) .nil
abbrev Zm (d : Nat) (v : Value) (k : Sts) : Sts := .op (some d) (.mv (.c v)) k
abbrev Zq (d T a : Nat) (k : Sts) : Sts := .op (some d) (.box T (.t a)) k
abbrev ZQ : List Nat := [15, 20, 31, 71, 88, 41, 76, 86, 65, 83, 81, 114, 117, 119, 122, 68, 100, 103, 104, 105, 137, 138, 64, 72, 96, 99, 158, 159, 132, 56, 93, 94, 130, 131, 155, 62, 23, 170]

def Dm3 : Sts := Zq 2 24 0<|Zm 4 Zf<|.nil
def Dm4 : Sts := zA 13 (.call 10 [])<|zA 14 (Zt 13)<|.nil
def Dm5 : Sts := Zm 4 Zf<|.nil
def Dm6 : Sts := zA 16 (Zo 1 2)<|zB 17 1<|zA 18 (Z2 16 16 17)<|zB 15 18<|zA 19 (Zx 0 15)<|zA 20 (Zx 1 15)<|zB 5 19<|zB 6 20<|.nil
def Dm7 : Sts := zA 22 (Zo 1 2)<|zB 23 1<|zA 24 (Z2 17 22 23)<|zB 21 24<|zA 25 (Zx 0 21)<|zA 26 (Zx 1 21)<|zA 7 (.alloc 45 [Zn, Zn, Zn, Zn])<|Zw 4 7 25<|zB 8 26<|.nil
def Dm8 : Sts := ZY 27 28 0 7<|zA 29 (zM 28)<|ZY 30 31 1 7<|zA 32 (zM 31)<|zA 33 (Zb .add 29 32)<|ZY 34 35 2 7<|zA 36 (zM 35)<|zA 37 (Zb .add 33 36)<|ZY 38 39 3 7<|zA 40 (zM 39)<|zA 41 (Zb .add 37 40)<|zA 42 (Zc .eql 41 0)<|zB 9 42<|.nil
def Dm9 : Sts := zA 43 (Zo 1 2)<|zA 44 (Z1 13 43)<|zB 10 44<|.nil
def Dn0 : Sts := zB 45 10<|zA 46 (Zc .neq 45 0)<|.nil
def Dn1 : Sts := zB 47 5<|zA 48 (Zt 47)<|zB 49 48<|.cnd 49 true (zB 50 9<|.nil) 51 (.t 50)<|zB 52 51<|.cnd 52 true (zB 53 6<|zB 54 10<|zA 55 (Zb .eql 53 54)<|.nil) 56 (.t 55)<|zB 57 56<|.cnd 57 true (zB 58 8<|zB 59 10<|zA 60 (Zb .eql 58 59)<|.nil) 61 (.t 60)<|zB 4 61<|.nil
def Dn2 : Sts := zA 62 (Zo 1 2)<|zA 63 (.call 14 [(.t 62), (zN 0)])<|zA 11 (.alloc 39 [Zn, Zn, Zn, Zn, Zn, Zn, Zn, Zi, Zi, Zn, Zn, Zn, Zn])<|Zw 13 11 63<|.nil
def Bk0 : Sts := ZY 64 65 6 11<|zB 66 1<|zA 67 (Z2 18 65 66)<|zA 68 (Zt 67)<|.nil
def Bk1 : Sts := zB 69 5<|zA 70 (Zt 69)<|zB 71 70<|.cnd 71 true (zB 72 9<|.nil) 73 (.t 72)<|zB 74 73<|.cnd 74 true (zB 75 6<|zA 76 (Zc .eql 75 0)<|.nil) 77 (.t 76)<|zB 78 77<|.cnd 78 true (zB 79 8<|zA 80 (Zc .eql 79 3)<|.nil) 81 (.t 80)<|zB 4 81<|.nil
def Bk2 : Sts := zA 82 (Zo 4 7)<|zA 12 (.alloc 37 [Zn, Zn, Zn, Zn])<|Zw 4 12 82<|.nil
def Bk3 : Sts := zB 83 5<|zB 84 83<|.cnd 84 true (zB 85 6<|zA 86 (Zc .eql 85 0)<|.nil) 87 (.t 86)<|zB 88 87<|.cnd 88 true (zB 89 8<|zA 90 (Zc .eql 89 0)<|.nil) 91 (.t 90)<|zB 92 91<|.cnd 92 true (zA 93 (Zo 1 2)<|zA 94 (Zo 4 12)<|zA 95 (Z2 19 93 94)<|zA 96 (Zc .eql 95 0)<|.nil) 97 (.t 96)<|zB 98 97<|.cnd 98 true (zA 99 (Zo 1 2)<|zA 100 (Zo 4 12)<|zA 101 (Z2 21 99 100)<|zB 102 1<|zA 103 (Z2 20 101 102)<|.nil) 104 (.t 103)<|zB 4 104<|.nil
def Q54 : RFun := ⟨105, [0, 1, 2, 4, 5, 6, 7, 8, 9, 10, 11, 12], (Zr Dm3 (.seq (Zr Dm4 (.cond (.t 14) (Zr Dm5 .ret) .skip)) (Zr Dm6 (Zr Dm7 (Zr Dm8 (.seq (Zr Dm9 (Zr Dn0 (.cond (.t 46) (Zr Dn1 .ret) .skip))) (Zr Dn2 (.seq (Zr Bk0 (.cond (.t 68) (Zr Bk1 .ret) .skip)) (Zr Bk2 (Zr Bk3 .ret)))))))))), [.tmp 4]⟩
theorem Q54_ok : Al Tryz.prog Q54.V ZQ 4 = some Q54 := by kernel_rfl

def Dn3 : Sts := Zm 0 Zf<|.nil
def Dn4 : Sts := zA 4 (.call 32 [])<|zA 5 (Z1 11 4)<|zB 3 5<|zA 6 (Zx 0 3)<|zA 7 (Zx 1 3)<|zB 1 6<|zB 2 7<|.nil
def Dn5 : Sts := zB 8 1<|zA 9 (zM 8)<|zA 10 (Zc .eql 9 4)<|zB 11 10<|.cnd 11 true (zB 12 1<|zA 13 (.iaddrS 1 (.t 12) (zN 0))<|zA 14 (zK 13)<|zA 15 (.buildSl 3 5 [Zi, Zi, Zi, Zi, Zi] [(0, 1, (zN 0)), (1, 1, (zN 0)), (2, 1, (zN 1)), (3, 1, (zN 1)), (4, 1, (zN 0))])<|zA 16 (Z2 20 14 15)<|.nil) 17 (.t 16)<|zB 18 17<|.cnd 18 true (zB 19 2<|zA 20 (Zc .eql 19 0)<|.nil) 21 (.t 20)<|zB 0 21<|.nil
def Q55 : RFun := ⟨22, [0, 1, 2], (Zr Dn3 (Zr Dn4 (Zr Dn5 .ret))), [.tmp 0]⟩
theorem Q55_ok : Al Tryz.prog Q55.V ZQ 10 = some Q55 := by kernel_rfl

def Fs5 : Sts := Zq 1 24 0<|Zm 2 Zn<|zG 3 0<|.nil
def Fs6 : Sts := zA 9 (Zo 1 1)<|zA 10 (Z1 33 9)<|zB 8 10<|zA 11 (Zx 0 8)<|zA 12 (Zx 1 8)<|zA 4 (.alloc 74 [Zn])<|ZW 4 11<|zB 5 12<|.nil
def Fs7 : Sts := zB 13 5<|zA 14 (Zc .neq 13 0)<|.nil
def Fs8 : Sts := zB 15 5<|Zm 2 Zn<|zB 3 15<|.nil
def Fs9 : Sts := zA 6 (.alloc 26 [Zn])<|.nil
def Ft0 : Sts := zA 16 (zK 4)<|zA 17 (Z1 34 16)<|.nil
def Ft1 : Sts := zA 7 (.alloc 45 [Zn, Zn, Zn, Zn])<|Zw 4 7 18<|.nil
def Fr7 : AT := .q (zC 0 19 (zK 6)<|zC 1 20 (zK 4)<|zC 2 21 (Zo 4 7)<|.nil)<|zE 3 22 (Z2 35 20 21) false (zF<|zE 4 23 (.buildSl 34 1 [Zn] [(0, 1, (.t 22))]) false (zF<|zE 5 24 (.append 34 1 24 [Zn] (.t 19) (.t 23)) true (zF<|.s 6 none (.store 1 (.t 6) (.t 24)) true (zF<|.fin)<|.no)<|.no)<|.no)<|.no
def Ft2 : Sts := zA 25 (zK 6)<|zA 26 (zM 25)<|zA 27 (Zc .gtr 26 4096)<|.nil
def Ft3 : Sts := zA 28 (zK 6)<|zA 29 (Z1 36 28)<|ZW 6 29<|.nil
def Jt : RCode := (.reg Ft1)
def Ju : RCode := (.block 1 (.seq (.any Fr7) (Zr Ft2 (.cond (.t 27) (.reg Ft3) .skip))))
def Dn6 : Sts := zA 30 (zK 6)<|zA 31 (Z1 36 30)<|zB 2 31<|zG 3 0<|.nil
def Q3 : RFun := ⟨32, [0, 1, 2, 3, 4, 5, 6, 7, 17, 18], (Zr Fs5 (Zr Fs6 (.seq (Zr Fs7 (.cond (.t 14) (Zr Fs8 .ret) .skip)) (Zr Fs9 (.seq (Zr Ft0 (.block 0 (.rangeF (.t 17) [18] Jt Ju))) (Zr Dn6 .ret)))))), [.tmp 2, .tmp 3]⟩
theorem Q3_ok : Al Tryz.prog Q3.V ZQ 11 = some Q3 := by kernel_rfl

def Dn7 : Sts := Zq 1 24 0<|zG 2 0<|.nil
def Dn8 : Sts := zG 3 0<|.nil
def Dn9 : Sts := zG 4 0<|.nil
def Do0 : Sts := zA 11 (.makeSl 3 1 8 [Zi] (zN 3) (zN 3))<|zB 5 11<|.nil
def Do1 : Sts := ZY 12 13 0 1<|zA 14 (zM 13)<|zA 15 (Zc .gtr 14 0)<|zB 6 15<|.nil
def Do2 : Sts := zG 7 0<|.nil
def Do3 : Sts := zB 16 7<|ZY 17 18 0 1<|zA 19 (zM 18)<|zA 20 (Zb .lss 16 19)<|.nil
def Do4 : Sts := zG 8 0<|.nil
def Do5 : Sts := zB 23 8<|ZY 24 25 0 1<|ZZ 26 27 7 1 25<|zA 28 (zK 27)<|zA 29 (zM 28)<|zA 30 (Zb .lss 23 29)<|.nil
def Do6 : Sts := ZY 33 34 0 1<|ZZ 35 36 7 1 34<|zA 37 (zK 36)<|ZZ 38 39 8 5 37<|zA 40 (Zo 5 39)<|zA 9 (.alloc 83 [Zi, Zi, Zi, Zi, Zi])<|Zw 5 9 40<|.nil
def Bk4 : Sts := zB 41 6<|zB 42 41<|.cnd 42 true (zA 43 (Zo 5 9)<|zA 44 (Z1 37 43)<|.nil) 45 (.t 44)<|zB 6 45<|.nil
def Bk5 : Sts := Zy 46 47 0 9<|zA 48 (Zc .eql 47 5)<|.nil
def Bk6 : Sts := Zu 49 4 50
def Bk7 : Sts := zA 51 (Zo 5 9)<|zA 52 (Z1 38 51)<|zA 53 (Zt 52)<|.nil
def Bk8 : Sts := Zu 54 3 55
def Bk9 : Sts := Zy 56 57 4 9<|zA 58 (Zc .eql 57 4)<|.nil
def Bl0 : Sts := zB 59 4<|zA 60 (Zc .add 59 2)<|zB 4 60<|.nil
def Bl1 : Sts := Zy 61 62 0 9<|zA 63 (Zc .gtr 62 0)<|zB 64 63<|.cnd 64 true (Zy 65 66 1 9<|zA 67 (Zc .geq 66 0)<|.nil) 68 (.t 67)<|zB 69 68<|.cnd 69 true (Zy 70 71 1 9<|zA 72 (Zc .lss 71 3)<|.nil) 73 (.t 72)<|.nil
def Bl2 : AT := .q (zD 0 74 5<|zC 1 75 (zI 1 9)<|zC 2 76 (zJ 75)<|zD 3 77 5<|zC 4 78 (zI 1 9)<|zC 5 79 (zJ 78)<|zC 6 80 (zH 1 77 79)<|zC 7 81 (zJ 80)<|zC 8 82 (Zc .add 81 1)<|zC 9 83 (zH 1 74 76)<|.nil)<|.s 10 none (.store 1 (.t 83) (.t 82)) true (zF<|.fin)<|.no
def Bl3 : Sts := Zu 31 8 32
def Aw9 : RCode := (.seq (Zr Do5 (ZX 30 2)) (.seq (.block 3 (Zr Do6 (Zr Bk4 (.seq (Zr Bk5 (.cond (.t 48) (.reg Bk6) .skip)) (.seq (Zr Bk7 (Zs 53 3)) (Zr Bk8 (.seq (Zr Bk9 (.cond (.t 58) (.reg Bl0) .skip)) (Zr Bl1 (.cond (.t 73) (.any Bl2) .skip))))))))) (.reg Bl3)))
def Bl4 : Sts := Zu 21 7 22
def Ax0 : RCode := (.seq (Zr Do3 (ZX 20 0)) (.seq (.block 1 (Zr Do4 (.block 2 (.loop Aw9)))) (.reg Bl4)))
def Bl5 : Sts := ZY 84 85 0 1<|zA 86 (zM 85)<|zA 87 (Zc .gtr 86 3)<|zB 88 87<|.cnd 88 false (zB 89 3<|zA 90 (Zc .gtr 89 6)<|.nil) 91 (.t 90)<|zB 92 91<|.cnd 92 false (zB 93 4<|zA 94 (Zc .gtr 93 8)<|.nil) 95 (.t 94)<|.nil
def Bl6 : Sts := zG 2 2<|.nil
def Bl7 : Sts := zG 10 0<|.nil
def Bl8 : Sts := Zl 96 10 97 5 98 99
def Bl9 : Sts := zB 102 5<|ZZ 103 104 10 1 102<|zA 105 (zJ 104)<|zA 106 (Zc .gtr 105 4)<|.nil
def Bm0 : Sts := zG 2 2<|.nil
def Bm1 : Sts := Zu 100 10 101
def Ax1 : RCode := (.seq (Zr Bl8 (ZX 99 4)) (.seq (.block 5 (Zr Bl9 (.cond (.t 106) (Zr Bm0 .ret) .skip))) (.reg Bm1)))
def Bm2 : Sts := zB 107 6<|zA 108 (Zt 107)<|.nil
def Bm3 : Sts := zG 2 1<|.nil
def Bm4 : Sts := zG 2 0<|.nil
def Q67 : RFun := ⟨109, [0, 1, 2, 3, 4, 5, 6, 7, 8, 9, 10], (Zr Dn7 (Zr Dn8 (Zr Dn9 (Zr Do0 (Zr Do1 (.seq (Zr Do2 (.block 0 (.loop Ax0))) (.seq (Zr Bl5 (.cond (.t 95) (Zr Bl6 .ret) .skip)) (.seq (Zr Bl7 (.block 4 (.loop Ax1))) (.seq (Zr Bm2 (.cond (.t 108) (Zr Bm3 .ret) .skip)) (Zr Bm4 .ret)))))))))), [.tmp 2]⟩
theorem Q67_ok : Al Tryz.prog Q67.V ZQ 13 = some Q67 := by kernel_rfl

def Bm5 : Sts := Zq 2 24 0<|zA 4 (.alloc 39 [Zn, Zn, Zn, Zn, Zn, Zn, Zn, Zi, Zi, Zn, Zn, Zn, Zn])<|.nil
def Bm6 : AT := .q (zC 0 6 (Zo 1 2)<|zC 1 7 (Zo 1 2)<|zD 3 9 1<|.nil)<|zE 2 8 (Z1 39 7) false (.q (zC 4 10 (.build [Zn, Zn, Zn, Zn, Zn, Zn, Zn, Zi, Zi, Zn, Zn, Zn, Zn] [(0, 1, (.t 6)), (1, 1, (.t 8)), (8, 1, (.t 9))])<|.nil)<|zE 5 5 (.alloc 39 [Zn, Zn, Zn, Zn, Zn, Zn, Zn, Zi, Zi, Zn, Zn, Zn, Zn]) false (zF<|.s 6 none (.store 13 (.t 5) (.t 10)) true (zF<|.fin)<|.no)<|.no)<|zE 5 5 (.alloc 39 [Zn, Zn, Zn, Zn, Zn, Zn, Zn, Zi, Zi, Zn, Zn, Zn, Zn]) false (zF<|zE 2 8 (Z1 39 7) false (.q (zC 4 10 (.build [Zn, Zn, Zn, Zn, Zn, Zn, Zn, Zi, Zi, Zn, Zn, Zn, Zn] [(0, 1, (.t 6)), (1, 1, (.t 8)), (8, 1, (.t 9))])<|.nil)<|.s 6 none (.store 13 (.t 5) (.t 10)) true (zF<|.fin)<|.no)<|.no)<|.no
def Bm7 : AT := .q (zC 0 11 (zI 1 5)<|zC 1 12 (zK 11)<|zC 2 13 (zM 12)<|zC 4 15 (zI 1 5)<|zC 5 16 (zK 15)<|zC 6 17 (zM 16)<|.nil)<|zE 3 14 (.makeSl 3 1 8 [Zi] (.t 13) (.t 13)) false (zF<|zE 7 18 (.makeSl 4 1 1 [Zf] (.t 17) (.t 17)) false (zF<|zE 8 19 (.makeSl 34 1 24 [Zn] (zN 3) (zN 3)) false (.q (zC 9 20 (.build [Zn, Zn, Zn, Zn] [(0, 1, (.t 14)), (1, 1, (.t 18)), (2, 1, (.t 19))])<|zC 10 21 (zI 2 5)<|.nil)<|.s 11 none (.store 4 (.t 21) (.t 20)) true (zF<|.fin)<|.no)<|.no)<|zE 8 19 (.makeSl 34 1 24 [Zn] (zN 3) (zN 3)) false (zF<|zE 7 18 (.makeSl 4 1 1 [Zf] (.t 17) (.t 17)) false (.q (zC 9 20 (.build [Zn, Zn, Zn, Zn] [(0, 1, (.t 14)), (1, 1, (.t 18)), (2, 1, (.t 19))])<|zC 10 21 (zI 2 5)<|.nil)<|.s 11 none (.store 4 (.t 21) (.t 20)) true (zF<|.fin)<|.no)<|.no)<|.no)<|zE 7 18 (.makeSl 4 1 1 [Zf] (.t 17) (.t 17)) false (zF<|zE 3 14 (.makeSl 3 1 8 [Zi] (.t 13) (.t 13)) false (zF<|zE 8 19 (.makeSl 34 1 24 [Zn] (zN 3) (zN 3)) false (.q (zC 9 20 (.build [Zn, Zn, Zn, Zn] [(0, 1, (.t 14)), (1, 1, (.t 18)), (2, 1, (.t 19))])<|zC 10 21 (zI 2 5)<|.nil)<|.s 11 none (.store 4 (.t 21) (.t 20)) true (zF<|.fin)<|.no)<|.no)<|zE 8 19 (.makeSl 34 1 24 [Zn] (zN 3) (zN 3)) false (zF<|zE 3 14 (.makeSl 3 1 8 [Zi] (.t 13) (.t 13)) false (.q (zC 9 20 (.build [Zn, Zn, Zn, Zn] [(0, 1, (.t 14)), (1, 1, (.t 18)), (2, 1, (.t 19))])<|zC 10 21 (zI 2 5)<|.nil)<|.s 11 none (.store 4 (.t 21) (.t 20)) true (zF<|.fin)<|.no)<|.no)<|.no)<|zE 8 19 (.makeSl 34 1 24 [Zn] (zN 3) (zN 3)) false (zF<|zE 3 14 (.makeSl 3 1 8 [Zi] (.t 13) (.t 13)) false (zF<|zE 7 18 (.makeSl 4 1 1 [Zf] (.t 17) (.t 17)) false (.q (zC 9 20 (.build [Zn, Zn, Zn, Zn] [(0, 1, (.t 14)), (1, 1, (.t 18)), (2, 1, (.t 19))])<|zC 10 21 (zI 2 5)<|.nil)<|.s 11 none (.store 4 (.t 21) (.t 20)) true (zF<|.fin)<|.no)<|.no)<|zE 7 18 (.makeSl 4 1 1 [Zf] (.t 17) (.t 17)) false (zF<|zE 3 14 (.makeSl 3 1 8 [Zi] (.t 13) (.t 13)) false (.q (zC 9 20 (.build [Zn, Zn, Zn, Zn] [(0, 1, (.t 14)), (1, 1, (.t 18)), (2, 1, (.t 19))])<|zC 10 21 (zI 2 5)<|.nil)<|.s 11 none (.store 4 (.t 21) (.t 20)) true (zF<|.fin)<|.no)<|.no)<|.no)<|.no
def Do7 : Sts := zA 22 (.call 40 [(.t 5), (zN 0)])<|.nil
def Do8 : Sts := zA 23 (Zo 13 5)<|Zw 13 4 23<|.nil
def Q73 : RFun := ⟨24, [0, 1, 2, 4, 5], (Zr Bm5 (.seq (.any Bm6) (.seq (.any Bm7) (Zr Do7 (Zr Do8 .ret))))), [.cellA 4 13]⟩
theorem Q73_ok : Al Tryz.prog Q73.V ZQ 14 = some Q73 := by kernel_rfl

def Ft4 : Sts := Zq 2 24 0<|Zm 4 Zf<|zG 5 0<|.nil
def Ft5 : Sts := zA 9 (Zo 1 2)<|zB 10 1<|zA 11 (Z2 17 9 10)<|zB 8 11<|zA 12 (Zx 0 8)<|zA 13 (Zx 1 8)<|zA 6 (.alloc 45 [Zn, Zn, Zn, Zn])<|Zw 4 6 12<|zB 7 13<|.nil
def Ft6 : Sts := zB 14 7<|zA 15 (Zc .eql 14 3)<|.nil
def Ft7 : Sts := Zm 4 Zf<|zG 5 0<|.nil
def Ft8 : Sts := zB 16 7<|zA 17 (Zc .eql 16 0)<|zB 18 7<|zB 4 17<|zB 5 18<|.nil
def Q1 : RFun := ⟨19, [0, 1, 2, 4, 5, 7], (Zr Ft4 (Zr Ft5 (.seq (Zr Ft6 (.cond (.t 15) (Zr Ft7 .ret) .skip)) (Zr Ft8 .ret)))), [.tmp 4, .tmp 5]⟩
theorem Q1_ok : Al Tryz.prog Q1.V ZQ 16 = some Q1 := by kernel_rfl

def Do9 : Sts := Zm 4 Zf<|.nil
def Dp0 : Sts := zG 5 0<|.nil
def Dp1 : Sts := zB 8 0<|zA 9 (zM 8)<|zB 6 9<|.nil
def Dp2 : Sts := zB 10 5<|zB 11 6<|zA 12 (Zb .lss 10 11)<|.nil
def Dp3 : Sts := zB 13 5<|zB 14 6<|zA 15 (Zb .add 13 14)<|zA 16 (Zc .quo 15 2)<|zB 7 16<|.nil
def Dp4 : Sts := zB 17 0<|ZZ 18 19 7 1 17<|zA 20 (zK 19)<|zB 21 1<|zA 22 (Z2 31 20 21)<|.nil
def Dp5 : Sts := zB 23 7<|zA 24 (Zc .add 23 1)<|zB 5 24<|.nil
def Dp6 : Sts := zB 25 7<|zB 6 25<|.nil
def Bm8 : RCode := (.seq (Zr Dp2 (ZX 12 0)) (.block 1 (Zr Dp3 (Zr Dp4 (.cond (.t 22) (.reg Dp5) (.reg Dp6))))))
def Dp7 : Sts := zB 26 5<|zB 27 0<|zA 28 (zM 27)<|zA 29 (Zb .lss 26 28)<|zB 30 29<|.cnd 30 true (zB 31 0<|ZZ 32 33 5 1 31<|zA 34 (zK 33)<|zB 35 1<|zA 36 (Z2 20 34 35)<|.nil) 37 (.t 36)<|zB 4 37<|.nil
def Q63 : RFun := ⟨38, [0, 1, 4, 5, 6, 7], (Zr Do9 (Zr Dp0 (Zr Dp1 (.seq (.block 0 (.loop Bm8)) (Zr Dp7 .ret))))), [.tmp 4]⟩
theorem Q63_ok : Al Tryz.prog Q63.V ZQ 18 = some Q63 := by kernel_rfl

def Dp8 : Sts := Zq 2 24 0<|Zq 3 37 1<|zG 4 0<|.nil
def Dp9 : Sts := zA 12 (Zo 1 2)<|zA 13 (Z1 39 12)<|zB 5 13<|.nil
def Dq0 : Sts := zB 14 5<|zA 15 (Zo 4 3)<|zA 16 (Z2 42 14 15)<|zA 17 (Zt 16)<|.nil
def Dq1 : Sts := zG 4 1<|.nil
def Dq2 : Sts := zB 19 5<|zA 20 (Zo 4 3)<|zA 21 (Z2 43 19 20)<|zB 18 21<|zA 22 (Zx 0 18)<|zA 23 (Zx 1 18)<|zA 24 (Zx 2 18)<|zB 6 22<|zB 7 23<|zB 8 24<|.nil
def Dq3 : Sts := zB 25 5<|zA 26 (Zo 4 3)<|zB 27 6<|zB 28 8<|zA 29 (.call 44 [(.t 25), (.t 26), (.t 27), (.t 28)])<|zA 30 (Zt 29)<|.nil
def Dq4 : Sts := zG 4 1<|.nil
def Dq5 : Sts := zB 32 5<|zA 33 (Zo 4 3)<|zA 34 (Z2 45 32 33)<|zB 31 34<|zA 35 (Zx 0 31)<|zA 36 (Zx 1 31)<|zA 37 (Zx 2 31)<|zB 9 35<|zB 10 36<|zB 11 37<|.nil
def Dq6 : Sts := zB 38 11<|zA 39 (Zt 38)<|.nil
def Dq7 : Sts := zG 4 2<|.nil
def Ar8 : AT := .q (zD 0 40 5<|zD 2 42 5<|zC 3 43 (Zo 4 3)<|zC 5 45 (Zo 4 3)<|.nil)<|zE 1 41 (Z1 49 40) false (zF<|zE 4 44 (Z2 50 42 43) false (zF<|zE 6 46 (Z1 51 45) true (zF<|zE 7 47 (Z2 48 44 46) true (zF<|zE 8 48 (Z2 48 41 47) true (zF<|zE 9 49 (Z1 47 48) true (zF<|zE 10 50 (Z1 46 49) true (zF<|.fin)<|.no)<|.no)<|.no)<|.no)<|.no)<|.no)<|.no
def Bm9 : Sts := zG 4 2<|.nil
def Ar9 : AT := .q (zD 0 51 5<|zC 1 52 (Zo 4 3)<|zD 3 54 5<|zC 4 55 (Zo 4 3)<|.nil)<|zE 2 53 (Z2 53 51 52) false (zF<|zE 5 56 (Z2 54 54 55) true (zF<|zE 6 57 (Z2 52 53 56) true (zF<|.fin)<|.no)<|.no)<|.no
def Bn0 : Sts := zG 4 3<|.nil
def Bn1 : Sts := zB 58 5<|zA 59 (Zo 4 3)<|zA 60 (Z2 55 58 59)<|zA 61 (Zt 60)<|.nil
def Bn2 : Sts := zG 4 4<|.nil
def Bn3 : Sts := zG 4 0<|.nil
def Q75 : RFun := ⟨62, [0, 1, 2, 3, 4, 5, 6, 8, 11], (Zr Dp8 (Zr Dp9 (.seq (Zr Dq0 (.cond (.t 17) (Zr Dq1 .ret) .skip)) (Zr Dq2 (.seq (Zr Dq3 (.cond (.t 30) (Zr Dq4 .ret) .skip)) (Zr Dq5 (.seq (Zr Dq6 (.cond (.t 39) (Zr Dq7 .ret) .skip)) (.seq (.seq (.any Ar8) (.cond (.t 50) (Zr Bm9 .ret) .skip)) (.seq (.seq (.any Ar9) (.cond (.t 57) (Zr Bn0 .ret) .skip)) (.seq (Zr Bn1 (.cond (.t 61) (Zr Bn2 .ret) .skip)) (Zr Bn3 .ret))))))))))), [.tmp 4]⟩
theorem Q75_ok : Al Tryz.prog Q75.V ZQ 19 = some Q75 := by kernel_rfl

def Dq8 : Sts := Zm 4 Zf<|.nil
def Dq9 : Sts := zB 6 0<|zA 7 (zM 6)<|zB 8 1<|zA 9 (zM 8)<|zA 10 (Zb .neq 7 9)<|.nil
def Dr0 : Sts := Zm 4 Zf<|.nil
def Dr1 : Sts := zG 5 0<|.nil
def Dr2 : Sts := Zl 11 5 12 0 13 14
def Dr3 : AT := .q (zD 0 17 0<|zD 1 18 5<|zC 2 19 (zH 1 17 18)<|zC 3 20 (zJ 19)<|zD 4 21 1<|zD 5 22 5<|zC 6 23 (zH 1 21 22)<|zC 7 24 (zJ 23)<|zC 8 25 (Zb .neq 20 24)<|.nil)<|.fin
def Dr4 : Sts := Zm 4 Zf<|.nil
def Dr5 : Sts := Zu 15 5 16
def Bn4 : RCode := (.seq (Zr Dr2 (ZX 14 0)) (.seq (.block 1 (.seq (.any Dr3) (.cond (.t 25) (Zr Dr4 .ret) .skip))) (.reg Dr5)))
def Dr6 : Sts := zA 4 (.mv (.c (.bool true)))<|.nil
def Q60 : RFun := ⟨26, [0, 1, 4, 5], (Zr Dq8 (.seq (Zr Dq9 (.cond (.t 10) (Zr Dr0 .ret) .skip)) (.seq (Zr Dr1 (.block 0 (.loop Bn4))) (Zr Dr6 .ret)))), [.tmp 4]⟩
theorem Q60_ok : Al Tryz.prog Q60.V ZQ 20 = some Q60 := by kernel_rfl

def Dr7 : Sts := Zq 2 24 0<|Zq 3 37 1<|Zm 4 Zn<|.nil
def Dr8 : Sts := zA 14 (Zo 1 2)<|zA 15 (Z1 39 14)<|zB 5 15<|.nil
def Dr9 : Sts := zB 17 5<|zA 18 (Zo 4 3)<|zA 19 (Z2 45 17 18)<|zB 16 19<|zA 20 (Zx 0 16)<|zA 21 (Zx 1 16)<|zA 22 (Zx 2 16)<|zB 6 20<|zB 7 21<|zB 8 22<|.nil
def Ds0 : Sts := Zm 9 Zn<|.nil
def Ds1 : Sts := zG 10 0<|.nil
def Ds2 : Sts := Zl 23 10 24 5 25 26
def Ds3 : Sts := zB 29 5<|ZZ 30 31 10 6 29<|zA 32 (zI 1 31)<|zA 33 (Zo 5 32)<|zA 34 (Z1 56 33)<|.nil
def Ds4 : Sts := zB 35 9<|zB 36 6<|ZZ 37 38 10 1 36<|zA 39 (zJ 38)<|zA 40 (.buildSl 3 1 [Zi] [(0, 1, (.t 39))])<|zA 41 (.append 3 1 8 [Zi] (.t 35) (.t 40))<|zB 9 41<|.nil
def Ds5 : Sts := Zu 27 10 28
def Bn5 : RCode := (.seq (Zr Ds2 (ZX 26 0)) (.seq (.block 1 (Zr Ds3 (.cond (.t 34) (.reg Ds4) .skip))) (.reg Ds5)))
def Ds6 : Sts := zG 11 0<|.nil
def Bn6 : Sts := zB 42 11<|zA 43 (Zc .lss 42 3)<|.nil
def Bn7 : Sts := zG 12 0<|.nil
def Bn8 : Sts := ZY 46 47 2 3<|ZZ 48 49 11 1 47<|zA 50 (zK 49)<|zA 51 (zM 50)<|zB 13 51<|.nil
def Bn9 : Sts := zB 52 13<|zA 53 (Zc .gtr 52 0)<|.nil
def Bo0 : Sts := zB 54 7<|ZY 55 56 2 3<|ZZ 57 58 11 1 56<|zA 59 (zK 58)<|zB 60 13<|zA 61 (Zc .sub 60 1)<|Zj 62 63 1 59 61<|Zj 64 65 1 54 63<|zB 12 65<|.nil
def Bo1 : Sts := zB 66 9<|zB 67 12<|zA 68 (.buildSl 3 1 [Zi] [(0, 1, (.t 67))])<|zA 69 (.append 3 1 8 [Zi] (.t 66) (.t 68))<|zB 9 69<|.nil
def Bo2 : Sts := Zu 44 11 45
def Ax2 : RCode := (.seq (Zr Bn6 (ZX 43 2)) (.seq (.block 3 (Zr Bn7 (.seq (Zr Bn8 (Zr Bn9 (.cond (.t 53) (.reg Bo0) .skip))) (.reg Bo1)))) (.reg Bo2)))
def Bo3 : Sts := zB 70 9<|zB 4 70<|.nil
def Q76 : RFun := ⟨71, [0, 1, 2, 3, 4, 5, 6, 7, 9, 10, 11, 12, 13], (Zr Dr7 (Zr Dr8 (Zr Dr9 (Zr Ds0 (.seq (Zr Ds1 (.block 0 (.loop Bn5))) (.seq (Zr Ds6 (.block 2 (.loop Ax2))) (Zr Bo3 .ret))))))), [.tmp 4]⟩
theorem Q76_ok : Al Tryz.prog Q76.V ZQ 21 = some Q76 := by kernel_rfl

def Ds7 : Sts := Zq 1 24 0<|zG 2 0<|.nil
def Ds8 : Sts := zA 9 (Zo 1 1)<|zA 10 (Z1 63 9)<|zA 11 (Zt 10)<|.nil
def Ds9 : Sts := zG 2 2<|.nil
def Dt0 : Sts := ZY 12 13 0 1<|zA 14 (zM 13)<|zA 15 (Zc .eql 14 0)<|.nil
def Dt1 : Sts := zG 2 1<|.nil
def Dt2 : Sts := ZY 16 17 0 1<|zA 18 (zM 17)<|zG 19 0<|.nil
def Dt3 : Sts := zA 20 (Zb .lss 19 18)<|.nil
def Dt4 : Sts := zA 21 (zH 1 17 19)<|zA 22 (zK 21)<|zB 4 22<|.nil
def Dt5 : Sts := zB 23 4<|zA 24 (zM 23)<|zG 25 0<|.nil
def Dt6 : Sts := zA 26 (Zb .lss 25 24)<|.nil
def Bo4 : Sts := zA 27 (zH 5 23 25)<|zA 28 (Zo 5 27)<|zA 6 (.alloc 83 [Zi, Zi, Zi, Zi, Zi])<|Zw 5 6 28<|.nil
def Bo5 : Sts := Zy 30 31 0 6<|Zy 32 33 4 6<|zA 34 (Z2 64 31 33)<|zB 29 34<|zA 35 (Zx 0 29)<|zA 36 (Zx 1 29)<|zB 7 35<|zB 8 36<|.nil
def Bo6 : Sts := zB 37 8<|zA 38 (Zc .neq 37 0)<|zB 39 38<|.cnd 39 false (zB 40 7<|zA 41 (Zt 40)<|.nil) 42 (.t 41)<|zB 43 42<|.cnd 43 false (zA 44 (Zo 5 6)<|zA 45 (Z1 65 44)<|zA 46 (Zt 45)<|.nil) 47 (.t 46)<|.nil
def Bo7 : Sts := zG 2 1<|.nil
def Bo8 : Sts := zA 48 (Zc .add 25 1)<|zB 25 48<|.nil
def Ax3 : RCode := (Zr Dt6 (.seq (ZX 26 2) (.seq (.block 3 (Zr Bo4 (Zr Bo5 (Zr Bo6 (.cond (.t 47) (Zr Bo7 .ret) .skip))))) (.reg Bo8))))
def Bo9 : Sts := zA 49 (Zc .add 19 1)<|zB 19 49<|.nil
def Ax4 : RCode := (Zr Dt3 (.seq (ZX 20 0) (.seq (.block 1 (Zr Dt4 (Zr Dt5 (.block 2 (.loop Ax3))))) (.reg Bo9))))
def Bp0 : Sts := zG 2 0<|.nil
def Q45 : RFun := ⟨50, [0, 1, 2, 4, 6, 7, 8, 17, 18, 19, 23, 24, 25], (Zr Ds7 (.seq (Zr Ds8 (.cond (.t 11) (Zr Ds9 .ret) .skip)) (.seq (Zr Dt0 (.cond (.t 15) (Zr Dt1 .ret) .skip)) (.seq (Zr Dt2 (.block 0 (.loop Ax4))) (Zr Bp0 .ret))))), [.tmp 2]⟩
theorem Q45_ok : Al Tryz.prog Q45.V ZQ 24 = some Q45 := by kernel_rfl

def Dt7 : Sts := Zq 1 24 0<|zA 2 (.alloc 24 [Zn])<|zG 3 0<|.nil
def Dt8 : Sts := zA 5 (Zo 1 1)<|zA 6 (Z1 24 5)<|zB 4 6<|.nil
def Dt9 : Sts := zB 7 4<|zA 8 (Zc .neq 7 0)<|.nil
def Du0 : Sts := zA 9 (.build [Zn] [])<|zB 10 4<|ZW 2 9<|zB 3 10<|.nil
def Du1 : Sts := zA 11 (Zo 1 1)<|zA 12 (.call 69 [(.t 11), (.c (.func (.func 70) #[] #[]))])<|ZW 2 12<|zG 3 0<|.nil
def Q46 : RFun := ⟨13, [0, 1, 2, 3, 4], (Zr Dt7 (.seq (Zr Dt8 (Zr Dt9 (.cond (.t 8) (Zr Du0 .ret) .skip))) (Zr Du1 .ret))), [.cellA 2 1, .tmp 3]⟩
theorem Q46_ok : Al Tryz.prog Q46.V ZQ 30 = some Q46 := by kernel_rfl

def Du2 : Sts := Zm 4 Zf<|.nil
def Du3 : Sts := zG 5 0<|.nil
def Du4 : Sts := zB 6 5<|zB 7 0<|zA 8 (zM 7)<|zA 9 (Zb .lss 6 8)<|zB 10 9<|.cnd 10 true (Zl 11 5 12 1 13 14) 15 (.t 14)<|.nil
def Du5 : AT := .q (zD 0 18 0<|zD 1 19 5<|zC 2 20 (zH 1 18 19)<|zC 3 21 (zJ 20)<|zD 4 22 1<|zD 5 23 5<|zC 6 24 (zH 1 22 23)<|zC 7 25 (zJ 24)<|zC 8 26 (Zb .neq 21 25)<|.nil)<|.fin
def Du6 : AT := .q (zD 0 27 0<|zD 1 28 5<|zC 2 29 (zH 1 27 28)<|zC 3 30 (zJ 29)<|zD 4 31 1<|zD 5 32 5<|zC 6 33 (zH 1 31 32)<|zC 7 34 (zJ 33)<|zC 8 35 (Zb .lss 30 34)<|zD 9 4 35<|.nil)<|.fin
def Du7 : Sts := Zu 16 5 17
def Bp1 : RCode := (.seq (Zr Du4 (ZX 15 0)) (.seq (.block 1 (.seq (.any Du5) (.cond (.t 26) (.seq (.any Du6) .ret) .skip))) (.reg Du7)))
def Du8 : Sts := zB 36 0<|zA 37 (zM 36)<|zB 38 1<|zA 39 (zM 38)<|zA 40 (Zb .lss 37 39)<|zB 4 40<|.nil
def Q61 : RFun := ⟨41, [0, 1, 4, 5], (Zr Du2 (.seq (Zr Du3 (.block 0 (.loop Bp1))) (Zr Du8 .ret))), [.tmp 4]⟩
theorem Q61_ok : Al Tryz.prog Q61.V ZQ 31 = some Q61 := by kernel_rfl

def Du9 : Sts := zA 0 (.alloc 24 [Zn])<|.nil
def Dv0 : Sts := zA 1 (.build [Zi, Zi, Zi, Zi, Zi] [(0, 1, (zN 1)), (2, 1, (zN 1))])<|zA 2 (.build [Zi, Zi, Zi, Zi, Zi] [(1, 1, (zN 1))])<|zA 3 (.buildSl 83 2 [Zi, Zi, Zi, Zi, Zi, Zi, Zi, Zi, Zi, Zi] [(0, 5, (.t 1)), (5, 5, (.t 2))])<|zA 4 (.build [Zi, Zi, Zi, Zi, Zi] [(0, 1, (zN 1)), (1, 1, (zN 1)), (2, 1, (zN 1))])<|zA 5 (.build [Zi, Zi, Zi, Zi, Zi] [])<|zA 6 (.buildSl 83 2 [Zi, Zi, Zi, Zi, Zi, Zi, Zi, Zi, Zi, Zi] [(0, 5, (.t 4)), (5, 5, (.t 5))])<|zA 7 (.buildSl 70 2 [Zn, Zn] [(0, 1, (.t 3)), (1, 1, (.t 6))])<|zA 8 (.build [Zn] [(0, 1, (.t 7))])<|ZW 0 8<|.nil
def Q56 : RFun := ⟨9, [0], (Zr Du9 (Zr Dv0 .ret)), [.cellA 0 1]⟩
theorem Q56_ok : Al Tryz.prog Q56.V ZQ 32 = some Q56 := by kernel_rfl

def Ft9 : Sts := Zq 1 24 0<|Zm 2 Zn<|zG 3 0<|.nil
def Fu0 : Sts := zA 12 (Zo 1 1)<|zA 13 (Z1 30 12)<|zB 11 13<|zA 14 (Zx 0 11)<|zA 15 (Zx 1 11)<|zA 4 (.alloc 24 [Zn])<|ZW 4 14<|zB 5 15<|.nil
def Fu1 : Sts := zB 16 5<|zA 17 (Zc .neq 16 0)<|.nil
def Fu2 : Sts := zB 18 5<|Zm 2 Zn<|zB 3 18<|.nil
def Fu3 : Sts := Zm 6 Zn<|.nil
def Fu4 : Sts := ZY 19 20 0 4<|zA 21 (zM 20)<|zG 22 0<|.nil
def Fu5 : Sts := zA 23 (Zb .lss 22 21)<|.nil
def Fu6 : Sts := zB 24 22<|zA 25 (zH 1 20 22)<|zA 26 (zK 25)<|zB 7 24<|zB 8 26<|.nil
def Fu7 : Sts := zB 27 8<|zA 28 (zM 27)<|zG 29 0<|.nil
def Fu8 : Sts := zA 30 (Zb .lss 29 28)<|.nil
def Dv1 : Sts := zA 31 (zH 5 27 29)<|zA 32 (Zo 5 31)<|zA 10 (.alloc 83 [Zi, Zi, Zi, Zi, Zi])<|Zw 5 10 32<|.nil
def Dv2 : Sts := zB 33 6<|zA 34 (Zo 5 10)<|zB 35 7<|zA 36 (.build [Zi, Zi, Zi, Zi, Zi, Zi] [(0, 5, (.t 34)), (5, 1, (.t 35))])<|zA 37 (.buildSl 121 1 [Zi, Zi, Zi, Zi, Zi, Zi] [(0, 6, (.t 36))])<|zA 38 (.append 121 6 48 [Zi, Zi, Zi, Zi, Zi, Zi] (.t 33) (.t 37))<|zB 6 38<|.nil
def Dv3 : Sts := zA 39 (Zc .add 29 1)<|zB 29 39<|.nil
def Bp2 : RCode := (Zr Fu8 (.seq (ZX 30 2) (.seq (.block 3 (Zr Dv1 (.reg Dv2))) (.reg Dv3))))
def Dv4 : Sts := zA 40 (Zc .add 22 1)<|zB 22 40<|.nil
def Bp3 : RCode := (Zr Fu5 (.seq (ZX 23 0) (.seq (.block 1 (Zr Fu6 (Zr Fu7 (.block 2 (.loop Bp2))))) (.reg Dv4))))
def Dv5 : Sts := zB 41 6<|zB 2 41<|zG 3 0<|.nil
def Q9 : RFun := ⟨42, [0, 1, 2, 3, 4, 5, 6, 7, 8, 10, 20, 21, 22, 27, 28, 29], (Zr Ft9 (Zr Fu0 (.seq (Zr Fu1 (.cond (.t 17) (Zr Fu2 .ret) .skip)) (Zr Fu3 (.seq (Zr Fu4 (.block 0 (.loop Bp3))) (Zr Dv5 .ret)))))), [.tmp 2, .tmp 3]⟩
theorem Q9_ok : Al Tryz.prog Q9.V ZQ 33 = some Q9 := by kernel_rfl

def Bp4 : Sts := Zq 1 74 0<|zA 2 (.mv (.c .nilFunc))<|.nil
def Dv6 : Sts := zA 4 (zK 1)<|zA 5 (.mkfn 75 [] [(.t 1)])<|zA 6 (Z2 74 4 5)<|zA 3 (.alloc 34 [Zn])<|ZW 3 6<|.nil
def Dv7 : Sts := zA 7 (.mkfn 77 [] [(.t 1), (.t 3)])<|zB 2 7<|.nil
def Q18 : RFun := ⟨8, [0, 1, 2, 3], (Zr Bp4 (Zr Dv6 (Zr Dv7 .ret))), [.tmp 2]⟩
theorem Q18_ok : Al Tryz.prog Q18.V ZQ 34 = some Q18 := by kernel_rfl

def Dv8 : Sts := Zq 3 45 1<|Zm 4 Zn<|.nil
def Dv9 : Sts := zB 15 0<|zA 16 (Zo 4 3)<|zA 17 (Z2 85 15 16)<|zB 14 17<|zA 18 (Zx 0 14)<|zA 19 (Zx 1 14)<|zA 20 (Zx 2 14)<|zB 5 18<|zB 6 19<|zB 7 20<|.nil
def Dw0 : Sts := Zm 8 Zn<|.nil
def Dw1 : Sts := zB 21 0<|zA 22 (zM 21)<|zG 23 0<|.nil
def Dw2 : Sts := zA 24 (Zb .lss 23 22)<|.nil
def Dw3 : Sts := zB 25 23<|zA 26 (zH 6 21 23)<|zA 27 (Zo 6 26)<|zA 10 (.alloc 121 [Zi, Zi, Zi, Zi, Zi, Zi])<|zB 9 25<|Zw 6 10 27<|.nil
def Dw4 : Sts := zA 28 (Zo 6 10)<|zA 29 (Z1 86 28)<|.nil
def Dw5 : Sts := zB 30 8<|zB 31 5<|ZZ 32 33 9 1 31<|zA 34 (zJ 33)<|zA 35 (.buildSl 3 1 [Zi] [(0, 1, (.t 34))])<|zA 36 (.append 3 1 8 [Zi] (.t 30) (.t 35))<|zB 8 36<|.nil
def Dw6 : Sts := zA 37 (Zc .add 23 1)<|zB 23 37<|.nil
def Bp5 : RCode := (Zr Dw2 (.seq (ZX 24 0) (.seq (.block 1 (Zr Dw3 (Zr Dw4 (.cond (.t 29) (.reg Dw5) .skip)))) (.reg Dw6))))
def Dw7 : Sts := ZY 38 39 2 3<|zA 40 (zM 39)<|zG 41 0<|.nil
def Bp6 : Sts := zA 42 (Zb .lss 41 40)<|.nil
def Bp7 : Sts := zA 43 (zH 1 39 41)<|zA 44 (zK 43)<|zB 12 44<|.nil
def Bp8 : Sts := zG 13 0<|.nil
def Bp9 : Sts := zB 45 12<|zA 46 (zM 45)<|zA 47 (Zc .gtr 46 0)<|.nil
def Bq0 : Sts := zB 48 6<|zB 49 12<|zB 50 12<|zA 51 (zM 50)<|zA 52 (Zc .sub 51 1)<|Zj 53 54 1 49 52<|Zj 55 56 1 48 54<|zB 13 56<|.nil
def Bq1 : Sts := zB 57 8<|zB 58 13<|zA 59 (.buildSl 3 1 [Zi] [(0, 1, (.t 58))])<|zA 60 (.append 3 1 8 [Zi] (.t 57) (.t 59))<|zB 8 60<|.nil
def Bq2 : Sts := zA 61 (Zc .add 41 1)<|zB 41 61<|.nil
def Ax5 : RCode := (Zr Bp6 (.seq (ZX 42 2) (.seq (.block 3 (Zr Bp7 (Zr Bp8 (.seq (Zr Bp9 (.cond (.t 47) (.reg Bq0) .skip)) (.reg Bq1))))) (.reg Bq2))))
def Bq3 : Sts := zB 62 8<|zB 4 62<|.nil
def Q30 : RFun := ⟨63, [0, 1, 3, 4, 5, 6, 8, 9, 10, 12, 13, 21, 22, 23, 39, 40, 41], (Zr Dv8 (Zr Dv9 (Zr Dw0 (.seq (Zr Dw1 (.block 0 (.loop Bp5))) (.seq (Zr Dw7 (.block 2 (.loop Ax5))) (Zr Bq3 .ret)))))), [.tmp 4]⟩
theorem Q30_ok : Al Tryz.prog Q30.V ZQ 35 = some Q30 := by kernel_rfl

def Fu9 : Sts := Zm 2 Zn<|.nil
def Fv0 : Sts := zB 3 0<|zA 4 (.call 87 [(.t 3), (.c (.func (.func 88) #[] #[]))])<|.nil
def Fv1 : Sts := zB 5 0<|zA 6 (.call 89 [(.t 5), (.c (.func (.func 41) #[] #[]))])<|zB 2 6<|.nil
def Q4 : RFun := ⟨7, [0, 2], (Zr Fu9 (Zr Fv0 (Zr Fv1 .ret))), [.tmp 2]⟩
theorem Q4_ok : Al Tryz.prog Q4.V ZQ 36 = some Q4 := by kernel_rfl

def Dw8 : Sts := Zq 1 83 0<|Zm 2 Zf<|.nil
def Dw9 : Sts := Zy 3 4 0 1<|Zy 5 6 4 1<|zA 7 (Z2 90 4 6)<|zA 8 (Zt 7)<|zB 9 8<|.cnd 9 false (Zy 10 11 1 1<|zA 12 (Zc .lss 11 0)<|.nil) 13 (.t 12)<|zB 14 13<|.cnd 14 false (Zy 15 16 1 1<|zA 17 (Zc .geq 16 3)<|.nil) 18 (.t 17)<|.nil
def Dx0 : Sts := Zm 2 Zf<|.nil
def Dx1 : Sts := Zy 19 20 0 1<|zA 21 (Zc .eql 20 5)<|.nil
def Dx2 : Sts := Zy 22 23 1 1<|zA 24 (Zc .eql 23 0)<|zB 25 24<|.cnd 25 true (Zy 26 27 2 1<|zA 28 (Zc .eql 27 0)<|.nil) 29 (.t 28)<|zB 30 29<|.cnd 30 true (Zy 31 32 3 1<|zA 33 (Zc .eql 32 0)<|.nil) 34 (.t 33)<|zB 2 34<|.nil
def Dx3 : Sts := Zy 35 36 0 1<|zA 37 (Zc .eql 36 0)<|.nil
def Dx4 : Sts := Zy 38 39 2 1<|zA 40 (Zc .eql 39 0)<|zB 41 40<|.cnd 41 true (Zy 42 43 3 1<|zA 44 (Zc .eql 43 0)<|.nil) 45 (.t 44)<|zB 2 45<|.nil
def Dx5 : Sts := Zy 46 47 0 1<|zA 48 (Zc .eql 47 1)<|.nil
def Dx6 : Sts := Zy 49 50 2 1<|zA 51 (Zc .geq 50 0)<|zB 52 51<|.cnd 52 true (Zy 53 54 2 1<|zA 55 (Zc .leq 54 9)<|.nil) 56 (.t 55)<|zB 57 56<|.cnd 57 true (Zy 58 59 3 1<|zA 60 (Zc .eql 59 0)<|.nil) 61 (.t 60)<|zB 2 61<|.nil
def Dx7 : Sts := Zy 62 63 0 1<|zA 64 (Zc .eql 63 2)<|.nil
def Bq4 : Sts := Zy 65 66 2 1<|zA 67 (.bin .geq (.t 66) (.c (.int .i64 (-9))))<|zB 68 67<|.cnd 68 true (Zy 69 70 2 1<|zA 71 (Zc .leq 70 9)<|.nil) 72 (.t 71)<|zB 73 72<|.cnd 73 true (Zy 74 75 3 1<|zA 76 (Zc .eql 75 0)<|.nil) 77 (.t 76)<|zB 2 77<|.nil
def Bq5 : Sts := Zy 78 79 2 1<|zA 80 (Zc .geq 79 0)<|zB 81 80<|.cnd 81 true (Zy 82 83 2 1<|zA 84 (Zc .leq 83 9)<|.nil) 85 (.t 84)<|zB 86 85<|.cnd 86 true (Zy 87 88 3 1<|zA 89 (Zc .geq 88 0)<|.nil) 90 (.t 89)<|zB 91 90<|.cnd 91 true (Zy 92 93 3 1<|zA 94 (Zc .leq 93 9)<|.nil) 95 (.t 94)<|zB 2 95<|.nil
def Q70 : RFun := ⟨96, [0, 1, 2], (Zr Dw8 (.seq (Zr Dw9 (.cond (.t 18) (Zr Dx0 .ret) .skip)) (.seq (Zr Dx1 (.cond (.t 21) (Zr Dx2 .ret) .skip)) (.seq (Zr Dx3 (.cond (.t 37) (Zr Dx4 .ret) .skip)) (.seq (Zr Dx5 (.cond (.t 48) (Zr Dx6 .ret) .skip)) (.seq (Zr Dx7 (.cond (.t 64) (Zr Bq4 .ret) .skip)) (Zr Bq5 .ret))))))), [.tmp 2]⟩
theorem Q70_ok : Al Tryz.prog Q70.V ZQ 37 = some Q70 := by kernel_rfl

def Dx8 : Sts := Zq 1 83 0<|Zm 2 Zf<|.nil
def Dx9 : Sts := Zy 3 4 0 1<|zA 5 (Zc .geq 4 0)<|zB 6 5<|.cnd 6 true (Zy 7 8 0 1<|zA 9 (Zc .lss 8 5)<|.nil) 10 (.t 9)<|zB 2 10<|.nil
def Q69 : RFun := ⟨11, [0, 1, 2], (Zr Dx8 (Zr Dx9 .ret)), [.tmp 2]⟩
theorem Q69_ok : Al Tryz.prog Q69.V ZQ 38 = some Q69 := by kernel_rfl

def Dy0 : Sts := Zq 1 24 0<|Zm 2 Zn<|.nil
def Dy1 : Sts := zA 9 (Zo 1 1)<|zA 10 (Z1 91 9)<|zB 8 10<|zA 11 (Zx 0 8)<|zA 12 (Zx 1 8)<|zA 3 (.alloc 24 [Zn])<|ZW 3 11<|zB 4 12<|.nil
def Dy2 : Sts := Zm 5 Zn<|.nil
def Dy3 : Sts := zG 6 0<|.nil
def Dy4 : Sts := zB 13 6<|ZY 14 15 0 3<|zA 16 (zM 15)<|zA 17 (Zb .lss 13 16)<|.nil
def Dy5 : Sts := zG 7 0<|.nil
def Dy6 : Sts := zB 20 7<|ZY 21 22 0 3<|ZZ 23 24 6 1 22<|zA 25 (zK 24)<|zA 26 (zM 25)<|zA 27 (Zb .lss 20 26)<|.nil
def Dy7 : Sts := zB 30 5<|zB 31 6<|ZY 32 33 0 3<|ZZ 34 35 6 1 33<|zA 36 (zK 35)<|ZZ 37 38 7 5 36<|zA 39 (Zo 5 38)<|zA 40 (.build [Zi, Zi, Zi, Zi, Zi, Zi] [(0, 1, (.t 31)), (1, 5, (.t 39))])<|zA 41 (.buildSl 103 1 [Zi, Zi, Zi, Zi, Zi, Zi] [(0, 6, (.t 40))])<|zA 42 (.append 103 6 48 [Zi, Zi, Zi, Zi, Zi, Zi] (.t 30) (.t 41))<|zB 5 42<|.nil
def Dy8 : Sts := Zu 28 7 29
def Bq6 : RCode := (.seq (Zr Dy6 (ZX 27 2)) (.seq (.block 3 (.reg Dy7)) (.reg Dy8)))
def Dy9 : Sts := Zu 18 6 19
def Ax6 : RCode := (.seq (Zr Dy4 (ZX 17 0)) (.seq (.block 1 (Zr Dy5 (.block 2 (.loop Bq6)))) (.reg Dy9)))
def Bq7 : Sts := zB 43 5<|zB 2 43<|.nil
def Q74 : RFun := ⟨44, [0, 1, 2, 3, 5, 6, 7], (Zr Dy0 (Zr Dy1 (Zr Dy2 (.seq (Zr Dy3 (.block 0 (.loop Ax6))) (Zr Bq7 .ret))))), [.tmp 2]⟩
theorem Q74_ok : Al Tryz.prog Q74.V ZQ 39 = some Q74 := by kernel_rfl

def Dz0 : Sts := zB 7 1<|ZP 8 9 10 11 0 1<|zA 12 (zM 11)<|zA 13 (Zb .eql 7 12)<|.nil
def Dz1 : Sts := zB 14 0<|zA 15 (Z1 92 14)<|.nil
def Dz2 : Sts := ZP 16 17 18 19 0 1<|ZZ 20 21 1 6 19<|zA 22 (zI 1 21)<|zA 23 (Zo 5 22)<|zA 4 (.alloc 83 [Zi, Zi, Zi, Zi, Zi])<|Zw 5 4 23<|.nil
def Dz3 : Sts := ZO 24 25 26 0 2<|ZY 27 28 0 26<|ZZ 29 30 1 1 28<|.op none (.store 1 (.t 30) (.c (.int .i64 (-2))))<|.nil
def Bq8 : AT := .q (zD 0 31 0<|zC 1 32 (Zk 31)<|zC 2 33 (zI 2 32)<|zC 3 34 (zI 1 33)<|zC 4 35 (zK 34)<|zD 5 36 1<|zC 6 37 (Zo 5 4)<|zC 7 38 (Z1 93 37)<|zC 8 39 (zH 1 35 36)<|.nil)<|.s 9 none (.store 1 (.t 39) (.t 38)) true (zF<|.fin)<|.no
def Dz4 : Sts := zA 40 (Zo 5 4)<|zA 41 (Z1 56 40)<|zA 42 (Zt 41)<|.nil
def Dz5 : Sts := zB 43 0<|zB 44 1<|zA 45 (Zc .add 44 1)<|zA 46 (Z2 40 43 45)<|.nil
def Dz6 : Sts := zA 5 (.mv (.c (.int .i64 (-1))))<|.nil
def Dz7 : Sts := zB 47 5<|ZP 48 49 50 51 0 1<|zA 52 (zM 51)<|zA 53 (Zb .lss 47 52)<|.nil
def Bq9 : AT := .q (zD 0 56 5<|zD 1 57 1<|zC 2 58 (Zb .eql 56 57)<|zD 3 59 58<|.g 59 false (zD 4 60 5<|zC 5 61 (Zc .geq 60 0)<|zD 6 62 61<|.g 62 true (zD 7 63 0<|zC 8 64 (Zk 63)<|zC 9 65 (zI 1 64)<|zC 10 66 (zK 65)<|zD 11 67 5<|zC 12 68 (zH 6 66 67)<|zC 13 69 (zI 1 68)<|zC 14 70 (Zo 5 69)<|zC 15 71 (Z1 93 70)<|zC 16 72 (Zt 71)<|zD 17 73 72<|.g 73 false (zD 18 74 0<|zC 19 75 (Zk 74)<|zC 20 76 (zI 1 75)<|zC 21 77 (zK 76)<|zD 22 78 5<|zC 23 79 (zH 6 77 78)<|zC 24 80 (zI 1 79)<|zC 25 81 (zI 1 80)<|zC 26 82 (zJ 81)<|zC 27 83 (zI 1 4)<|zC 28 84 (zJ 83)<|zC 29 85 (Zb .neq 82 84)<|.nil) 30 86 (.t 85)<|.nil) 31 87 (.t 86)<|.nil) 32 88 (.t 87)<|.nil)<|.fin
def As0 : Sts := zG 6 0<|.nil
def Br0 : Sts := zB 89 6<|zA 90 (Zc .lss 89 2)<|.nil
def Br1 : Sts := Zy 93 94 0 4<|zA 95 (Zc .lss 94 3)<|zB 96 95<|.cnd 96 true (zB 97 6<|zA 98 (Zc .eql 97 1)<|.nil) 99 (.t 98)<|.nil
def Br2 : Sts := ZO 100 101 102 0 2<|ZY 103 104 0 102<|zB 105 1<|zB 106 5<|zA 107 (zH 1 104 105)<|ZW 107 106<|.nil
def As1 : AT := .q (zD 0 108 0<|zC 1 109 (Zk 108)<|zC 2 110 (zI 2 109)<|zC 3 111 (zI 1 110)<|zC 4 112 (zK 111)<|zD 5 113 1<|zC 6 114 (Zo 5 4)<|zC 7 115 (Z1 93 114)<|zD 8 116 115<|.g 116 true (zD 9 117 6<|zC 10 118 (Zc .eql 117 0)<|.nil) 11 119 (.t 118)<|zC 12 120 (zH 1 112 113)<|.nil)<|.s 13 none (.store 1 (.t 120) (.t 119)) true (zF<|.fin)<|.no
def Br3 : Sts := zB 121 0<|zB 122 1<|zA 123 (Zc .add 122 1)<|zA 124 (Z2 40 121 123)<|.nil
def Br4 : Sts := Zu 91 6 92
def Af6 : RCode := (.seq (Zr Br0 (ZX 90 2)) (.seq (.block 3 (.seq (Zr Br1 (Zs 99 3)) (Zr Br2 (.seq (.any As1) (.reg Br3))))) (.reg Br4)))
def Br5 : Sts := Zu 54 5 55
def Ax7 : RCode := (.seq (Zr Dz7 (ZX 53 0)) (.seq (.block 1 (.seq (.seq (.any Bq9) (Zs 88 1)) (Zr As0 (.block 2 (.loop Af6))))) (.reg Br5)))
def Q77 : RFun := ⟨125, [0, 1, 4, 5, 6], (.seq (Zr Dz0 (.cond (.t 13) (Zr Dz1 .ret) .skip)) (Zr Dz2 (Zr Dz3 (.seq (.any Bq8) (.seq (Zr Dz4 (.cond (.t 42) (Zr Dz5 .ret) .skip)) (Zr Dz6 (.block 0 (.loop Ax7)))))))), []⟩
theorem Q77_ok : Al Tryz.prog Q77.V ZQ 40 = some Q77 := by kernel_rfl

def Br6 : Sts := Zm 4 Zf<|.nil
def Br7 : Sts := zB 6 0<|zA 7 (zM 6)<|zB 8 1<|zA 9 (zM 8)<|zA 10 (Zb .neq 7 9)<|.nil
def Br8 : Sts := Zm 4 Zf<|.nil
def Br9 : Sts := zB 11 0<|zA 12 (zM 11)<|zG 13 0<|.nil
def Bs0 : Sts := zA 14 (Zb .lss 13 12)<|.nil
def Bs1 : Sts := zB 15 13<|zB 5 15<|.nil
def Bs2 : AT := .q (zD 0 16 0<|zD 1 17 5<|zC 2 18 (zH 1 16 17)<|zC 3 19 (zJ 18)<|zD 4 20 1<|zD 5 21 5<|zC 6 22 (zH 1 20 21)<|zC 7 23 (zJ 22)<|zC 8 24 (Zb .neq 19 23)<|.nil)<|.fin
def Bs3 : Sts := Zm 4 Zf<|.nil
def Bs4 : Sts := zA 25 (Zc .add 13 1)<|zB 13 25<|.nil
def Ax8 : RCode := (Zr Bs0 (.seq (ZX 14 0) (.seq (.block 1 (Zr Bs1 (.seq (.any Bs2) (.cond (.t 24) (Zr Bs3 .ret) .skip)))) (.reg Bs4))))
def Bs5 : Sts := zA 4 (.mv (.c (.bool true)))<|.nil
def Bi9 : RFun := ⟨26, [0, 1, 4, 5, 12, 13], (Zr Br6 (.seq (Zr Br7 (.cond (.t 10) (Zr Br8 .ret) .skip)) (.seq (Zr Br9 (.block 0 (.loop Ax8))) (Zr Bs5 .ret)))), [.tmp 4]⟩
theorem Q116_ok : Al Tryz.prog Bi9.V ZQ 41 = some Bi9 := by kernel_rfl

def Dz8 : Sts := Zq 3 37 1<|Zm 4 Zf<|.nil
def Dz9 : Sts := ZY 17 18 0 3<|zA 19 (zM 18)<|zB 20 0<|zA 21 (zM 20)<|zA 22 (Zb .neq 19 21)<|zB 23 22<|.cnd 23 false (ZY 24 25 1 3<|zA 26 (zM 25)<|zB 27 0<|zA 28 (zM 27)<|zA 29 (Zb .neq 26 28)<|.nil) 30 (.t 29)<|zB 31 30<|.cnd 31 false (ZY 32 33 2 3<|zA 34 (zM 33)<|zA 35 (Zc .neq 34 3)<|.nil) 36 (.t 35)<|.nil
def Ea0 : Sts := Zm 4 Zf<|.nil
def Ea1 : Sts := zG 5 0<|.nil
def Ea2 : Sts := zG 6 0<|.nil
def Ea3 : Sts := Zl 37 6 38 0 39 40
def Ea4 : Sts := zB 43 0<|ZZ 44 45 6 6 43<|zA 46 (zI 1 45)<|zA 47 (Zo 5 46)<|zA 7 (.alloc 83 [Zi, Zi, Zi, Zi, Zi])<|Zw 5 7 47<|.nil
def Ea5 : Sts := ZY 48 49 0 3<|ZZ 50 51 6 1 49<|zA 52 (zJ 51)<|zB 8 52<|.nil
def Ea6 : Sts := zA 53 (Zo 5 7)<|zA 54 (Z1 56 53)<|zA 55 (Zt 54)<|zB 56 55<|.cnd 56 true (zB 57 8<|zA 58 (.bin .neq (.t 57) (.c (.int .i64 (-2))))<|.nil) 59 (.t 58)<|zB 60 59<|.cnd 60 false (zA 61 (Zo 5 7)<|zA 62 (Z1 56 61)<|zB 63 62<|.cnd 63 true (zB 64 8<|zA 65 (.bin .lss (.t 64) (.c (.int .i64 (-1))))<|zB 66 65<|.cnd 66 false (zB 67 8<|zB 68 0<|zA 69 (zM 68)<|zA 70 (Zb .geq 67 69)<|.nil) 71 (.t 70)<|.nil) 72 (.t 71)<|.nil) 73 (.t 72)<|zB 74 73<|.cnd 74 false (Zy 75 76 0 7<|zA 77 (Zc .eql 76 1)<|zB 78 77<|.cnd 78 false (Zy 79 80 0 7<|zA 81 (Zc .eql 80 2)<|.nil) 82 (.t 81)<|zB 83 82<|.cnd 83 true (ZY 84 85 1 3<|ZZ 86 87 6 1 85<|zA 88 (Zg 87)<|zA 89 (Zt 88)<|.nil) 90 (.t 89)<|.nil) 91 (.t 90)<|zB 92 91<|.cnd 92 false (zA 93 (Zo 5 7)<|zA 94 (Z1 93 93)<|zA 95 (Zt 94)<|zB 96 95<|.cnd 96 true (ZY 97 98 1 3<|ZZ 99 100 6 1 98<|zA 101 (Zg 100)<|.nil) 102 (.t 101)<|.nil) 103 (.t 102)<|.nil
def Ea7 : Sts := Zm 4 Zf<|.nil
def Yb : AT := .q (zC 0 104 (Zo 5 7)<|zC 1 105 (Z1 56 104)<|zD 2 106 105<|.g 106 true (zD 3 107 8<|zC 4 108 (Zc .geq 107 0)<|.nil) 5 109 (.t 108)<|zD 6 110 109<|.g 110 true (zC 7 111 (zI 1 3)<|zC 8 112 (zK 111)<|zD 9 113 8<|zC 10 114 (zH 1 112 113)<|zC 11 115 (Zg 114)<|zC 12 116 (Zt 115)<|zD 13 117 116<|.g 117 false (zD 14 118 0<|zD 15 119 8<|zC 16 120 (zH 6 118 119)<|zC 17 121 (zI 1 120)<|zC 18 122 (zI 1 121)<|zC 19 123 (zJ 122)<|zC 20 124 (zI 1 7)<|zC 21 125 (zJ 124)<|zC 22 126 (Zb .neq 123 125)<|.nil) 23 127 (.t 126)<|zD 24 128 127<|.g 128 false (zD 25 129 0<|zD 26 130 8<|zC 27 131 (zH 6 129 130)<|zC 28 132 (zI 1 131)<|zC 29 133 (Zo 5 132)<|zC 30 134 (Z1 93 133)<|zC 31 135 (Zt 134)<|.nil) 32 136 (.t 135)<|.nil) 33 137 (.t 136)<|.nil)<|.fin
def Bs6 : Sts := Zm 4 Zf<|.nil
def As2 : Sts := zA 138 (Zo 5 7)<|zA 139 (Z1 94 138)<|.nil
def As3 : Sts := Zu 140 5 141
def As4 : Sts := Zu 41 6 42
def Wx : RCode := (.seq (Zr Ea3 (ZX 40 0)) (.seq (.block 1 (Zr Ea4 (Zr Ea5 (.seq (Zr Ea6 (.cond (.t 103) (Zr Ea7 .ret) .skip)) (.seq (.seq (.any Yb) (.cond (.t 137) (Zr Bs6 .ret) .skip)) (Zr As2 (.cond (.t 139) (.reg As3) .skip))))))) (.reg As4)))
def Bs7 : Sts := ZY 142 143 3 3<|zA 144 (zM 143)<|zB 145 5<|zA 146 (Zb .neq 144 145)<|.nil
def Bs8 : Sts := Zm 4 Zf<|.nil
def Bs9 : Sts := zA 9 (.alloc 141 [Zf, Zf, Zf, Zf, Zf, Zf, Zf, Zf, Zf, Zf, Zf, Zf, Zf, Zf, Zf, Zf])<|.nil
def Bt0 : Sts := zG 10 0<|.nil
def Bt1 : Sts := zB 147 10<|ZY 148 149 3 3<|zA 150 (zM 149)<|zA 151 (Zb .lss 147 150)<|.nil
def Bt2 : Sts := ZY 154 155 3 3<|ZZ 156 157 10 1 155<|zA 158 (zJ 157)<|zB 11 158<|.nil
def Bt3 : Sts := zB 159 11<|zA 160 (Zc .lss 159 0)<|zB 161 160<|.cnd 161 false (zB 162 11<|zB 163 0<|zA 164 (zM 163)<|zA 165 (Zb .geq 162 164)<|.nil) 166 (.t 165)<|zB 167 166<|.cnd 167 false (zB 168 11<|zA 169 (.iaddrA 16 1 (.t 9) (.t 168))<|zA 170 (Zg 169)<|.nil) 171 (.t 170)<|zB 172 171<|.cnd 172 false (zB 173 0<|ZZ 174 175 11 6 173<|zA 176 (zI 1 175)<|zA 177 (Zo 5 176)<|zA 178 (Z1 94 177)<|zA 179 (Zt 178)<|.nil) 180 (.t 179)<|.nil
def Bt4 : Sts := Zm 4 Zf<|.nil
def Bt5 : Sts := zB 181 11<|zA 182 (.iaddrA 16 1 (.t 9) (.t 181))<|.op none (.store 1 (.t 182) (.c (.bool true)))<|.nil
def Bt6 : Sts := Zu 152 10 153
def Af7 : RCode := (.seq (Zr Bt1 (ZX 151 2)) (.seq (.block 3 (Zr Bt2 (.seq (Zr Bt3 (.cond (.t 180) (Zr Bt4 .ret) .skip)) (.reg Bt5)))) (.reg Bt6)))
def Bt7 : Sts := zG 12 0<|.nil
def Bt8 : Sts := zB 183 12<|zA 184 (Zc .lss 183 3)<|.nil
def Bt9 : Sts := zG 13 0<|.nil
def Bu0 : Sts := zG 14 0<|.nil
def Bu1 : Sts := Zl 187 14 188 0 189 190
def Bu2 : Sts := ZY 193 194 1 3<|ZZ 195 196 14 1 194<|zA 197 (Zg 196)<|zB 198 197<|.cnd 198 true (zB 199 0<|ZZ 200 201 14 6 199<|zA 202 (zI 1 201)<|Zy 203 204 1 202<|zB 205 12<|zA 206 (Zb .eql 204 205)<|.nil) 207 (.t 206)<|.nil
def Bu3 : Sts := Zu 208 13 209
def Bu4 : Sts := Zu 191 14 192
def Ax9 : RCode := (.seq (Zr Bu1 (ZX 190 6)) (.seq (.block 7 (Zr Bu2 (.cond (.t 207) (.reg Bu3) .skip))) (.reg Bu4)))
def Bu5 : Sts := ZY 210 211 2 3<|ZZ 212 213 12 1 211<|zA 214 (zK 213)<|zA 215 (zM 214)<|zB 216 13<|zA 217 (Zb .neq 215 216)<|.nil
def Bu6 : Sts := Zm 4 Zf<|.nil
def Bu7 : Sts := zG 15 0<|.nil
def Bu8 : Sts := zB 218 15<|zB 219 13<|zA 220 (Zb .lss 218 219)<|.nil
def Bu9 : Sts := ZY 223 224 2 3<|ZZ 225 226 12 1 224<|zA 227 (zK 226)<|ZZ 228 229 15 1 227<|zA 230 (zJ 229)<|zB 16 230<|.nil
def Bv0 : Sts := zB 231 16<|zA 232 (Zc .lss 231 0)<|zB 233 232<|.cnd 233 false (zB 234 16<|zB 235 0<|zA 236 (zM 235)<|zA 237 (Zb .geq 234 236)<|.nil) 238 (.t 237)<|zB 239 238<|.cnd 239 false (zB 240 16<|zA 241 (.iaddrA 16 1 (.t 9) (.t 240))<|zA 242 (Zg 241)<|.nil) 243 (.t 242)<|zB 244 243<|.cnd 244 false (ZY 245 246 1 3<|ZZ 247 248 16 1 246<|zA 249 (Zg 248)<|zA 250 (Zt 249)<|.nil) 251 (.t 250)<|zB 252 251<|.cnd 252 false (zB 253 0<|ZZ 254 255 16 6 253<|zA 256 (zI 1 255)<|Zy 257 258 1 256<|zB 259 12<|zA 260 (Zb .neq 258 259)<|.nil) 261 (.t 260)<|.nil
def Bv1 : Sts := Zm 4 Zf<|.nil
def Bv2 : Sts := zB 262 16<|zA 263 (.iaddrA 16 1 (.t 9) (.t 262))<|.op none (.store 1 (.t 263) (.c (.bool true)))<|.nil
def Bv3 : Sts := Zu 221 15 222
def Ay0 : RCode := (.seq (Zr Bu8 (ZX 220 8)) (.seq (.block 9 (Zr Bu9 (.seq (Zr Bv0 (.cond (.t 261) (Zr Bv1 .ret) .skip)) (.reg Bv2)))) (.reg Bv3)))
def Bv4 : Sts := Zu 185 12 186
def Wy : RCode := (.seq (Zr Bt8 (ZX 184 4)) (.seq (.block 5 (Zr Bt9 (.seq (Zr Bu0 (.block 6 (.loop Ax9))) (.seq (Zr Bu5 (.cond (.t 217) (Zr Bu6 .ret) .skip)) (Zr Bu7 (.block 8 (.loop Ay0))))))) (.reg Bv4)))
def Bv5 : Sts := zA 4 (.mv (.c (.bool true)))<|.nil
def Q96 : RFun := ⟨264, [0, 1, 3, 4, 5, 6, 7, 8, 9, 10, 11, 12, 13, 14, 15, 16], (Zr Dz8 (.seq (Zr Dz9 (.cond (.t 36) (Zr Ea0 .ret) .skip)) (Zr Ea1 (.seq (Zr Ea2 (.block 0 (.loop Wx))) (.seq (Zr Bs7 (.cond (.t 146) (Zr Bs8 .ret) .skip)) (Zr Bs9 (.seq (Zr Bt0 (.block 2 (.loop Af7))) (.seq (Zr Bt7 (.block 4 (.loop Wy))) (Zr Bv5 .ret))))))))), [.tmp 4]⟩
theorem Q96_ok : Al Tryz.prog Q96.V ZQ 42 = some Q96 := by kernel_rfl

def Ea8 : Sts := Zq 3 37 1<|Zm 4 Zn<|Zm 5 Zn<|Zm 6 Zn<|.nil
def Ea9 : Sts := zB 15 0<|zA 16 (zM 15)<|zA 17 (.makeSl 3 1 8 [Zi] (.t 16) (.t 16))<|zB 7 17<|.nil
def Eb0 : Sts := zB 18 0<|zA 19 (zM 18)<|zA 20 (.makeSl 3 1 8 [Zi] (.t 19) (.t 19))<|zB 8 20<|.nil
def Eb1 : Sts := zB 21 0<|zA 22 (zM 21)<|zA 23 (.makeSl 4 1 1 [Zf] (.t 22) (.t 22))<|zB 9 23<|.nil
def Eb2 : Sts := zB 24 0<|zA 25 (zM 24)<|zA 26 (.makeSl 4 1 1 [Zf] (.t 25) (.t 25))<|zB 10 26<|.nil
def Eb3 : Sts := zG 11 0<|.nil
def Eb4 : Sts := Zl 27 11 28 0 29 30
def Eb5 : Sts := zB 33 0<|ZZ 34 35 11 6 33<|zA 36 (zI 1 35)<|zA 37 (Zo 5 36)<|zA 12 (.alloc 83 [Zi, Zi, Zi, Zi, Zi])<|Zw 5 12 37<|.nil
def Eb6 : Sts := zB 38 10<|zB 39 11<|Zy 40 41 0 12<|zA 42 (Zc .neq 41 2)<|zA 43 (zH 1 38 39)<|ZW 43 42<|.nil
def Eb7 : Sts := Zy 44 45 0 12<|.nil
def Bv6 : Sts := zA 47 (Zc .eql 45 1)<|zB 46 47<|.nil
def Bv7 : Sts := zB 48 8<|zB 49 11<|Zy 50 51 2 12<|zA 52 (zH 1 48 49)<|ZW 52 51<|.nil
def Bv8 : Sts := zA 54 (Zc .eql 45 3)<|zB 53 54<|.nil
def Bv9 : Sts := zA 55 (Zc .eql 45 4)<|zB 53 55<|.nil
def Bw0 : Sts := zB 56 8<|zB 57 11<|Zy 58 59 3 12<|zA 60 (zH 1 56 57)<|ZW 60 59<|.nil
def Bw1 : Sts := Zu 31 11 32
def Ay1 : RCode := (.seq (Zr Eb4 (ZX 30 0)) (.seq (.block 1 (Zr Eb5 (Zr Eb6 (Zr Eb7 (.block 2 (Zr Bv6 (.cond (.t 46) (.reg Bv7) (.seq (Zr Bv8 (.cond (.t 53) .skip (.reg Bv9))) (.cond (.t 53) (.reg Bw0) .skip))))))))) (.reg Bw1)))
def Bw2 : Sts := zG 13 0<|.nil
def Bw3 : Sts := zB 61 13<|zB 62 0<|zA 63 (zM 62)<|zA 64 (Zb .leq 61 63)<|.nil
def Bw4 : Sts := zG 14 0<|.nil
def Bw5 : Sts := Zl 67 14 68 0 69 70
def As5 : Sts := zB 73 9<|ZZ 74 75 14 1 73<|zA 76 (Zg 75)<|zB 77 76<|.cnd 77 false (ZY 78 79 0 3<|ZZ 80 81 14 1 79<|zA 82 (zJ 81)<|zA 83 (Zc .geq 82 0)<|zB 84 83<|.cnd 84 true (zB 85 10<|ZY 86 87 0 3<|ZZ 88 89 14 1 87<|zA 90 (zJ 89)<|zA 91 (zH 1 85 90)<|zA 92 (Zg 91)<|zA 93 (Zt 92)<|.nil) 94 (.t 93)<|.nil) 95 (.t 94)<|.nil
def As6 : Sts := zB 96 9<|ZZ 97 98 14 1 96<|.op none (.store 1 (.t 98) (.c (.bool true)))<|.nil
def As7 : Sts := ZY 99 100 0 3<|ZZ 101 102 14 1 100<|zA 103 (zJ 102)<|zA 104 (Zc .geq 103 0)<|.nil
def As8 : Sts := zB 105 7<|zB 106 14<|zB 107 8<|ZY 108 109 0 3<|ZZ 110 111 14 1 109<|zA 112 (zJ 111)<|Zj 113 114 1 107 112<|zA 115 (zH 1 105 106)<|ZW 115 114<|.nil
def As9 : Sts := zB 116 0<|ZZ 117 118 14 6 116<|zA 119 (zI 1 118)<|Zy 120 121 0 119<|zA 122 (Zc .eql 121 2)<|.nil
def Yc : AT := .q (zD 0 123 8<|zD 1 124 14<|zD 2 125 7<|zD 3 126 14<|zC 4 127 (zH 1 125 126)<|zC 5 128 (zJ 127)<|zD 6 129 0<|zD 7 130 14<|zC 8 131 (zH 6 129 130)<|zC 9 132 (zI 1 131)<|zC 10 133 (zI 2 132)<|zC 11 134 (zJ 133)<|zC 12 135 (Zb .add 128 134)<|zC 13 136 (zH 1 123 124)<|.nil)<|.s 14 none (.store 1 (.t 136) (.t 135)) true (zF<|.fin)<|.no
def Af8 : Sts := zB 137 10<|ZZ 138 139 14 1 137<|.op none (.store 1 (.t 139) (.c (.bool true)))<|.nil
def Af9 : Sts := Zu 71 14 72
def Ay2 : RCode := (.seq (Zr Bw5 (ZX 70 5)) (.seq (.block 6 (.seq (Zr As5 (Zs 95 6)) (Zr As6 (.seq (Zr As7 (.cond (.t 104) (.reg As8) .skip)) (Zr As9 (.cond (.t 122) (.seq (.any Yc) (.reg Af8)) .skip)))))) (.reg Af9)))
def Bw6 : Sts := Zu 65 13 66
def Ay3 : RCode := (.seq (Zr Bw3 (ZX 64 3)) (.seq (.block 4 (Zr Bw4 (.block 5 (.loop Ay2)))) (.reg Bw6)))
def Bw7 : Sts := zB 140 7<|zB 141 8<|zB 142 9<|zB 4 140<|zB 5 141<|zB 6 142<|.nil
def Q94 : RFun := ⟨143, [0, 1, 3, 4, 5, 6, 7, 8, 9, 10, 11, 12, 13, 14, 45], (Zr Ea8 (Zr Ea9 (Zr Eb0 (Zr Eb1 (Zr Eb2 (.seq (Zr Eb3 (.block 0 (.loop Ay1))) (.seq (Zr Bw2 (.block 3 (.loop Ay3))) (Zr Bw7 .ret)))))))), [.tmp 4, .tmp 5, .tmp 6]⟩
theorem Q94_ok : Al Tryz.prog Q94.V ZQ 43 = some Q94 := by kernel_rfl

def Bw8 : Sts := Zq 5 37 1<|Zm 8 Zf<|.nil
def Bw9 : Sts := zG 9 0<|.nil
def Bx0 : Sts := Zl 11 9 12 0 13 14
def Bx1 : Sts := zB 17 0<|ZZ 18 19 9 6 17<|zA 20 (zI 1 19)<|zA 21 (Zo 5 20)<|zA 10 (.alloc 83 [Zi, Zi, Zi, Zi, Zi])<|Zw 5 10 21<|.nil
def Bx2 : Sts := zB 22 3<|ZZ 23 24 9 1 22<|zA 25 (Zg 24)<|zA 26 (Zt 25)<|.nil
def At0 : AT := .q (zC 0 27 (zI 0 10)<|zC 1 28 (zJ 27)<|zC 2 29 (Zc .eql 28 3)<|zD 3 30 29<|.g 30 true (zC 4 31 (zI 1 5)<|zC 5 32 (zK 31)<|zD 6 33 9<|zC 7 34 (zH 1 32 33)<|zC 8 35 (Zg 34)<|zD 9 36 2<|zD 10 37 9<|zC 11 38 (zH 1 36 37)<|zC 12 39 (zJ 38)<|zC 13 40 (zI 2 10)<|zC 14 41 (zJ 40)<|zC 15 42 (Zb .eql 39 41)<|zC 16 43 (.eqb true (.t 35) (.t 42))<|.nil) 17 44 (.t 43)<|zD 18 45 44<|.g 45 false (zC 19 46 (zI 0 10)<|zC 20 47 (zJ 46)<|zC 21 48 (Zc .eql 47 4)<|zD 22 49 48<|.g 49 true (zC 23 50 (zI 1 5)<|zC 24 51 (zK 50)<|zD 25 52 9<|zC 26 53 (zH 1 51 52)<|zC 27 54 (Zg 53)<|.nil) 28 55 (.t 54)<|zD 29 56 55<|.g 56 true (zD 30 57 2<|zD 31 58 9<|zC 32 59 (zH 1 57 58)<|zC 33 60 (zJ 59)<|zC 34 61 (zI 2 10)<|zC 35 62 (zJ 61)<|zC 36 63 (Zb .neq 60 62)<|.nil) 37 64 (.t 63)<|.nil) 38 65 (.t 64)<|.nil)<|.fin
def Bx3 : Sts := Zm 8 Zf<|.nil
def Bx4 : Sts := Zu 15 9 16
def Ay4 : RCode := (.seq (Zr Bx0 (ZX 14 0)) (.seq (.block 1 (Zr Bx1 (.seq (Zr Bx2 (Zs 26 1)) (.seq (.any At0) (.cond (.t 65) (Zr Bx3 .ret) .skip))))) (.reg Bx4)))
def Bx5 : Sts := zA 8 (.mv (.c (.bool true)))<|.nil
def Dj3 : RFun := ⟨66, [0, 1, 2, 3, 5, 8, 9, 10], (Zr Bw8 (.seq (Zr Bw9 (.block 0 (.loop Ay4))) (Zr Bx5 .ret))), [.tmp 8]⟩
theorem Q100_ok : Al Tryz.prog Dj3.V ZQ 44 = some Dj3 := by kernel_rfl

def Eb8 : Sts := Zq 3 37 1<|Zm 4 Zn<|Zm 5 Zn<|Zm 6 Zf<|.nil
def Eb9 : Sts := zB 12 0<|zA 13 (Zo 4 3)<|zA 14 (Z2 43 12 13)<|zB 11 14<|zA 15 (Zx 0 11)<|zA 16 (Zx 1 11)<|zA 17 (Zx 2 11)<|zB 7 15<|zB 8 16<|zB 9 17<|.nil
def Ec0 : Sts := zG 10 0<|.nil
def Ec1 : Sts := Zl 18 10 19 0 20 21
def Ec2 : Sts := zB 24 9<|ZZ 25 26 10 1 24<|zA 27 (Zg 26)<|zA 28 (Zt 27)<|.nil
def Ec3 : Sts := Zm 4 Zn<|Zm 5 Zn<|Zm 6 Zf<|.nil
def Ec4 : Sts := Zu 22 10 23
def Bx6 : RCode := (.seq (Zr Ec1 (ZX 21 0)) (.seq (.block 1 (Zr Ec2 (.cond (.t 28) (Zr Ec3 .ret) .skip))) (.reg Ec4)))
def Ec5 : Sts := zB 29 7<|zB 30 8<|zB 4 29<|zB 5 30<|zA 6 (.mv (.c (.bool true)))<|.nil
def Q83 : RFun := ⟨31, [0, 1, 3, 4, 5, 6, 7, 8, 9, 10], (Zr Eb8 (Zr Eb9 (.seq (Zr Ec0 (.block 0 (.loop Bx6))) (Zr Ec5 .ret)))), [.tmp 4, .tmp 5, .tmp 6]⟩
theorem Q83_ok : Al Tryz.prog Q83.V ZQ 45 = some Q83 := by kernel_rfl

def Ec6 : Sts := Zq 1 95 0<|Zm 2 Zf<|.nil
def Ec7 : Sts := zG 3 0<|.nil
def Ec8 : Sts := zB 4 3<|zA 5 (Zc .lss 4 16)<|.nil
def Ec9 : Sts := zB 8 3<|zA 9 (.iaddrA 16 1 (.t 1) (.t 8))<|zA 10 (.loadI .u64 (.t 9))<|zB 11 3<|zA 12 (.conv .u64 (.t 11))<|zA 13 (Zb .shr 10 12)<|zA 14 (.bin .and (.t 13) (.c (.int .u64 1)))<|zA 15 (.bin .eql (.t 14) (.c (.int .u64 1)))<|.nil
def Ed0 : Sts := zA 2 (.mv (.c (.bool true)))<|.nil
def Ed1 : Sts := Zu 6 3 7
def Bx7 : RCode := (.seq (Zr Ec8 (ZX 5 0)) (.seq (.block 1 (Zr Ec9 (.cond (.t 15) (Zr Ed0 .ret) .skip))) (.reg Ed1)))
def Ed2 : Sts := Zm 2 Zf<|.nil
def Q86 : RFun := ⟨16, [0, 1, 2, 3], (Zr Ec6 (.seq (Zr Ec7 (.block 0 (.loop Bx7))) (Zr Ed2 .ret))), [.tmp 2]⟩
theorem Q86_ok : Al Tryz.prog Q86.V ZQ 46 = some Q86 := by kernel_rfl

def Ed3 : Sts := Zq 1 95 0<|zA 2 (.alloc 95 [(.int .u64 0), (.int .u64 0), (.int .u64 0), (.int .u64 0), (.int .u64 0), (.int .u64 0), (.int .u64 0), (.int .u64 0), (.int .u64 0), (.int .u64 0), (.int .u64 0), (.int .u64 0), (.int .u64 0), (.int .u64 0), (.int .u64 0), (.int .u64 0)])<|.nil
def Ed4 : Sts := zG 3 0<|.nil
def Ed5 : Sts := zB 5 3<|zA 6 (Zc .lss 5 16)<|.nil
def Ed6 : Sts := zG 4 0<|.nil
def Ed7 : Sts := zB 9 4<|zA 10 (Zc .lss 9 16)<|.nil
def Ed8 : Sts := zB 13 4<|zA 14 (.iaddrA 16 1 (.t 1) (.t 13))<|zA 15 (.loadI .u64 (.t 14))<|zB 16 3<|zA 17 (.conv .u64 (.t 16))<|zA 18 (Zb .shr 15 17)<|zA 19 (.bin .and (.t 18) (.c (.int .u64 1)))<|zA 20 (.bin .eql (.t 19) (.c (.int .u64 1)))<|.nil
def Bx8 : AT := .q (zD 0 21 4<|zD 1 22 4<|zC 2 23 (.iaddrA 16 1 (.t 1) (.t 22))<|zC 3 24 (.loadI .u64 (.t 23))<|zD 4 25 3<|zC 5 26 (.iaddrA 16 1 (.t 1) (.t 25))<|zC 6 27 (.loadI .u64 (.t 26))<|zC 7 28 (Zb .or 24 27)<|zC 8 29 (.iaddrA 16 1 (.t 1) (.t 21))<|.nil)<|.s 9 none (.store 1 (.t 29) (.t 28)) true (zF<|.fin)<|.no
def Ed9 : Sts := Zu 11 4 12
def Bx9 : RCode := (.seq (Zr Ed7 (ZX 10 2)) (.seq (.block 3 (Zr Ed8 (.cond (.t 20) (.any Bx8) .skip))) (.reg Ed9)))
def Ee0 : Sts := Zu 7 3 8
def By0 : RCode := (.seq (Zr Ed5 (ZX 6 0)) (.seq (.block 1 (Zr Ed6 (.block 2 (.loop Bx9)))) (.reg Ee0)))
def Ee1 : Sts := zA 30 (Zo 16 1)<|Zw 16 2 30<|.nil
def Q87 : RFun := ⟨31, [0, 1, 2, 3, 4], (Zr Ed3 (.seq (Zr Ed4 (.block 0 (.loop By0))) (Zr Ee1 .ret))), [.cellA 2 16]⟩
theorem Q87_ok : Al Tryz.prog Q87.V ZQ 47 = some Q87 := by kernel_rfl

def Ee2 : Sts := Zq 2 95 0<|Zq 3 95 1<|zA 4 (.alloc 95 [(.int .u64 0), (.int .u64 0), (.int .u64 0), (.int .u64 0), (.int .u64 0), (.int .u64 0), (.int .u64 0), (.int .u64 0), (.int .u64 0), (.int .u64 0), (.int .u64 0), (.int .u64 0), (.int .u64 0), (.int .u64 0), (.int .u64 0), (.int .u64 0)])<|.nil
def Ee3 : Sts := zG 5 0<|.nil
def Ee4 : Sts := zB 6 5<|zA 7 (Zc .lss 6 16)<|.nil
def By1 : AT := .q (zD 0 10 5<|zD 1 11 5<|zC 2 12 (.iaddrA 16 1 (.t 2) (.t 11))<|zC 3 13 (.loadI .u64 (.t 12))<|zD 4 14 5<|zC 5 15 (.iaddrA 16 1 (.t 3) (.t 14))<|zC 6 16 (.loadI .u64 (.t 15))<|zC 7 17 (Zb .or 13 16)<|zC 8 18 (.iaddrA 16 1 (.t 2) (.t 10))<|.nil)<|.s 9 none (.store 1 (.t 18) (.t 17)) true (zF<|.fin)<|.no
def Ee5 : Sts := Zu 8 5 9
def By2 : RCode := (.seq (Zr Ee4 (ZX 7 0)) (.seq (.block 1 (.any By1)) (.reg Ee5)))
def Ee6 : Sts := zA 19 (Zo 16 2)<|Zw 16 4 19<|.nil
def Q99 : RFun := ⟨20, [0, 1, 2, 3, 4, 5], (Zr Ee2 (.seq (Zr Ee3 (.block 0 (.loop By2))) (Zr Ee6 .ret))), [.cellA 4 16]⟩
theorem Q99_ok : Al Tryz.prog Q99.V ZQ 48 = some Q99 := by kernel_rfl

def Ee7 : Sts := zA 2 (.alloc 95 [(.int .u64 0), (.int .u64 0), (.int .u64 0), (.int .u64 0), (.int .u64 0), (.int .u64 0), (.int .u64 0), (.int .u64 0), (.int .u64 0), (.int .u64 0), (.int .u64 0), (.int .u64 0), (.int .u64 0), (.int .u64 0), (.int .u64 0), (.int .u64 0)])<|.nil
def Ee8 : Sts := zA 3 (.alloc 95 [(.int .u64 0), (.int .u64 0), (.int .u64 0), (.int .u64 0), (.int .u64 0), (.int .u64 0), (.int .u64 0), (.int .u64 0), (.int .u64 0), (.int .u64 0), (.int .u64 0), (.int .u64 0), (.int .u64 0), (.int .u64 0), (.int .u64 0), (.int .u64 0)])<|.nil
def Ee9 : Sts := zG 4 0<|.nil
def Ef0 : Sts := Zl 6 4 7 0 8 9
def Ef1 : Sts := zB 12 4<|zA 13 (Zc .add 12 1)<|zB 5 13<|.nil
def Ef2 : Sts := Zl 14 5 15 0 16 17
def By3 : AT := .q (zD 0 20 0<|zD 1 21 4<|zC 2 22 (zH 6 20 21)<|zC 3 23 (zI 0 22)<|zC 4 24 (zJ 23)<|zD 5 25 0<|zD 6 26 5<|zC 7 27 (zH 6 25 26)<|zC 8 28 (zI 0 27)<|zC 9 29 (zJ 28)<|zC 10 30 (Zb .eql 24 29)<|.nil)<|.fin
def Ef3 : Sts := zB 31 4<|zB 32 4<|zA 33 (.iaddrA 16 1 (.t 3) (.t 32))<|zA 34 (.loadI .u64 (.t 33))<|zB 35 5<|zA 36 (.conv .u64 (.t 35))<|zA 37 (.bin .shl (.c (.int .u64 1)) (.t 36))<|zA 38 (Zb .or 34 37)<|zA 39 (.iaddrA 16 1 (.t 3) (.t 31))<|ZW 39 38<|.nil
def Ef4 : Sts := Zu 18 5 19
def By4 : RCode := (.seq (Zr Ef2 (ZX 17 2)) (.seq (.block 3 (.seq (.any By3) (.cond (.t 30) (.reg Ef3) .skip))) (.reg Ef4)))
def Ef5 : Sts := Zu 10 4 11
def Ay5 : RCode := (.seq (Zr Ef0 (ZX 9 0)) (.seq (.block 1 (Zr Ef1 (.block 2 (.loop By4)))) (.reg Ef5)))
def By5 : Sts := zA 40 (Zo 16 3)<|Zw 16 2 40<|.nil
def Q97 : RFun := ⟨41, [0, 2, 3, 4, 5], (Zr Ee7 (Zr Ee8 (.seq (Zr Ee9 (.block 0 (.loop Ay5))) (Zr By5 .ret)))), [.cellA 2 16]⟩
theorem Q97_ok : Al Tryz.prog Q97.V ZQ 49 = some Q97 := by kernel_rfl

def Ef6 : Sts := Zq 3 37 1<|zA 4 (.alloc 95 [(.int .u64 0), (.int .u64 0), (.int .u64 0), (.int .u64 0), (.int .u64 0), (.int .u64 0), (.int .u64 0), (.int .u64 0), (.int .u64 0), (.int .u64 0), (.int .u64 0), (.int .u64 0), (.int .u64 0), (.int .u64 0), (.int .u64 0), (.int .u64 0)])<|.nil
def Ef7 : Sts := zA 5 (.alloc 95 [(.int .u64 0), (.int .u64 0), (.int .u64 0), (.int .u64 0), (.int .u64 0), (.int .u64 0), (.int .u64 0), (.int .u64 0), (.int .u64 0), (.int .u64 0), (.int .u64 0), (.int .u64 0), (.int .u64 0), (.int .u64 0), (.int .u64 0), (.int .u64 0)])<|.nil
def Ef8 : Sts := zG 6 0<|.nil
def Ef9 : Sts := Zl 7 6 8 0 9 10
def Eg0 : Sts := ZY 13 14 0 3<|ZZ 15 16 6 1 14<|zA 17 (zJ 16)<|zA 18 (Zc .geq 17 0)<|.nil
def By6 : AT := .q (zC 0 19 (zI 0 3)<|zC 1 20 (zK 19)<|zD 2 21 6<|zC 3 22 (zH 1 20 21)<|zC 4 23 (zJ 22)<|zC 5 24 (zI 0 3)<|zC 6 25 (zK 24)<|zD 7 26 6<|zC 8 27 (zH 1 25 26)<|zC 9 28 (zJ 27)<|zC 10 29 (.iaddrA 16 1 (.t 5) (.t 28))<|zC 11 30 (.loadI .u64 (.t 29))<|zD 12 31 6<|zC 13 32 (.conv .u64 (.t 31))<|zC 14 33 (.bin .shl (.c (.int .u64 1)) (.t 32))<|zC 15 34 (Zb .or 30 33)<|zC 16 35 (.iaddrA 16 1 (.t 5) (.t 23))<|.nil)<|.s 17 none (.store 1 (.t 35) (.t 34)) true (zF<|.fin)<|.no
def Eg1 : Sts := Zu 11 6 12
def By7 : RCode := (.seq (Zr Ef9 (ZX 10 0)) (.seq (.block 1 (Zr Eg0 (.cond (.t 18) (.any By6) .skip))) (.reg Eg1)))
def Eg2 : Sts := zA 36 (Zo 16 5)<|Zw 16 4 36<|.nil
def Q90 : RFun := ⟨37, [0, 1, 3, 4, 5, 6], (Zr Ef6 (Zr Ef7 (.seq (Zr Ef8 (.block 0 (.loop By7))) (Zr Eg2 .ret)))), [.cellA 4 16]⟩
theorem Q90_ok : Al Tryz.prog Q90.V ZQ 50 = some Q90 := by kernel_rfl

def Eg3 : Sts := Zq 1 37 0<|zA 2 (.alloc 95 [(.int .u64 0), (.int .u64 0), (.int .u64 0), (.int .u64 0), (.int .u64 0), (.int .u64 0), (.int .u64 0), (.int .u64 0), (.int .u64 0), (.int .u64 0), (.int .u64 0), (.int .u64 0), (.int .u64 0), (.int .u64 0), (.int .u64 0), (.int .u64 0)])<|.nil
def Eg4 : Sts := zA 3 (.alloc 95 [(.int .u64 0), (.int .u64 0), (.int .u64 0), (.int .u64 0), (.int .u64 0), (.int .u64 0), (.int .u64 0), (.int .u64 0), (.int .u64 0), (.int .u64 0), (.int .u64 0), (.int .u64 0), (.int .u64 0), (.int .u64 0), (.int .u64 0), (.int .u64 0)])<|.nil
def Eg5 : Sts := zG 4 0<|.nil
def Eg6 : Sts := zB 6 4<|ZY 7 8 3 1<|zA 9 (zM 8)<|zA 10 (Zb .lss 6 9)<|.nil
def Eg7 : Sts := zB 13 4<|zA 14 (Zc .add 13 1)<|zB 5 14<|.nil
def Eg8 : Sts := zB 15 5<|ZY 16 17 3 1<|zA 18 (zM 17)<|zA 19 (Zb .lss 15 18)<|.nil
def By8 : AT := .q (zC 0 22 (zI 3 1)<|zC 1 23 (zK 22)<|zD 2 24 4<|zC 3 25 (zH 1 23 24)<|zC 4 26 (zJ 25)<|zC 5 27 (zI 3 1)<|zC 6 28 (zK 27)<|zD 7 29 4<|zC 8 30 (zH 1 28 29)<|zC 9 31 (zJ 30)<|zC 10 32 (.iaddrA 16 1 (.t 3) (.t 31))<|zC 11 33 (.loadI .u64 (.t 32))<|zC 12 34 (zI 3 1)<|zC 13 35 (zK 34)<|zD 14 36 5<|zC 15 37 (zH 1 35 36)<|zC 16 38 (zJ 37)<|zC 17 39 (.conv .u64 (.t 38))<|zC 18 40 (.bin .shl (.c (.int .u64 1)) (.t 39))<|zC 19 41 (Zb .or 33 40)<|zC 20 42 (.iaddrA 16 1 (.t 3) (.t 26))<|.nil)<|.s 21 none (.store 1 (.t 42) (.t 41)) true (zF<|.fin)<|.no
def Eg9 : Sts := Zu 20 5 21
def By9 : RCode := (.seq (Zr Eg8 (ZX 19 2)) (.seq (.block 3 (.any By8)) (.reg Eg9)))
def Eh0 : Sts := Zu 11 4 12
def Bz0 : RCode := (.seq (Zr Eg6 (ZX 10 0)) (.seq (.block 1 (Zr Eg7 (.block 2 (.loop By9)))) (.reg Eh0)))
def Eh1 : Sts := zA 43 (Zo 16 3)<|Zw 16 2 43<|.nil
def Q98 : RFun := ⟨44, [0, 1, 2, 3, 4, 5], (Zr Eg3 (Zr Eg4 (.seq (Zr Eg5 (.block 0 (.loop Bz0))) (Zr Eh1 .ret)))), [.cellA 2 16]⟩
theorem Q98_ok : Al Tryz.prog Q98.V ZQ 51 = some Q98 := by kernel_rfl

def Eh2 : Sts := Zq 2 95 0<|Zq 3 95 1<|Zm 4 Zf<|.nil
def Eh3 : Sts := zA 7 (Zo 16 2)<|zA 8 (Z1 46 7)<|.nil
def Eh4 : Sts := zA 4 (.mv (.c (.bool true)))<|.nil
def Eh5 : Sts := zG 5 0<|.nil
def Eh6 : Sts := zB 9 5<|zA 10 (Zc .lss 9 16)<|.nil
def Eh7 : Sts := zG 6 0<|.nil
def Eh8 : Sts := zB 13 6<|zA 14 (Zc .lss 13 16)<|.nil
def Eh9 : Sts := zB 17 5<|zA 18 (.iaddrA 16 1 (.t 2) (.t 17))<|zA 19 (.loadI .u64 (.t 18))<|zB 20 6<|zA 21 (.conv .u64 (.t 20))<|zA 22 (Zb .shr 19 21)<|zA 23 (.bin .and (.t 22) (.c (.int .u64 1)))<|zA 24 (.bin .eql (.t 23) (.c (.int .u64 1)))<|zB 25 24<|.cnd 25 true (zB 26 6<|zA 27 (.iaddrA 16 1 (.t 3) (.t 26))<|zA 28 (.loadI .u64 (.t 27))<|zB 29 5<|zA 30 (.conv .u64 (.t 29))<|zA 31 (Zb .shr 28 30)<|zA 32 (.bin .and (.t 31) (.c (.int .u64 1)))<|zA 33 (.bin .eql (.t 32) (.c (.int .u64 1)))<|.nil) 34 (.t 33)<|.nil
def Ei0 : Sts := zA 4 (.mv (.c (.bool true)))<|.nil
def Ei1 : Sts := Zu 15 6 16
def Ay6 : RCode := (.seq (Zr Eh8 (ZX 14 2)) (.seq (.block 3 (Zr Eh9 (.cond (.t 34) (Zr Ei0 .ret) .skip))) (.reg Ei1)))
def Bz1 : Sts := Zu 11 5 12
def Ay7 : RCode := (.seq (Zr Eh6 (ZX 10 0)) (.seq (.block 1 (Zr Eh7 (.block 2 (.loop Ay6)))) (.reg Bz1)))
def Bz2 : Sts := Zm 4 Zf<|.nil
def Q85 : RFun := ⟨35, [0, 1, 2, 3, 4, 5, 6], (Zr Eh2 (.seq (Zr Eh3 (.cond (.t 8) (Zr Eh4 .ret) .skip)) (.seq (Zr Eh5 (.block 0 (.loop Ay7))) (Zr Bz2 .ret)))), [.tmp 4]⟩
theorem Q85_ok : Al Tryz.prog Q85.V ZQ 52 = some Q85 := by kernel_rfl

def Ei2 : Sts := Zq 3 37 1<|zA 4 (.alloc 95 [(.int .u64 0), (.int .u64 0), (.int .u64 0), (.int .u64 0), (.int .u64 0), (.int .u64 0), (.int .u64 0), (.int .u64 0), (.int .u64 0), (.int .u64 0), (.int .u64 0), (.int .u64 0), (.int .u64 0), (.int .u64 0), (.int .u64 0), (.int .u64 0)])<|.nil
def Bz3 : AT := .q (zD 0 5 0<|zD 2 7 0<|zC 3 8 (Zo 4 3)<|zC 5 10 (Zo 4 3)<|.nil)<|zE 1 6 (Z1 49 5) false (zF<|zE 4 9 (Z2 95 7 8) false (zF<|zE 6 11 (Z1 51 10) true (zF<|zE 7 12 (Z2 48 9 11) true (zF<|zE 8 13 (Z2 48 6 12) true (zF<|zE 9 14 (Z1 47 13) true (zF<|.s 10 none (.store 16 (.t 4) (.t 14)) true (zF<|.fin)<|.no)<|.no)<|.no)<|.no)<|.no)<|.no)<|.no
def Q84 : RFun := ⟨15, [0, 1, 3, 4], (Zr Ei2 (.seq (.any Bz3) .ret)), [.cellA 4 16]⟩
theorem Q84_ok : Al Tryz.prog Q84.V ZQ 53 = some Q84 := by kernel_rfl

def Ei3 : Sts := Zq 3 37 1<|zA 4 (.alloc 95 [(.int .u64 0), (.int .u64 0), (.int .u64 0), (.int .u64 0), (.int .u64 0), (.int .u64 0), (.int .u64 0), (.int .u64 0), (.int .u64 0), (.int .u64 0), (.int .u64 0), (.int .u64 0), (.int .u64 0), (.int .u64 0), (.int .u64 0), (.int .u64 0)])<|.nil
def Ei4 : Sts := zB 12 0<|zA 13 (Zo 4 3)<|zA 14 (Z2 50 12 13)<|zA 5 (.alloc 95 [(.int .u64 0), (.int .u64 0), (.int .u64 0), (.int .u64 0), (.int .u64 0), (.int .u64 0), (.int .u64 0), (.int .u64 0), (.int .u64 0), (.int .u64 0), (.int .u64 0), (.int .u64 0), (.int .u64 0), (.int .u64 0), (.int .u64 0), (.int .u64 0)])<|Zw 16 5 14<|.nil
def Ei5 : Sts := zG 6 0<|.nil
def Ei6 : Sts := zB 15 6<|zA 16 (Zc .lss 15 3)<|.nil
def Ei7 : Sts := zG 7 0<|.nil
def Ei8 : Sts := zB 19 7<|ZY 20 21 2 3<|ZZ 22 23 6 1 21<|zA 24 (zK 23)<|zA 25 (zM 24)<|zA 26 (Zb .lss 19 25)<|.nil
def Ei9 : Sts := ZY 29 30 2 3<|ZZ 31 32 6 1 30<|zA 33 (zK 32)<|ZZ 34 35 7 1 33<|zA 36 (zJ 35)<|zB 8 36<|.nil
def Ej0 : Sts := zB 37 7<|zA 38 (Zc .add 37 1)<|zB 9 38<|.nil
def Ej1 : Sts := zB 39 9<|ZY 40 41 2 3<|ZZ 42 43 6 1 41<|zA 44 (zK 43)<|zA 45 (zM 44)<|zA 46 (Zb .lss 39 45)<|.nil
def Bz4 : AT := .q (zD 0 49 8<|zD 1 50 8<|zC 2 51 (.iaddrA 16 1 (.t 5) (.t 50))<|zC 3 52 (.loadI .u64 (.t 51))<|zC 4 53 (zI 2 3)<|zC 5 54 (zK 53)<|zD 6 55 6<|zC 7 56 (zH 1 54 55)<|zC 8 57 (zK 56)<|zD 9 58 9<|zC 10 59 (zH 1 57 58)<|zC 11 60 (zJ 59)<|zC 12 61 (.conv .u64 (.t 60))<|zC 13 62 (.bin .shl (.c (.int .u64 1)) (.t 61))<|zC 14 63 (Zb .or 52 62)<|zC 15 64 (.iaddrA 16 1 (.t 5) (.t 49))<|.nil)<|.s 16 none (.store 1 (.t 64) (.t 63)) true (zF<|.fin)<|.no
def Bz5 : Sts := Zu 47 9 48
def Ay8 : RCode := (.seq (Zr Ej1 (ZX 46 4)) (.seq (.block 5 (.any Bz4)) (.reg Bz5)))
def Bz6 : Sts := zG 10 0<|.nil
def Bz7 : Sts := Zl 65 10 66 0 67 68
def Bz8 : Sts := ZY 71 72 0 3<|ZZ 73 74 10 1 72<|zA 75 (zJ 74)<|zA 76 (.bin .eql (.t 75) (.c (.int .i64 (-1))))<|zB 77 76<|.cnd 77 true (zB 78 0<|ZZ 79 80 10 6 78<|zA 81 (zI 1 80)<|Zy 82 83 1 81<|zB 84 6<|zA 85 (Zb .eql 83 84)<|.nil) 86 (.t 85)<|zB 87 86<|.cnd 87 true (zB 88 8<|zB 89 10<|zA 90 (Zb .neq 88 89)<|.nil) 91 (.t 90)<|.nil
def Bz9 : Sts := zB 92 10<|zB 93 10<|zA 94 (.iaddrA 16 1 (.t 5) (.t 93))<|zA 95 (.loadI .u64 (.t 94))<|zB 96 8<|zA 97 (.conv .u64 (.t 96))<|zA 98 (.bin .shl (.c (.int .u64 1)) (.t 97))<|zA 99 (Zb .or 95 98)<|zA 100 (.iaddrA 16 1 (.t 5) (.t 92))<|ZW 100 99<|.nil
def Ca0 : Sts := zB 101 7<|zA 102 (Zc .add 101 1)<|zB 11 102<|.nil
def Ca1 : Sts := zB 103 11<|ZY 104 105 2 3<|ZZ 106 107 6 1 105<|zA 108 (zK 107)<|zA 109 (zM 108)<|zA 110 (Zb .lss 103 109)<|.nil
def Ca2 : Sts := ZY 113 114 0 3<|ZZ 115 116 10 1 114<|zA 117 (zJ 116)<|zB 118 8<|zA 119 (Zb .eql 117 118)<|zB 120 119<|.cnd 120 true (ZY 121 122 2 3<|ZZ 123 124 6 1 122<|zA 125 (zK 124)<|ZZ 126 127 11 1 125<|zA 128 (zJ 127)<|zB 129 10<|zA 130 (Zb .neq 128 129)<|.nil) 131 (.t 130)<|.nil
def At1 : AT := .q (zD 0 132 10<|zD 1 133 10<|zC 2 134 (.iaddrA 16 1 (.t 5) (.t 133))<|zC 3 135 (.loadI .u64 (.t 134))<|zC 4 136 (zI 2 3)<|zC 5 137 (zK 136)<|zD 6 138 6<|zC 7 139 (zH 1 137 138)<|zC 8 140 (zK 139)<|zD 9 141 11<|zC 10 142 (zH 1 140 141)<|zC 11 143 (zJ 142)<|zC 12 144 (.conv .u64 (.t 143))<|zC 13 145 (.bin .shl (.c (.int .u64 1)) (.t 144))<|zC 14 146 (Zb .or 135 145)<|zC 15 147 (.iaddrA 16 1 (.t 5) (.t 132))<|.nil)<|.s 16 none (.store 1 (.t 147) (.t 146)) true (zF<|.fin)<|.no
def Ca3 : Sts := Zu 111 11 112
def Ay9 : RCode := (.seq (Zr Ca1 (ZX 110 8)) (.seq (.block 9 (Zr Ca2 (.cond (.t 131) (.any At1) .skip))) (.reg Ca3)))
def Ca4 : Sts := Zu 69 10 70
def Az0 : RCode := (.seq (Zr Bz7 (ZX 68 6)) (.seq (.block 7 (.seq (Zr Bz8 (.cond (.t 91) (.reg Bz9) .skip)) (Zr Ca0 (.block 8 (.loop Ay9))))) (.reg Ca4)))
def Ca5 : Sts := Zu 27 7 28
def Az1 : RCode := (.seq (Zr Ei8 (ZX 26 2)) (.seq (.block 3 (Zr Ei9 (.seq (Zr Ej0 (.block 4 (.loop Ay8))) (Zr Bz6 (.block 6 (.loop Az0)))))) (.reg Ca5)))
def Ca6 : Sts := Zu 17 6 18
def Az2 : RCode := (.seq (Zr Ei6 (ZX 16 0)) (.seq (.block 1 (Zr Ei7 (.block 2 (.loop Az1)))) (.reg Ca6)))
def Ca7 : Sts := zA 148 (Zo 16 5)<|zA 149 (Z1 47 148)<|Zw 16 4 149<|.nil
def Q95 : RFun := ⟨150, [0, 1, 3, 4, 5, 6, 7, 8, 9, 10, 11], (Zr Ei3 (Zr Ei4 (.seq (Zr Ei5 (.block 0 (.loop Az2))) (Zr Ca7 .ret)))), [.cellA 4 16]⟩
theorem Q95_ok : Al Tryz.prog Q95.V ZQ 54 = some Q95 := by kernel_rfl

def Ej2 : Sts := Zq 3 37 1<|Zm 4 Zf<|.nil
def Ej3 : Sts := zG 5 0<|.nil
def Ej4 : Sts := zB 9 5<|zA 10 (Zc .lss 9 3)<|.nil
def Ej5 : Sts := zG 6 0<|.nil
def Ej6 : Sts := zB 13 6<|ZY 14 15 2 3<|ZZ 16 17 5 1 15<|zA 18 (zK 17)<|zA 19 (zM 18)<|zA 20 (Zb .lss 13 19)<|.nil
def Ej7 : Sts := ZY 23 24 2 3<|ZZ 25 26 5 1 24<|zA 27 (zK 26)<|ZZ 28 29 6 1 27<|zA 30 (zJ 29)<|zB 7 30<|.nil
def Ej8 : Sts := zA 8 (.mv (.c (.int .i64 (-1))))<|.nil
def Ej9 : Sts := zB 31 6<|zA 32 (Zc .gtr 31 0)<|.nil
def Ek0 : Sts := ZY 33 34 2 3<|ZZ 35 36 5 1 34<|zA 37 (zK 36)<|zB 38 6<|zA 39 (Zc .sub 38 1)<|Zj 40 41 1 37 39<|zB 8 41<|.nil
def Ek1 : Sts := zB 42 0<|ZZ 43 44 7 6 42<|zA 45 (zI 1 44)<|zA 46 (Zo 5 45)<|zA 47 (Z1 56 46)<|zB 48 47<|.cnd 48 true (ZY 49 50 0 3<|ZZ 51 52 7 1 50<|zA 53 (zJ 52)<|zB 54 8<|zA 55 (Zb .neq 53 54)<|.nil) 56 (.t 55)<|.nil
def Ca8 : Sts := Zm 4 Zf<|.nil
def Ca9 : Sts := Zu 21 6 22
def Az3 : RCode := (.seq (Zr Ej6 (ZX 20 2)) (.seq (.block 3 (Zr Ej7 (Zr Ej8 (.seq (Zr Ej9 (.cond (.t 32) (.reg Ek0) .skip)) (Zr Ek1 (.cond (.t 56) (Zr Ca8 .ret) .skip)))))) (.reg Ca9)))
def Cb0 : Sts := Zu 11 5 12
def Az4 : RCode := (.seq (Zr Ej4 (ZX 10 0)) (.seq (.block 1 (Zr Ej5 (.block 2 (.loop Az3)))) (.reg Cb0)))
def Cb1 : Sts := zA 4 (.mv (.c (.bool true)))<|.nil
def Q92 : RFun := ⟨57, [0, 1, 3, 4, 5, 6, 7, 8], (Zr Ej2 (.seq (Zr Ej3 (.block 0 (.loop Az4))) (Zr Cb1 .ret))), [.tmp 4]⟩
theorem Q92_ok : Al Tryz.prog Q92.V ZQ 55 = some Q92 := by kernel_rfl

def Ek2 : Sts := Zq 1 83 0<|Zm 2 Zf<|.nil
def Ek3 : Sts := Zy 3 4 0 1<|zA 5 (Zc .eql 4 0)<|zB 6 5<|.cnd 6 false (Zy 7 8 0 1<|zA 9 (Zc .geq 8 2)<|zB 10 9<|.cnd 10 true (Zy 11 12 0 1<|zA 13 (Zc .leq 12 4)<|.nil) 14 (.t 13)<|.nil) 15 (.t 14)<|zB 2 15<|.nil
def Q93 : RFun := ⟨16, [0, 1, 2], (Zr Ek2 (Zr Ek3 .ret)), [.tmp 2]⟩
theorem Q93_ok : Al Tryz.prog Q93.V ZQ 56 = some Q93 := by kernel_rfl

def Ek4 : Sts := Zq 1 24 0<|Zm 2 Zf<|.nil
def Ek5 : Sts := ZY 10 11 0 1<|zA 12 (zM 11)<|zA 13 (Zc .gtr 12 3)<|.nil
def Ek6 : Sts := Zm 2 Zf<|.nil
def Ek7 : Sts := zG 3 0<|zG 4 0<|.nil
def Ek8 : Sts := zA 5 (.alloc 142 [Zi, Zi, Zi])<|.nil
def Ek9 : Sts := ZY 14 15 0 1<|zA 16 (zM 15)<|zG 17 0<|.nil
def El0 : Sts := zA 18 (Zb .lss 17 16)<|.nil
def El1 : Sts := zA 19 (zH 1 15 17)<|zA 20 (zK 19)<|zB 7 20<|.nil
def El2 : Sts := zB 21 7<|zA 22 (zM 21)<|zG 23 0<|.nil
def El3 : Sts := zA 24 (Zb .lss 23 22)<|.nil
def Cb2 : Sts := zA 25 (zH 5 21 23)<|zA 26 (Zo 5 25)<|zA 9 (.alloc 83 [Zi, Zi, Zi, Zi, Zi])<|Zw 5 9 26<|.nil
def Cb3 : Sts := Zy 28 29 0 9<|zA 30 (Zc .eql 29 5)<|zB 27 30<|.nil
def Cb4 : Sts := Zu 31 4 32
def Cb5 : Sts := zA 34 (Zo 5 9)<|zA 35 (Z1 71 34)<|zB 33 35<|.nil
def Cb6 : Sts := Zu 36 3 37
def Cb7 : Sts := Zy 38 39 4 9<|zA 40 (Zc .eql 39 4)<|.nil
def Cb8 : Sts := zB 41 4<|zA 42 (Zc .add 41 2)<|zB 4 42<|.nil
def Cb9 : Sts := Zy 43 44 0 9<|zA 45 (Zc .neq 44 0)<|zB 46 45<|.cnd 46 true (Zy 47 48 1 9<|zA 49 (Zc .geq 48 0)<|.nil) 50 (.t 49)<|zB 51 50<|.cnd 51 true (Zy 52 53 1 9<|zA 54 (Zc .lss 53 3)<|.nil) 55 (.t 54)<|.nil
def Cc0 : Sts := Zy 56 57 1 9<|zA 58 (.iaddrA 3 1 (.t 5) (.t 57))<|zA 59 (zJ 58)<|zA 60 (Zc .add 59 1)<|zA 61 (.iaddrA 3 1 (.t 5) (.t 57))<|ZW 61 60<|.nil
def Cc1 : Sts := zA 62 (Zc .add 23 1)<|zB 23 62<|.nil
def Az5 : RCode := (Zr El3 (.seq (ZX 24 2) (.seq (.block 3 (Zr Cb2 (.block 4 (Zr Cb3 (.cond (.t 27) (.reg Cb4) (Zr Cb5 (.cond (.t 33) (Zr Cb6 (.seq (Zr Cb7 (.cond (.t 40) (.reg Cb8) .skip)) (Zr Cb9 (.cond (.t 55) (.reg Cc0) .skip)))) .skip))))))) (.reg Cc1))))
def Cc2 : Sts := zA 63 (Zc .add 17 1)<|zB 17 63<|.nil
def Az6 : RCode := (Zr El0 (.seq (ZX 18 0) (.seq (.block 1 (Zr El1 (Zr El2 (.block 2 (.loop Az5))))) (.reg Cc2))))
def Cc3 : Sts := zB 64 3<|zA 65 (Zc .leq 64 6)<|zB 66 65<|.cnd 66 true (zB 67 4<|zA 68 (Zc .leq 67 8)<|.nil) 69 (.t 68)<|zB 70 69<|.cnd 70 true (zA 71 (.slA 3 1 (.t 5) none none)<|zA 72 (Z1 98 71)<|zA 73 (Zc .leq 72 4)<|.nil) 74 (.t 73)<|zB 2 74<|.nil
def Q51 : RFun := ⟨75, [0, 1, 2, 3, 4, 5, 7, 9, 15, 16, 17, 21, 22, 23], (Zr Ek4 (.seq (Zr Ek5 (.cond (.t 13) (Zr Ek6 .ret) .skip)) (Zr Ek7 (Zr Ek8 (.seq (Zr Ek9 (.block 0 (.loop Az6))) (Zr Cc3 .ret)))))), [.tmp 2]⟩
theorem Q51_ok : Al Tryz.prog Q51.V ZQ 63 = some Q51 := by kernel_rfl

def Cc4 : Sts := Zm 4 Zf<|zG 5 0<|.nil
def Cc5 : Sts := zB 6 0<|zA 7 (Zc .lss 6 0)<|zB 8 7<|.cnd 8 false (zB 9 0<|zA 10 (Zc .geq 9 6)<|.nil) 11 (.t 10)<|zB 12 11<|.cnd 12 false (zB 13 1<|zA 14 (Z1 96 13)<|zA 15 (Zt 14)<|.nil) 16 (.t 15)<|.nil
def Cc6 : Sts := Zm 4 Zf<|zG 5 1<|.nil
def Cc7 : Sts := zB 17 0<|zB 18 1<|zA 19 (Z2 99 17 18)<|zB 4 19<|zG 5 0<|.nil
def Dj4 : RFun := ⟨20, [0, 1, 4, 5], (Zr Cc4 (.seq (Zr Cc5 (.cond (.t 16) (Zr Cc6 .ret) .skip)) (Zr Cc7 .ret))), [.tmp 4, .tmp 5]⟩
theorem Q103_ok : Al Tryz.prog Dj4.V ZQ 64 = some Dj4 := by kernel_rfl

def El4 : Sts := Zq 1 83 0<|Zm 2 Zf<|.nil
def El5 : Sts := Zy 3 4 1 1<|zA 5 (Zc .lss 4 0)<|zB 6 5<|.cnd 6 false (Zy 7 8 1 1<|zA 9 (Zc .geq 8 3)<|.nil) 10 (.t 9)<|.nil
def El6 : Sts := Zm 2 Zf<|.nil
def El7 : Sts := Zy 11 12 0 1<|.nil
def El8 : Sts := zA 14 (Zc .eql 12 0)<|zB 13 14<|.nil
def El9 : Sts := Zy 15 16 2 1<|zA 17 (Zc .eql 16 0)<|zB 18 17<|.cnd 18 true (Zy 19 20 3 1<|zA 21 (Zc .eql 20 0)<|.nil) 22 (.t 21)<|zB 2 22<|.nil
def Em0 : Sts := zA 24 (Zc .eql 12 1)<|zB 23 24<|.nil
def Em1 : Sts := Zy 25 26 2 1<|zA 27 (Z1 100 26)<|zB 28 27<|.cnd 28 true (Zy 29 30 3 1<|zA 31 (Zc .eql 30 0)<|.nil) 32 (.t 31)<|zB 2 32<|.nil
def Em2 : Sts := zA 34 (Zc .eql 12 2)<|zB 33 34<|.nil
def Em3 : Sts := Zy 35 36 2 1<|zA 37 (.bin .geq (.t 36) (.c (.int .i64 (-9))))<|zB 38 37<|.cnd 38 true (Zy 39 40 2 1<|zA 41 (Zc .leq 40 9)<|.nil) 42 (.t 41)<|zB 43 42<|.cnd 43 true (Zy 44 45 3 1<|zA 46 (Zc .eql 45 0)<|.nil) 47 (.t 46)<|zB 2 47<|.nil
def Cc8 : Sts := zA 49 (Zc .eql 12 3)<|zB 48 49<|.nil
def Cc9 : Sts := zA 50 (Zc .eql 12 4)<|zB 48 50<|.nil
def Cd0 : Sts := Zy 51 52 2 1<|zA 53 (Z1 100 52)<|zB 54 53<|.cnd 54 true (Zy 55 56 3 1<|zA 57 (Z1 100 56)<|.nil) 58 (.t 57)<|zB 2 58<|.nil
def Cd1 : Sts := zA 60 (Zc .eql 12 5)<|zB 59 60<|.nil
def Cd2 : Sts := Zy 61 62 1 1<|zA 63 (Zc .eql 62 0)<|zB 64 63<|.cnd 64 true (Zy 65 66 2 1<|zA 67 (Zc .eql 66 0)<|.nil) 68 (.t 67)<|zB 69 68<|.cnd 69 true (Zy 70 71 3 1<|zA 72 (Zc .eql 71 0)<|.nil) 73 (.t 72)<|zB 2 73<|.nil
def Cd3 : Sts := Zm 2 Zf<|.nil
def Q50 : RFun := ⟨74, [0, 1, 2, 12], (Zr El4 (.seq (Zr El5 (.cond (.t 10) (Zr El6 .ret) .skip)) (.seq (Zr El7 (.block 0 (Zr El8 (.cond (.t 13) (Zr El9 .ret) (Zr Em0 (.cond (.t 23) (Zr Em1 .ret) (Zr Em2 (.cond (.t 33) (Zr Em3 .ret) (.seq (Zr Cc8 (.cond (.t 48) .skip (.reg Cc9))) (.cond (.t 48) (Zr Cd0 .ret) (Zr Cd1 (.cond (.t 59) (Zr Cd2 .ret) .skip)))))))))))) (Zr Cd3 .ret)))), [.tmp 2]⟩
theorem Q50_ok : Al Tryz.prog Q50.V ZQ 65 = some Q50 := by kernel_rfl

def Em4 : Sts := Zq 3 45 1<|Zm 4 Zn<|.nil
def Em5 : Sts := zB 11 0<|zA 12 (Zo 4 3)<|zA 13 (Z2 102 11 12)<|zB 5 13<|.nil
def Em6 : Sts := zB 14 0<|zA 15 (zM 14)<|zG 16 0<|.nil
def Em7 : Sts := zA 17 (Zb .lss 16 15)<|.nil
def Em8 : Sts := zB 18 16<|zB 6 18<|.nil
def Em9 : Sts := zB 19 0<|ZZ 20 21 6 6 19<|zA 22 (Zo 6 21)<|zA 23 (Z1 86 22)<|zA 24 (Zt 23)<|zB 25 24<|.cnd 25 false (ZY 26 27 0 3<|ZZ 28 29 6 1 27<|zA 30 (zJ 29)<|zA 31 (Zc .lss 30 0)<|.nil) 32 (.t 31)<|.nil
def En0 : Sts := zA 7 (.mv (.c (.int .u32 0)))<|.nil
def En1 : Sts := ZY 33 34 0 3<|ZZ 35 36 6 1 34<|zA 37 (zJ 36)<|zB 8 37<|.nil
def En2 : Sts := zB 38 0<|zA 39 (zM 38)<|zG 40 0<|.nil
def En3 : Sts := zA 41 (Zb .lss 40 39)<|.nil
def Cd4 : Sts := zB 42 7<|zB 43 0<|zB 44 8<|zA 45 (Z2 103 43 44)<|zA 46 (Zb .or 42 45)<|zB 7 46<|.nil
def Cd5 : Sts := zB 47 0<|zA 48 (Zo 4 3)<|zB 49 8<|zA 50 (.call 104 [(.t 47), (.t 48), (.t 49)])<|zA 51 (Zt 50)<|zB 52 51<|.cnd 52 false (ZY 53 54 0 3<|ZZ 55 56 8 1 54<|zA 57 (zJ 56)<|zA 58 (Zc .lss 57 0)<|.nil) 59 (.t 58)<|.nil
def Cd6 : Sts := ZY 60 61 0 3<|ZZ 62 63 8 1 61<|zA 64 (zJ 63)<|zB 8 64<|.nil
def Cd7 : Sts := zA 65 (Zc .add 40 1)<|zB 40 65<|.nil
def Az7 : RCode := (Zr En3 (.seq (ZX 41 2) (.seq (.block 3 (Zr Cd4 (.seq (Zr Cd5 (Zs 59 2)) (.reg Cd6)))) (.reg Cd7))))
def Cd8 : Sts := zB 66 0<|zB 67 6<|zA 68 (Z2 105 66 67)<|zB 9 68<|.nil
def Cd9 : Sts := zB 69 0<|zA 70 (zM 69)<|zG 71 0<|.nil
def Ce0 : Sts := zA 72 (Zb .lss 71 70)<|.nil
def Ce1 : Sts := zB 73 71<|zB 10 73<|.nil
def Ce2 : Sts := zB 74 7<|zB 75 10<|zA 76 (Zb .shr 74 75)<|zA 77 (.bin .and (.t 76) (.c (.int .u32 1)))<|zA 78 (.bin .eql (.t 77) (.c (.int .u32 1)))<|.nil
def Ce3 : Sts := zB 79 5<|ZZ 80 81 10 1 79<|zA 82 (.loadI .u32 (.t 81))<|zB 83 9<|zA 84 (Zb .or 82 83)<|zA 85 (zH 1 79 80)<|ZW 85 84<|.nil
def Ce4 : Sts := zA 86 (Zc .add 71 1)<|zB 71 86<|.nil
def Az8 : RCode := (Zr Ce0 (.seq (ZX 72 4) (.seq (.block 5 (Zr Ce1 (Zr Ce2 (.cond (.t 78) (.reg Ce3) .skip)))) (.reg Ce4))))
def Ce5 : Sts := zA 87 (Zc .add 16 1)<|zB 16 87<|.nil
def Az9 : RCode := (Zr Em7 (.seq (ZX 17 0) (.seq (.block 1 (Zr Em8 (.seq (Zr Em9 (Zs 32 1)) (Zr En0 (Zr En1 (.seq (Zr En2 (.block 2 (.loop Az7))) (Zr Cd8 (Zr Cd9 (.block 4 (.loop Az8)))))))))) (.reg Ce5))))
def Ce6 : Sts := zB 88 5<|zA 89 (Z1 106 88)<|zB 4 89<|.nil
def Q10 : RFun := ⟨90, [0, 1, 3, 4, 5, 6, 7, 8, 9, 10, 15, 16, 39, 40, 70, 71], (Zr Em4 (Zr Em5 (.seq (Zr Em6 (.block 0 (.loop Az9))) (Zr Ce6 .ret)))), [.tmp 4]⟩
theorem Q10_ok : Al Tryz.prog Q10.V ZQ 67 = some Q10 := by kernel_rfl

def En4 : Sts := Zm 6 Zf<|.nil
def En5 : Sts := zB 7 0<|ZZ 8 9 1 1 7<|zA 10 (.loadI .u32 (.t 9))<|zB 11 2<|zA 12 (Zb .shr 10 11)<|zA 13 (.bin .and (.t 12) (.c (.int .u32 1)))<|zA 14 (.bin .eql (.t 13) (.c (.int .u32 1)))<|zB 6 14<|.nil
def Q41 : RFun := ⟨15, [0, 1, 2, 6], (Zr En4 (Zr En5 .ret)), [.tmp 6]⟩
theorem Q41_ok : Al Tryz.prog Q41.V ZQ 68 = some Q41 := by kernel_rfl

def En6 : Sts := Zq 2 24 0<|zA 4 (.alloc 24 [Zn])<|.nil
def En7 : Sts := zA 5 (.alloc 24 [Zn])<|.nil
def En8 : Sts := ZY 12 13 0 2<|zA 14 (zM 13)<|zG 15 0<|.nil
def En9 : Sts := zA 16 (Zb .lss 15 14)<|.nil
def Eo0 : Sts := zA 17 (zH 1 13 15)<|zA 18 (zK 17)<|zB 7 18<|.nil
def Eo1 : Sts := Zm 8 Zn<|.nil
def Eo2 : Sts := zA 9 (.mv (.c (.bool true)))<|.nil
def Eo3 : Sts := zB 19 7<|zA 20 (zM 19)<|zG 21 0<|.nil
def Eo4 : Sts := zA 22 (Zb .lss 21 20)<|.nil
def Eo5 : Sts := zA 23 (zH 5 19 21)<|zA 24 (Zo 5 23)<|zA 11 (.alloc 83 [Zi, Zi, Zi, Zi, Zi])<|Zw 5 11 24<|.nil
def Ce7 : Sts := zB 25 8<|zB 26 1<|zA 27 (Zo 5 11)<|zB 28 9<|zA 29 (.callv (.t 26) [(.t 27), (.t 28)])<|zA 30 (.append 83 5 40 [Zi, Zi, Zi, Zi, Zi] (.t 25) (.t 29))<|zB 8 30<|.nil
def Ce8 : Sts := zB 31 9<|zB 32 31<|.cnd 32 true (zA 33 (Zo 5 11)<|zA 34 (Z1 71 33)<|zA 35 (Zt 34)<|.nil) 36 (.t 35)<|zB 9 36<|.nil
def Ce9 : Sts := zA 37 (Zc .add 21 1)<|zB 21 37<|.nil
def Ba0 : RCode := (Zr Eo4 (.seq (ZX 22 2) (.seq (.block 3 (Zr Eo5 (Zr Ce7 (.reg Ce8)))) (.reg Ce9))))
def Cf0 : Sts := ZY 38 39 0 5<|zB 40 8<|zA 41 (.buildSl 70 1 [Zn] [(0, 1, (.t 40))])<|zA 42 (.append 70 1 24 [Zn] (.t 39) (.t 41))<|zA 43 (zI 0 5)<|ZW 43 42<|.nil
def Cf1 : Sts := zA 44 (Zc .add 15 1)<|zB 15 44<|.nil
def Ba1 : RCode := (Zr En9 (.seq (ZX 16 0) (.seq (.block 1 (Zr Eo0 (Zr Eo1 (Zr Eo2 (.seq (Zr Eo3 (.block 2 (.loop Ba0))) (.reg Cf0)))))) (.reg Cf1))))
def Cf2 : Sts := zA 45 (Zo 1 5)<|ZW 4 45<|.nil
def Q52 : RFun := ⟨46, [0, 1, 2, 4, 5, 7, 8, 9, 11, 13, 14, 15, 19, 20, 21], (Zr En6 (Zr En7 (.seq (Zr En8 (.block 0 (.loop Ba1))) (Zr Cf2 .ret)))), [.cellA 4 1]⟩
theorem Q52_ok : Al Tryz.prog Q52.V ZQ 69 = some Q52 := by kernel_rfl

def Eo6 : Sts := Zq 2 83 0<|Zm 4 Zn<|.nil
def Eo7 : Sts := zA 5 (Zo 5 2)<|zA 6 (Z1 71 5)<|zA 7 (Zt 6)<|zB 8 7<|.cnd 8 false (Zy 9 10 4 2<|zA 11 (Zc .neq 10 4)<|.nil) 12 (.t 11)<|.nil
def Eo8 : Sts := zA 13 (Zo 5 2)<|zA 14 (.buildSl 83 1 [Zi, Zi, Zi, Zi, Zi] [(0, 5, (.t 13))])<|zB 4 14<|.nil
def Eo9 : Sts := Zy 16 17 0 2<|Zy 18 19 4 2<|zA 20 (Z2 72 17 19)<|zB 15 20<|zA 21 (Zx 0 15)<|zA 22 (Zx 1 15)<|zA 23 (zI 4 2)<|ZW 23 21<|.nil
def Ep0 : AT := .q (zC 1 25 (Zo 5 2)<|.nil)<|zE 0 24 (.call 73 []) false (zF<|zE 2 26 (.call 73 []) false (zF<|zE 3 27 (.buildSl 83 3 [Zi, Zi, Zi, Zi, Zi, Zi, Zi, Zi, Zi, Zi, Zi, Zi, Zi, Zi, Zi] [(0, 5, (.t 24)), (5, 5, (.t 25)), (10, 5, (.t 26))]) true (.q (zD 4 4 27<|.nil)<|.fin)<|.no)<|.no)<|.no
def Q47 : RFun := ⟨28, [0, 2, 4], (Zr Eo6 (.seq (Zr Eo7 (.cond (.t 12) (Zr Eo8 .ret) .skip)) (Zr Eo9 (.seq (.any Ep0) .ret)))), [.tmp 4]⟩
theorem Q47_ok : Al Tryz.prog Q47.V ZQ 70 = some Q47 := by kernel_rfl

def Ep1 : Sts := Zq 1 83 0<|Zm 2 Zf<|.nil
def Ep2 : Sts := Zy 3 4 0 1<|zA 5 (Zc .geq 4 0)<|zB 6 5<|.cnd 6 true (Zy 7 8 0 1<|zA 9 (Zc .leq 8 4)<|.nil) 10 (.t 9)<|zB 2 10<|.nil
def Q48 : RFun := ⟨11, [0, 1, 2], (Zr Ep1 (Zr Ep2 .ret)), [.tmp 2]⟩
theorem Q48_ok : Al Tryz.prog Q48.V ZQ 71 = some Q48 := by kernel_rfl

def Cf3 : Sts := zG 4 0<|zG 5 0<|.nil
def Cf4 : Sts := zB 9 0<|zB 10 1<|zA 11 (Z2 64 9 10)<|zB 8 11<|zA 12 (Zx 0 8)<|zA 13 (Zx 1 8)<|zB 6 12<|zB 7 13<|.nil
def Cf5 : Sts := zB 15 7<|zA 16 (Zc .neq 15 0)<|zB 17 16<|.cnd 17 false (zB 18 6<|zA 19 (Zt 18)<|.nil) 20 (.t 19)<|zB 21 20<|.cnd 21 false (zB 22 0<|zA 23 (Zc .eql 22 5)<|.nil) 24 (.t 23)<|zB 14 24<|.nil
def Cf6 : Sts := zG 4 0<|zG 5 1<|.nil
def Cf7 : Sts := zB 26 1<|zA 27 (Zc .neq 26 4)<|zB 25 27<|.nil
def Cf8 : Sts := zB 28 1<|zB 4 28<|zG 5 0<|.nil
def Cf9 : Sts := zB 30 0<|zA 31 (Zc .eql 30 0)<|zB 29 31<|.nil
def Cg0 : Sts := zG 4 1<|zG 5 0<|.nil
def Cg1 : Sts := zB 33 0<|zA 34 (Zc .eql 33 1)<|zB 32 34<|.nil
def Cg2 : Sts := zG 4 2<|zG 5 0<|.nil
def Ba2 : Sts := zG 4 3<|zG 5 0<|.nil
def Dj5 : RFun := ⟨35, [0, 1, 4, 5, 6, 7], (Zr Cf3 (Zr Cf4 (.seq (.block 0 (Zr Cf5 (.cond (.t 14) (Zr Cf6 .ret) (Zr Cf7 (.cond (.t 25) (Zr Cf8 .ret) (Zr Cf9 (.cond (.t 29) (Zr Cg0 .ret) (Zr Cg1 (.cond (.t 32) (Zr Cg2 .ret) .skip))))))))) (Zr Ba2 .ret)))), [.tmp 4, .tmp 5]⟩
theorem Q104_ok : Al Tryz.prog Dj5.V ZQ 72 = some Dj5 := by kernel_rfl

def Ep3 : Sts := zA 0 (.alloc 83 [Zi, Zi, Zi, Zi, Zi])<|.nil
def Ep4 : Sts := zA 1 (.build [Zi, Zi, Zi, Zi, Zi] [(0, 1, (zN 5)), (4, 1, (zN 4))])<|Zw 5 0 1<|.nil
def Q53 : RFun := ⟨2, [0], (Zr Ep3 (Zr Ep4 .ret)), [.cellA 0 5]⟩
theorem Q53_ok : Al Tryz.prog Q53.V ZQ 73 = some Q53 := by kernel_rfl

def Ep5 : Sts := Zm 4 Zn<|.nil
def Ep6 : Sts := Zm 5 Zn<|.nil
def Ep7 : Sts := zB 7 0<|zA 8 (zM 7)<|zG 9 0<|.nil
def Ep8 : Sts := zA 10 (Zb .lss 9 8)<|.nil
def Ep9 : Sts := zB 11 9<|zB 6 11<|.nil
def Eq0 : Sts := zB 12 1<|zB 13 6<|zA 14 (.callv (.t 12) [(.t 13)])<|.nil
def Eq1 : Sts := zB 15 5<|zB 16 6<|zA 17 (.buildSl 3 1 [Zi] [(0, 1, (.t 16))])<|zA 18 (.append 3 1 8 [Zi] (.t 15) (.t 17))<|zB 5 18<|.nil
def Eq2 : Sts := zA 19 (Zc .add 9 1)<|zB 9 19<|.nil
def Cg3 : RCode := (Zr Ep8 (.seq (ZX 10 0) (.seq (.block 1 (Zr Ep9 (Zr Eq0 (.cond (.t 14) (.reg Eq1) .skip)))) (.reg Eq2))))
def Eq3 : Sts := zB 20 5<|zB 4 20<|.nil
def Q31 : RFun := ⟨21, [0, 1, 4, 5, 6, 8, 9], (Zr Ep5 (Zr Ep6 (.seq (Zr Ep7 (.block 0 (.loop Cg3))) (Zr Eq3 .ret)))), [.tmp 4]⟩
theorem Q31_ok : Al Tryz.prog Q31.V ZQ 74 = some Q31 := by kernel_rfl

def Eq4 : Sts := Zm 3 Zf<|.nil
def Eq5 : Sts := zA 4 (zK 1)<|ZZ 5 6 0 6 4<|zA 7 (Zo 6 6)<|zA 8 (Z1 76 7)<|zB 3 8<|.nil
def Q19 : RFun := ⟨9, [0, 1, 3], (Zr Eq4 (Zr Eq5 .ret)), [.tmp 3]⟩
theorem Q19_ok : Al Tryz.prog Q19.V ZQ 75 = some Q19 := by kernel_rfl

def Fv2 : Sts := Zq 1 121 0<|Zm 2 Zf<|.nil
def Fv3 : Sts := zA 3 (zI 0 1)<|Zy 4 5 0 3<|zA 6 (Zc .eql 5 5)<|zB 7 6<|.cnd 7 true (zA 8 (zI 0 1)<|Zy 9 10 4 8<|zA 11 (Zc .eql 10 4)<|.nil) 12 (.t 11)<|zB 2 12<|.nil
def Q8 : RFun := ⟨13, [0, 1, 2], (Zr Fv2 (Zr Fv3 .ret)), [.tmp 2]⟩
theorem Q8_ok : Al Tryz.prog Q8.V ZQ 76 = some Q8 := by kernel_rfl

def Cg4 : Sts := Zq 3 124 0<|.nil
def Eq6 : Sts := zA 8 (zK 1)<|zA 9 (Z1 78 8)<|.nil
def Ba3 : Sts := zA 4 (.alloc 35 [Zn])<|ZW 4 10<|.nil
def Eq7 : Sts := zA 11 (zK 1)<|zA 12 (zK 4)<|zA 13 (.call 79 [(.t 11), (.t 12), (zN 0)])<|.nil
def Ba4 : Sts := zA 5 (.alloc 26 [Zn])<|ZW 5 14<|.nil
def Eq8 : Sts := zA 15 (zK 1)<|zA 16 (zK 4)<|zA 17 (zK 5)<|zA 18 (.call 80 [(.t 15), (.t 16), (.t 17)])<|.nil
def Ba5 : Sts := zB 6 19<|.nil
def Eq9 : Sts := zB 20 6<|zA 21 (zK 4)<|zA 22 (zK 5)<|zA 23 (.build [Zn, Zn, Zn, Zn] [(0, 1, (.t 20)), (1, 1, (.t 21)), (2, 1, (.t 22))])<|zA 7 (.alloc 45 [Zn, Zn, Zn, Zn])<|Zw 4 7 23<|.nil
def Er0 : Sts := zA 24 (zK 1)<|zA 25 (Zo 4 7)<|zA 26 (Z2 81 24 25)<|zA 27 (Zt 26)<|.nil
def Er1 : Sts := zA 28 (zK 1)<|zA 29 (zK 2)<|zA 30 (Z2 82 28 29)<|.nil
def Cg5 : Sts := zA 32 (zI 3 7)<|ZW 32 31<|.nil
def At2 : AT := .q (zC 0 33 (zK 1)<|zC 1 34 (Zo 4 7)<|zC 2 35 (Z2 83 33 34)<|zC 3 36 (Zc .eql 35 0)<|zD 4 37 36<|.nil)<|.br 37 (zF<|.q (zC 5 38 (.loadX (.t 3))<|.nil)<|zF<|.q (zC 6 39 (Zo 4 7)<|.nil)<|zF<|zE 7 40 (Z1 84 39) false (zF<|zE 8 41 (.callv (.t 38) [(.t 40)]) true (.q (.g 37 true (zC 9 42 (Zt 41)<|.nil) 10 43 (.t 42)<|.nil)<|.fin)<|.no)<|.no)<|zF<|zL 5 38<|zF<|zL 6 39<|zF<|zL 7 40<|zF<|zL 8 41<|.q (.g 37 true (zC 9 42 (Zt 41)<|.nil) 10 43 (.t 42)<|.nil)<|.fin
def D2 : RCode := (.reg Cg5)
def D3 : RCode := (.block 7 (.seq (.any At2) (.cond (.t 43) .ret .skip)))
def D4 : RCode := (.reg Ba5)
def D5 : RCode := (.block 5 (Zr Eq9 (.seq (Zr Er0 (Zs 27 5)) (Zr Er1 (.block 6 (.rangeF (.t 30) [31] D2 D3))))))
def D6 : RCode := (.reg Ba4)
def D7 : RCode := (.block 3 (Zr Eq8 (.block 4 (.rangeF (.t 18) [19] D4 D5))))
def D8 : RCode := (.reg Ba3)
def D9 : RCode := (.block 1 (Zr Eq7 (.block 2 (.rangeF (.t 13) [14] D6 D7))))
def Q20 : RFun := ⟨44, [0, 1, 2, 3, 4, 5, 6, 7, 9, 10, 13, 14, 18, 19, 30, 31], (Zr Cg4 (Zr Eq6 (.block 0 (.rangeF (.t 9) [10] D8 D9)))), []⟩
theorem Q20_ok : Al Tryz.prog Q20.V ZQ 77 = some Q20 := by kernel_rfl

def Er2 : Sts := Zq 1 74 0<|zA 2 (.mv (.c .nilFunc))<|.nil
def Er3 : Sts := zA 3 (.mkfn 107 [] [(.t 1)])<|zB 2 3<|.nil
def Q13 : RFun := ⟨4, [0, 1, 2], (Zr Er2 (Zr Er3 .ret)), [.tmp 2]⟩
theorem Q13_ok : Al Tryz.prog Q13.V ZQ 78 = some Q13 := by kernel_rfl

def Er4 : Sts := Zq 3 74 0<|Zq 4 35 1<|Zq 5 3 2<|zA 6 (.mv (.c .nilFunc))<|.nil
def Er5 : Sts := zA 7 (.mkfn 109 [] [(.t 5), (.t 3), (.t 4)])<|zB 6 7<|.nil
def Q28 : RFun := ⟨8, [0, 1, 2, 3, 4, 5, 6], (Zr Er4 (Zr Er5 .ret)), [.tmp 6]⟩
theorem Q28_ok : Al Tryz.prog Q28.V ZQ 79 = some Q28 := by kernel_rfl

def Er6 : Sts := Zq 3 74 0<|Zq 4 35 1<|Zq 5 26 2<|zA 6 (.mv (.c .nilFunc))<|.nil
def Er7 : Sts := zA 7 (.mkfn 111 [] [(.t 3), (.t 5), (.t 4)])<|zB 6 7<|.nil
def Q21 : RFun := ⟨8, [0, 1, 2, 3, 4, 5, 6], (Zr Er6 (Zr Er7 .ret)), [.tmp 6]⟩
theorem Q21_ok : Al Tryz.prog Q21.V ZQ 80 = some Q21 := by kernel_rfl

def Er8 : Sts := Zq 3 45 1<|Zm 4 Zf<|.nil
def Er9 : Sts := zB 11 0<|zA 12 (Zo 4 3)<|zA 13 (Z2 85 11 12)<|zB 10 13<|zA 14 (Zx 0 10)<|zA 15 (Zx 1 10)<|zA 16 (Zx 2 10)<|zB 5 14<|zB 6 15<|zB 7 16<|.nil
def Es0 : Sts := zB 17 0<|zA 18 (zM 17)<|zG 19 0<|.nil
def Es1 : Sts := zA 20 (Zb .lss 19 18)<|.nil
def Es2 : Sts := zB 21 19<|zA 22 (zH 6 17 19)<|zA 23 (Zo 6 22)<|zA 9 (.alloc 121 [Zi, Zi, Zi, Zi, Zi, Zi])<|zB 8 21<|Zw 6 9 23<|.nil
def Es3 : AT := .q (zC 0 24 (zI 0 9)<|zC 1 25 (zI 0 24)<|zC 2 26 (zJ 25)<|zC 3 27 (Zc .eql 26 3)<|zD 4 28 27<|.g 28 true (zC 5 29 (zI 1 3)<|zC 6 30 (zK 29)<|zD 7 31 8<|zC 8 32 (zH 1 30 31)<|zC 9 33 (Zg 32)<|zD 10 34 5<|zD 11 35 8<|zC 12 36 (zH 1 34 35)<|zC 13 37 (zJ 36)<|zC 14 38 (zI 0 9)<|zC 15 39 (zI 2 38)<|zC 16 40 (zJ 39)<|zC 17 41 (Zb .eql 37 40)<|zC 18 42 (.eqb true (.t 33) (.t 41))<|.nil) 19 43 (.t 42)<|zD 20 44 43<|.g 44 false (zC 21 45 (zI 0 9)<|zC 22 46 (zI 0 45)<|zC 23 47 (zJ 46)<|zC 24 48 (Zc .eql 47 4)<|zD 25 49 48<|.g 49 true (zC 26 50 (zI 1 3)<|zC 27 51 (zK 50)<|zD 28 52 8<|zC 29 53 (zH 1 51 52)<|zC 30 54 (Zg 53)<|.nil) 31 55 (.t 54)<|zD 32 56 55<|.g 56 true (zD 33 57 5<|zD 34 58 8<|zC 35 59 (zH 1 57 58)<|zC 36 60 (zJ 59)<|zC 37 61 (zI 0 9)<|zC 38 62 (zI 2 61)<|zC 39 63 (zJ 62)<|zC 40 64 (Zb .neq 60 63)<|.nil) 41 65 (.t 64)<|.nil) 42 66 (.t 65)<|.nil)<|.fin
def Es4 : Sts := Zm 4 Zf<|.nil
def Es5 : Sts := zA 67 (Zc .add 19 1)<|zB 19 67<|.nil
def Cg6 : RCode := (Zr Es1 (.seq (ZX 20 0) (.seq (.block 1 (Zr Es2 (.seq (.any Es3) (.cond (.t 66) (Zr Es4 .ret) .skip)))) (.reg Es5))))
def Es6 : Sts := zB 68 0<|zA 69 (Zo 4 3)<|zA 70 (Z2 83 68 69)<|zA 71 (Zc .eql 70 0)<|zB 4 71<|.nil
def Q32 : RFun := ⟨72, [0, 1, 3, 4, 5, 8, 9, 17, 18, 19], (Zr Er8 (Zr Er9 (.seq (Zr Es0 (.block 0 (.loop Cg6))) (Zr Es6 .ret)))), [.tmp 4]⟩
theorem Q32_ok : Al Tryz.prog Q32.V ZQ 81 = some Q32 := by kernel_rfl

def Es7 : Sts := Zq 2 74 0<|Zq 3 34 1<|zA 4 (.mv (.c .nilFunc))<|.nil
def Es8 : Sts := zA 5 (.mkfn 115 [] [(.t 2), (.t 3)])<|zB 4 5<|.nil
def Q24 : RFun := ⟨6, [0, 1, 2, 3, 4], (Zr Es7 (Zr Es8 .ret)), [.tmp 4]⟩
theorem Q24_ok : Al Tryz.prog Q24.V ZQ 82 = some Q24 := by kernel_rfl

def Es9 : Sts := Zq 3 45 1<|zG 4 0<|.nil
def Et0 : Sts := zB 17 0<|zA 18 (Zo 4 3)<|zA 19 (Z2 102 17 18)<|zB 5 19<|.nil
def Et1 : Sts := ZY 20 21 0 3<|zA 22 (zM 21)<|zG 23 0<|.nil
def Et2 : Sts := zA 24 (Zb .lss 23 22)<|.nil
def Et3 : Sts := zB 25 23<|Zj 26 27 1 21 23<|zB 6 25<|zB 7 27<|.nil
def Et4 : Sts := zB 28 7<|zA 29 (Zc .geq 28 0)<|.nil
def Et5 : Sts := zB 30 5<|zB 31 7<|zB 32 6<|zA 33 (.call 121 [(.t 30), (.t 31), (.t 32)])<|.nil
def Et6 : Sts := zA 34 (Zc .add 23 1)<|zB 23 34<|.nil
def Cg7 : RCode := (Zr Et2 (.seq (ZX 24 0) (.seq (.block 1 (Zr Et3 (Zr Et4 (.cond (.t 29) (.reg Et5) .skip)))) (.reg Et6))))
def Et7 : Sts := zB 35 5<|zA 36 (Z1 106 35)<|zA 37 (Z1 122 36)<|.nil
def Et8 : Sts := zG 4 2<|.nil
def Ag0 : AT := .q (zD 0 38 0<|zC 1 39 (Zo 4 3)<|zD 3 41 0<|zC 4 42 (Zo 4 3)<|.nil)<|zE 2 40 (Z2 67 38 39) false (zF<|zE 5 43 (Z2 123 41 42) true (.q (zD 6 8 40<|zD 7 9 43<|.nil)<|.fin)<|.no)<|.no
def Cg8 : Sts := zB 44 8<|zA 45 (Z1 122 44)<|.nil
def Cg9 : Sts := zG 4 3<|.nil
def Ch0 : Sts := zB 46 0<|zA 47 (zM 46)<|zG 48 0<|.nil
def Ch1 : Sts := zA 49 (Zb .lss 48 47)<|.nil
def Ch2 : Sts := zB 50 48<|zB 10 50<|.nil
def Ch3 : Sts := zB 51 0<|zA 52 (zM 51)<|zG 53 0<|.nil
def Ch4 : Sts := zA 54 (Zb .lss 53 52)<|.nil
def Ch5 : Sts := zB 55 53<|zB 11 55<|.nil
def Ch6 : Sts := zB 56 8<|zB 57 10<|zB 58 11<|zA 59 (.call 68 [(.t 56), (.t 57), (.t 58)])<|zB 60 59<|.cnd 60 true (zB 61 9<|zB 62 11<|zB 63 10<|zA 64 (.call 68 [(.t 61), (.t 62), (.t 63)])<|.nil) 65 (.t 64)<|.nil
def Ch7 : Sts := zG 4 3<|.nil
def Ch8 : Sts := zA 66 (Zc .add 53 1)<|zB 53 66<|.nil
def Ba6 : RCode := (Zr Ch4 (.seq (ZX 54 4) (.seq (.block 5 (Zr Ch5 (Zr Ch6 (.cond (.t 65) (Zr Ch7 .ret) .skip)))) (.reg Ch8))))
def Ch9 : Sts := zA 67 (Zc .add 48 1)<|zB 48 67<|.nil
def Ba7 : RCode := (Zr Ch1 (.seq (ZX 49 2) (.seq (.block 3 (Zr Ch2 (Zr Ch3 (.block 4 (.loop Ba6))))) (.reg Ch9))))
def Ci0 : Sts := ZY 68 69 2 3<|zA 70 (zM 69)<|zG 71 0<|.nil
def Ci1 : Sts := zA 72 (Zb .lss 71 70)<|.nil
def Ci2 : Sts := zA 73 (zH 1 69 71)<|zA 74 (zK 73)<|zB 13 74<|.nil
def Ci3 : Sts := zA 14 (.mv (.c (.int .i64 (-1))))<|.nil
def Ci4 : Sts := zB 75 13<|zA 76 (zM 75)<|zG 77 0<|.nil
def Ci5 : Sts := zA 78 (Zb .lss 77 76)<|.nil
def Ci6 : Sts := Zj 79 80 1 75 77<|zB 16 80<|.nil
def Ci7 : Sts := zB 81 0<|ZZ 82 83 16 6 81<|zA 84 (Zo 6 83)<|zA 85 (Z1 86 84)<|zB 86 85<|.cnd 86 true (ZY 87 88 0 3<|ZZ 89 90 16 1 88<|zA 91 (zJ 90)<|zB 92 14<|zA 93 (Zb .neq 91 92)<|.nil) 94 (.t 93)<|.nil
def Ci8 : Sts := zG 4 4<|.nil
def Ci9 : Sts := zB 95 16<|zB 14 95<|.nil
def Cj0 : Sts := zA 96 (Zc .add 77 1)<|zB 77 96<|.nil
def Ba8 : RCode := (Zr Ci5 (.seq (ZX 78 8) (.seq (.block 9 (Zr Ci6 (.seq (Zr Ci7 (.cond (.t 94) (Zr Ci8 .ret) .skip)) (.reg Ci9)))) (.reg Cj0))))
def Cj1 : Sts := zA 97 (Zc .add 71 1)<|zB 71 97<|.nil
def Ba9 : RCode := (Zr Ci1 (.seq (ZX 72 6) (.seq (.block 7 (Zr Ci2 (Zr Ci3 (Zr Ci4 (.block 8 (.loop Ba8)))))) (.reg Cj1))))
def Cj2 : Sts := zG 4 0<|.nil
def Q11 : RFun := ⟨98, [0, 1, 3, 4, 5, 6, 7, 8, 9, 10, 11, 13, 14, 16, 21, 22, 23, 47, 48, 52, 53, 69, 70, 71, 75, 76, 77], (Zr Es9 (Zr Et0 (.seq (Zr Et1 (.block 0 (.loop Cg7))) (.seq (Zr Et7 (.cond (.t 37) (Zr Et8 .ret) .skip)) (.seq (.any Ag0) (.seq (Zr Cg8 (.cond (.t 45) (Zr Cg9 .ret) .skip)) (.seq (Zr Ch0 (.block 2 (.loop Ba7))) (.seq (Zr Ci0 (.block 6 (.loop Ba9))) (Zr Cj2 .ret))))))))), [.tmp 4]⟩
theorem Q11_ok : Al Tryz.prog Q11.V ZQ 83 = some Q11 := by kernel_rfl

def Fr8 : Sts := Zq 1 45 0<|zA 2 (.alloc 45 [Zn, Zn, Zn, Zn])<|.nil
def Fr9 : AT := .q (zC 0 6 (zI 0 1)<|zC 1 7 (zK 6)<|zC 3 9 (zI 1 1)<|zC 4 10 (zK 9)<|zC 6 12 (zI 3 1)<|zC 7 13 (zK 12)<|.nil)<|zE 2 8 (Z1 113 7) false (zF<|zE 5 11 (Z1 124 10) false (zF<|zE 8 14 (Z1 113 13) true (.q (zC 9 15 (.build [Zn, Zn, Zn, Zn] [(0, 1, (.t 8)), (1, 1, (.t 11)), (3, 1, (.t 14))])<|.nil)<|zE 10 3 (.alloc 45 [Zn, Zn, Zn, Zn]) false (zF<|.s 11 none (.store 4 (.t 3) (.t 15)) true (zF<|.fin)<|.no)<|.no)<|zE 10 3 (.alloc 45 [Zn, Zn, Zn, Zn]) false (zF<|zE 8 14 (Z1 113 13) false (.q (zC 9 15 (.build [Zn, Zn, Zn, Zn] [(0, 1, (.t 8)), (1, 1, (.t 11)), (3, 1, (.t 14))])<|.nil)<|.s 11 none (.store 4 (.t 3) (.t 15)) true (zF<|.fin)<|.no)<|.no)<|.no)<|zE 10 3 (.alloc 45 [Zn, Zn, Zn, Zn]) false (zF<|zE 5 11 (Z1 124 10) false (zF<|zE 8 14 (Z1 113 13) false (.q (zC 9 15 (.build [Zn, Zn, Zn, Zn] [(0, 1, (.t 8)), (1, 1, (.t 11)), (3, 1, (.t 14))])<|.nil)<|.s 11 none (.store 4 (.t 3) (.t 15)) true (zF<|.fin)<|.no)<|.no)<|.no)<|.no)<|zE 10 3 (.alloc 45 [Zn, Zn, Zn, Zn]) false (zF<|zE 2 8 (Z1 113 7) false (zF<|zE 5 11 (Z1 124 10) false (zF<|zE 8 14 (Z1 113 13) false (.q (zC 9 15 (.build [Zn, Zn, Zn, Zn] [(0, 1, (.t 8)), (1, 1, (.t 11)), (3, 1, (.t 14))])<|.nil)<|.s 11 none (.store 4 (.t 3) (.t 15)) true (zF<|.fin)<|.no)<|.no)<|.no)<|.no)<|.no
def Fv4 : Sts := ZY 16 17 2 1<|zA 18 (zM 17)<|zG 19 0<|.nil
def Fv5 : Sts := zA 20 (Zb .lss 19 18)<|.nil
def Fv6 : Sts := zA 21 (zH 1 17 19)<|zA 22 (zK 21)<|zB 5 22<|.nil
def Fs0 : AT := .q (zC 0 23 (zI 2 3)<|zC 1 24 (zK 23)<|zD 2 25 5<|.nil)<|zE 3 26 (Z1 113 25) false (zF<|zE 4 27 (.buildSl 34 1 [Zn] [(0, 1, (.t 26))]) false (zF<|zE 5 28 (.append 34 1 24 [Zn] (.t 24) (.t 27)) true (.q (zC 6 29 (zI 2 3)<|.nil)<|.s 7 none (.store 1 (.t 29) (.t 28)) true (zF<|.fin)<|.no)<|.no)<|.no)<|.no
def Fv7 : Sts := zA 30 (Zc .add 19 1)<|zB 19 30<|.nil
def Et9 : RCode := (Zr Fv5 (.seq (ZX 20 0) (.seq (.block 1 (Zr Fv6 (.any Fs0))) (.reg Fv7))))
def Fv8 : Sts := zA 31 (Zo 4 3)<|Zw 4 2 31<|.nil
def Q2 : RFun := ⟨32, [0, 1, 2, 3, 5, 17, 18, 19], (Zr Fr8 (.seq (.any Fr9) (.seq (Zr Fv4 (.block 0 (.loop Et9))) (Zr Fv8 .ret)))), [.cellA 2 4]⟩
theorem Q2_ok : Al Tryz.prog Q2.V ZQ 84 = some Q2 := by kernel_rfl

def Cj3 : Sts := Zq 3 45 1<|Zm 4 Zn<|Zm 5 Zn<|Zm 6 Zn<|.nil
def Eu0 : AT := .q (zD 0 11 0<|zC 1 12 (zM 11)<|zD 3 14 0<|zC 4 15 (zM 14)<|zD 6 17 0<|zC 7 18 (zM 17)<|.nil)<|zE 2 13 (.makeSl 3 1 8 [Zi] (.t 12) (.t 12)) false (.q (zD 9 4 13<|.nil)<|zE 5 16 (.makeSl 3 1 8 [Zi] (.t 15) (.t 15)) false (.q (zD 10 5 16<|.nil)<|zE 8 19 (.makeSl 4 1 1 [Zf] (.t 18) (.t 18)) false (.q (zD 11 6 19<|.nil)<|.fin)<|.no)<|zE 8 19 (.makeSl 4 1 1 [Zf] (.t 18) (.t 18)) false (zF<|zE 5 16 (.makeSl 3 1 8 [Zi] (.t 15) (.t 15)) false (.q (zD 10 5 16<|zD 11 6 19<|.nil)<|.fin)<|.no)<|.no)<|zE 5 16 (.makeSl 3 1 8 [Zi] (.t 15) (.t 15)) false (zF<|zE 2 13 (.makeSl 3 1 8 [Zi] (.t 12) (.t 12)) false (.q (zD 9 4 13<|zD 10 5 16<|.nil)<|zE 8 19 (.makeSl 4 1 1 [Zf] (.t 18) (.t 18)) false (.q (zD 11 6 19<|.nil)<|.fin)<|.no)<|zE 8 19 (.makeSl 4 1 1 [Zf] (.t 18) (.t 18)) false (zF<|zE 2 13 (.makeSl 3 1 8 [Zi] (.t 12) (.t 12)) false (.q (zD 9 4 13<|zD 10 5 16<|zD 11 6 19<|.nil)<|.fin)<|.no)<|.no)<|zE 8 19 (.makeSl 4 1 1 [Zf] (.t 18) (.t 18)) false (zF<|zE 2 13 (.makeSl 3 1 8 [Zi] (.t 12) (.t 12)) false (.q (zD 9 4 13<|.nil)<|zE 5 16 (.makeSl 3 1 8 [Zi] (.t 15) (.t 15)) false (.q (zD 10 5 16<|zD 11 6 19<|.nil)<|.fin)<|.no)<|zE 5 16 (.makeSl 3 1 8 [Zi] (.t 15) (.t 15)) false (zF<|zE 2 13 (.makeSl 3 1 8 [Zi] (.t 12) (.t 12)) false (.q (zD 9 4 13<|zD 10 5 16<|zD 11 6 19<|.nil)<|.fin)<|.no)<|.no)<|.no
def Eu1 : Sts := zB 20 0<|zA 21 (zM 20)<|zA 22 (.makeSl 4 1 1 [Zf] (.t 21) (.t 21))<|zB 7 22<|.nil
def Eu2 : Sts := zB 23 0<|zA 24 (zM 23)<|zA 25 (Zc .add 24 1)<|zG 26 0<|.nil
def Eu3 : Sts := zA 27 (Zb .lss 26 25)<|.nil
def Eu4 : Sts := zB 28 0<|zA 29 (zM 28)<|zG 30 0<|.nil
def Eu5 : Sts := zA 31 (Zb .lss 30 29)<|.nil
def Eu6 : Sts := zB 32 30<|zA 33 (zH 6 28 30)<|zA 34 (Zo 6 33)<|zA 9 (.alloc 121 [Zi, Zi, Zi, Zi, Zi, Zi])<|zB 8 32<|Zw 6 9 34<|.nil
def Eu7 : Sts := ZY 35 36 0 3<|ZZ 37 38 8 1 36<|zA 39 (zJ 38)<|zB 10 39<|.nil
def Eu8 : Sts := zA 41 (Zo 6 9)<|zA 42 (Z1 86 41)<|zB 43 42<|.cnd 43 true (zB 44 10<|zA 45 (.bin .eql (.t 44) (.c (.int .i64 (-1))))<|.nil) 46 (.t 45)<|zB 40 46<|.nil
def Cj4 : Sts := zB 47 6<|ZZ 48 49 8 1 47<|.op none (.store 1 (.t 49) (.c (.bool true)))<|.nil
def Cj5 : Sts := zA 51 (Zo 6 9)<|zA 52 (Z1 86 51)<|zB 53 52<|.cnd 53 true (zB 54 7<|ZZ 55 56 10 1 54<|zA 57 (Zg 56)<|.nil) 58 (.t 57)<|zB 50 58<|.nil
def Cj6 : Sts := zB 59 4<|zB 60 8<|zB 61 6<|zB 62 8<|zB 63 5<|ZZ 64 65 10 1 63<|zA 66 (zJ 65)<|zA 67 (zH 1 59 60)<|ZW 67 66<|zA 68 (zH 1 61 62)<|.op none (.store 1 (.t 68) (.c (.bool true)))<|.nil
def Cj7 : Sts := zA 69 (zI 0 9)<|Zy 70 71 0 69<|.nil
def Cj8 : Sts := zA 73 (Zc .eql 71 1)<|zB 72 73<|.nil
def Cj9 : Sts := zB 74 5<|zB 75 8<|zB 76 7<|zB 77 8<|zA 78 (zI 0 9)<|Zy 79 80 2 78<|zA 81 (zH 1 74 75)<|ZW 81 80<|zA 82 (zH 1 76 77)<|.op none (.store 1 (.t 82) (.c (.bool true)))<|.nil
def Ck0 : Sts := zA 84 (Zc .eql 71 2)<|zB 83 84<|.nil
def Ag1 : AT := .q (zD 0 85 5<|zD 1 86 8<|zD 2 87 7<|zD 3 88 8<|zD 4 89 4<|zD 5 90 8<|zC 6 91 (zH 1 89 90)<|zC 7 92 (zJ 91)<|zC 8 93 (zI 0 9)<|zC 9 94 (zI 2 93)<|zC 10 95 (zJ 94)<|zC 11 96 (Zb .add 92 95)<|zD 12 97 6<|zD 13 98 8<|zC 14 99 (zH 1 97 98)<|zC 15 100 (Zg 99)<|zC 16 101 (zH 1 85 86)<|.nil)<|.s 17 none (.store 1 (.t 101) (.t 96)) false (.q (zC 18 102 (zH 1 87 88)<|.nil)<|.s 19 none (.store 1 (.t 102) (.t 100)) true (zF<|.fin)<|.no)<|.no
def Ck1 : Sts := zA 104 (Zc .eql 71 3)<|zB 103 104<|.nil
def Ck2 : Sts := zA 105 (Zc .eql 71 4)<|zB 103 105<|.nil
def Ck3 : Sts := zB 106 5<|zB 107 8<|zB 108 7<|zB 109 8<|zA 110 (zI 0 9)<|Zy 111 112 3 110<|zA 113 (zH 1 106 107)<|ZW 113 112<|zA 114 (zH 1 108 109)<|.op none (.store 1 (.t 114) (.c (.bool true)))<|.nil
def Ck4 : Sts := zA 115 (Zc .add 30 1)<|zB 30 115<|.nil
def Bb0 : RCode := (Zr Eu5 (.seq (ZX 31 2) (.seq (.block 3 (Zr Eu6 (.seq (Zr Eu7 (.block 4 (Zr Eu8 (.cond (.t 40) (.reg Cj4) (Zr Cj5 (.cond (.t 50) (.reg Cj6) .skip)))))) (Zr Cj7 (.block 5 (Zr Cj8 (.cond (.t 72) (.reg Cj9) (Zr Ck0 (.cond (.t 83) (.any Ag1) (.seq (Zr Ck1 (.cond (.t 103) .skip (.reg Ck2))) (.cond (.t 103) (.reg Ck3) .skip))))))))))) (.reg Ck4))))
def Ck5 : Sts := zA 116 (Zc .add 26 1)<|zB 26 116<|.nil
def Bb1 : RCode := (Zr Eu3 (.seq (ZX 27 0) (.seq (.block 1 (Zr Eu4 (.block 2 (.loop Bb0)))) (.reg Ck5))))
def Ck6 : Sts := zB 117 4<|zB 118 5<|zB 119 6<|zB 4 117<|zB 5 118<|zB 6 119<|.nil
def Q36 : RFun := ⟨120, [0, 1, 3, 4, 5, 6, 7, 8, 9, 10, 25, 26, 28, 29, 30, 71], (Zr Cj3 (.seq (.any Eu0) (Zr Eu1 (.seq (Zr Eu2 (.block 0 (.loop Bb1))) (Zr Ck6 .ret))))), [.tmp 4, .tmp 5, .tmp 6]⟩
theorem Q36_ok : Al Tryz.prog Q36.V ZQ 85 = some Q36 := by kernel_rfl

def Fv9 : Sts := Zq 1 121 0<|Zm 2 Zf<|.nil
def Fw0 : Sts := zA 3 (zI 0 1)<|Zy 4 5 0 3<|zA 6 (Zc .neq 5 1)<|zB 7 6<|.cnd 7 true (zA 8 (zI 0 1)<|Zy 9 10 0 8<|zA 11 (Zc .neq 10 5)<|.nil) 12 (.t 11)<|zB 2 12<|.nil
def Q6 : RFun := ⟨13, [0, 1, 2], (Zr Fv9 (Zr Fw0 .ret)), [.tmp 2]⟩
theorem Q6_ok : Al Tryz.prog Q6.V ZQ 86 = some Q6 := by kernel_rfl

def Ck7 : Sts := zG 4 0<|.nil
def Ck8 : Sts := zB 9 0<|zA 10 (zM 9)<|zG 11 0<|.nil
def Ck9 : Sts := zA 12 (Zb .lss 11 10)<|.nil
def Cl0 : Sts := zB 13 11<|Zj 14 15 1 9 11<|zB 5 13<|zB 6 15<|.nil
def Cl1 : Sts := zB 16 5<|zB 17 1<|zA 18 (zM 17)<|zA 19 (Zb .geq 16 18)<|.nil
def Cl2 : Sts := zG 4 1<|.nil
def Cl3 : Sts := zB 20 1<|ZZ 21 22 5 1 20<|zA 23 (zJ 22)<|zB 7 23<|.nil
def Cl4 : Sts := zB 24 6<|zB 25 7<|zA 26 (Z2 127 24 25)<|zB 8 26<|.nil
def Cl5 : Sts := zB 27 8<|zA 28 (Zc .neq 27 0)<|.nil
def Cl6 : Sts := zB 29 8<|zB 4 29<|.nil
def Bb2 : Sts := zA 30 (Zc .add 11 1)<|zB 11 30<|.nil
def Ao4 : RCode := (Zr Ck9 (.seq (ZX 12 0) (.seq (.block 1 (Zr Cl0 (.seq (Zr Cl1 (.cond (.t 19) (Zr Cl2 .ret) .skip)) (Zr Cl3 (Zr Cl4 (Zr Cl5 (.cond (.t 28) (Zr Cl6 .ret) .skip))))))) (.reg Bb2))))
def Bb3 : Sts := zB 31 0<|zA 32 (zM 31)<|zB 33 1<|zA 34 (zM 33)<|zA 35 (Zb .lss 32 34)<|.nil
def Bb4 : Sts := zA 4 (.mv (.c (.int .i64 (-1))))<|.nil
def Bb5 : Sts := zG 4 0<|.nil
def Dj6 : RFun := ⟨36, [0, 1, 4, 5, 6, 7, 8, 9, 10, 11], (Zr Ck7 (.seq (Zr Ck8 (.block 0 (.loop Ao4))) (.seq (Zr Bb3 (.cond (.t 35) (Zr Bb4 .ret) .skip)) (Zr Bb5 .ret)))), [.tmp 4]⟩
theorem Q113_ok : Al Tryz.prog Dj6.V ZQ 88 = some Dj6 := by kernel_rfl

def Cl7 : Sts := Zm 4 Zn<|.nil
def Cl8 : Sts := zB 8 0<|zA 9 (zM 8)<|zA 10 (Zc .lss 9 2)<|.nil
def Cl9 : Sts := zB 11 0<|zB 4 11<|.nil
def Cm0 : Sts := zG 5 1<|.nil
def Cm1 : Sts := Zl 12 5 13 0 14 15
def Yd : AT := .q (zD 0 18 1<|zD 1 19 0<|zD 2 20 5<|zC 3 21 (zH 1 19 20)<|zC 4 22 (zK 21)<|zD 5 23 0<|zD 6 24 5<|zC 7 25 (Zc .sub 24 1)<|zC 8 26 (zH 1 23 25)<|zC 9 27 (zK 26)<|.nil)<|zE 10 28 (.callv (.t 18) [(.t 22), (.t 27)]) true (zF<|.fin)<|.no
def Cm2 : Sts := zB 29 0<|zB 30 5<|zA 31 (.slS 1 (.t 29) (some (.t 30)) none none)<|zB 6 31<|.nil
def Cm3 : Sts := zG 7 1<|.nil
def Cm4 : Sts := Zl 32 7 33 6 34 35
def Ye : AT := .q (zD 0 38 1<|zD 1 39 6<|zD 2 40 7<|zC 3 41 (zH 1 39 40)<|zC 4 42 (zK 41)<|zD 5 43 6<|zD 6 44 7<|zC 7 45 (Zc .sub 44 1)<|zC 8 46 (zH 1 43 45)<|zC 9 47 (zK 46)<|.nil)<|zE 10 48 (.callv (.t 38) [(.t 42), (.t 47)]) true (.q (zC 11 49 (Zt 48)<|.nil)<|.fin)<|.no
def Bb6 : Sts := zB 50 0<|zB 51 5<|zB 52 6<|ZZ 53 54 7 1 52<|zA 55 (zK 54)<|zA 56 (zH 1 50 51)<|ZW 56 55<|.nil
def Bb7 : Sts := Zu 57 5 58
def Bb8 : Sts := Zu 36 7 37
def Ao5 : RCode := (.seq (Zr Cm4 (ZX 35 2)) (.seq (.block 3 (.seq (.any Ye) (.cond (.t 49) (Zr Bb6 (.reg Bb7)) .skip))) (.reg Bb8)))
def Bb9 : Sts := zB 59 0<|zB 60 5<|zA 61 (.slS 1 (.t 59) (some (.t 60)) none none)<|.op none (.clearS Zn (.t 61))<|.nil
def Bc0 : Sts := zB 62 0<|zB 63 5<|zA 64 (.slS 1 (.t 62) none (some (.t 63)) none)<|zB 4 64<|.nil
def Bc1 : Sts := Zu 16 5 17
def Ao6 : RCode := (.seq (Zr Cm1 (ZX 15 0)) (.seq (.block 1 (.seq (.any Yd) (.cond (.t 28) (Zr Cm2 (.seq (Zr Cm3 (.block 2 (.loop Ao5))) (Zr Bb9 (Zr Bc0 .ret)))) .skip))) (.reg Bc1)))
def Bc2 : Sts := zB 65 0<|zB 4 65<|.nil
def Bj0 : RFun := ⟨66, [0, 1, 4, 5, 6, 7], (Zr Cl7 (.seq (Zr Cl8 (.cond (.t 10) (Zr Cl9 .ret) .skip)) (.seq (Zr Cm0 (.block 0 (.loop Ao6))) (Zr Bc2 .ret)))), [.tmp 4]⟩
theorem Q112_ok : Al Tryz.prog Bj0.V ZQ 89 = some Bj0 := by kernel_rfl

def Eu9 : Sts := Zm 4 Zf<|.nil
def Ev0 : Sts := zB 5 1<|zA 6 (Zc .lss 5 0)<|zB 7 6<|.cnd 7 false (zB 8 1<|zA 9 (Zc .gtr 8 4)<|.nil) 10 (.t 9)<|.nil
def Ev1 : Sts := Zm 4 Zf<|.nil
def Ev2 : Sts := zB 11 0<|zA 12 (Zc .eql 11 0)<|.nil
def Ev3 : Sts := zB 13 1<|zA 14 (Zc .eql 13 0)<|zB 15 14<|.cnd 15 false (zB 16 1<|zA 17 (Zc .eql 16 1)<|.nil) 18 (.t 17)<|zB 19 18<|.cnd 19 false (zB 20 1<|zA 21 (Zc .eql 20 4)<|.nil) 22 (.t 21)<|zB 4 22<|.nil
def Ev4 : Sts := zB 23 0<|zA 24 (Zc .eql 23 1)<|.nil
def Ev5 : Sts := zB 25 1<|zA 26 (Zc .eql 25 0)<|zB 27 26<|.cnd 27 false (zB 28 1<|zA 29 (Zc .eql 28 2)<|.nil) 30 (.t 29)<|zB 31 30<|.cnd 31 false (zB 32 1<|zA 33 (Zc .eql 32 4)<|.nil) 34 (.t 33)<|zB 4 34<|.nil
def Ev6 : Sts := zB 35 0<|zA 36 (Zc .eql 35 5)<|.nil
def Ev7 : Sts := zB 37 1<|zA 38 (Zc .neq 37 0)<|zB 4 38<|.nil
def Ev8 : Sts := zB 39 0<|zA 40 (Zc .geq 39 2)<|zB 41 40<|.cnd 41 true (zB 42 0<|zA 43 (Zc .leq 42 4)<|.nil) 44 (.t 43)<|zB 4 44<|.nil
def Q71 : RFun := ⟨45, [0, 1, 4], (Zr Eu9 (.seq (Zr Ev0 (.cond (.t 10) (Zr Ev1 .ret) .skip)) (.seq (Zr Ev2 (.cond (.t 12) (Zr Ev3 .ret) .skip)) (.seq (Zr Ev4 (.cond (.t 24) (Zr Ev5 .ret) .skip)) (.seq (Zr Ev6 (.cond (.t 36) (Zr Ev7 .ret) .skip)) (Zr Ev8 .ret)))))), [.tmp 4]⟩
theorem Q71_ok : Al Tryz.prog Q71.V ZQ 90 = some Q71 := by kernel_rfl

def Ev9 : Sts := Zq 1 24 0<|zA 2 (.alloc 24 [Zn])<|zG 3 0<|.nil
def Ew0 : Sts := zA 11 (Zo 1 1)<|zA 12 (Z1 13 11)<|zB 4 12<|.nil
def Ew1 : Sts := zB 13 4<|zA 14 (Zc .neq 13 0)<|.nil
def Ew2 : Sts := zA 15 (.build [Zn] [])<|zB 16 4<|ZW 2 15<|zB 3 16<|.nil
def Ew3 : Sts := zA 5 (.alloc 24 [Zn])<|.nil
def Ew4 : Sts := zA 17 (.build [Zi, Zi, Zi, Zi, Zi] [(0, 1, (zN 5)), (4, 1, (zN 4))])<|zA 6 (.alloc 83 [Zi, Zi, Zi, Zi, Zi])<|Zw 5 6 17<|.nil
def Ew5 : Sts := zG 7 0<|.nil
def Ew6 : Sts := zB 18 7<|ZY 19 20 0 1<|zA 21 (zM 20)<|zA 22 (Zb .lss 18 21)<|.nil
def Ew7 : Sts := Zm 8 Zn<|.nil
def Ew8 : Sts := zG 9 0<|.nil
def Cm5 : Sts := zB 25 9<|ZY 26 27 0 1<|ZZ 28 29 7 1 27<|zA 30 (zK 29)<|zA 31 (zM 30)<|zA 32 (Zb .lss 25 31)<|.nil
def Cm6 : Sts := ZY 35 36 0 1<|ZZ 37 38 7 1 36<|zA 39 (zK 38)<|ZZ 40 41 9 5 39<|zA 42 (Zo 5 41)<|zA 10 (.alloc 83 [Zi, Zi, Zi, Zi, Zi])<|Zw 5 10 42<|.nil
def Cm7 : Sts := Zy 43 44 0 10<|zA 45 (Zc .eql 44 5)<|zB 46 45<|.cnd 46 false (Zy 47 48 4 10<|zA 49 (Zc .neq 48 4)<|.nil) 50 (.t 49)<|.nil
def Cm8 : Sts := zB 51 8<|zA 52 (Zo 5 10)<|zA 53 (.buildSl 83 1 [Zi, Zi, Zi, Zi, Zi] [(0, 5, (.t 52))])<|zA 54 (.append 83 5 40 [Zi, Zi, Zi, Zi, Zi] (.t 51) (.t 53))<|zB 8 54<|.nil
def Cm9 : Sts := zA 55 (Zo 5 10)<|zA 56 (Z1 128 55)<|zA 57 (zI 4 10)<|ZW 57 56<|.nil
def Cn0 : Sts := zB 58 8<|zA 59 (Zo 5 6)<|zA 60 (Zo 5 10)<|zA 61 (Zo 5 6)<|zA 62 (.buildSl 83 3 [Zi, Zi, Zi, Zi, Zi, Zi, Zi, Zi, Zi, Zi, Zi, Zi, Zi, Zi, Zi] [(0, 5, (.t 59)), (5, 5, (.t 60)), (10, 5, (.t 61))])<|zA 63 (.append 83 5 40 [Zi, Zi, Zi, Zi, Zi] (.t 58) (.t 62))<|zB 8 63<|.nil
def Cn1 : Sts := Zu 33 9 34
def Bc3 : RCode := (.seq (Zr Cm5 (ZX 32 2)) (.seq (.block 3 (Zr Cm6 (.seq (Zr Cm7 (.cond (.t 50) (Zr Cm8 (.exit 3)) .skip)) (Zr Cm9 (.reg Cn0))))) (.reg Cn1)))
def Cn2 : Sts := ZY 64 65 0 5<|zB 66 8<|zA 67 (.buildSl 70 1 [Zn] [(0, 1, (.t 66))])<|zA 68 (.append 70 1 24 [Zn] (.t 65) (.t 67))<|zA 69 (zI 0 5)<|ZW 69 68<|.nil
def Cn3 : Sts := Zu 23 7 24
def Bc4 : RCode := (.seq (Zr Ew6 (ZX 22 0)) (.seq (.block 1 (Zr Ew7 (.seq (Zr Ew8 (.block 2 (.loop Bc3))) (.reg Cn2)))) (.reg Cn3)))
def Cn4 : Sts := zA 70 (Zo 1 5)<|ZW 2 70<|zG 3 0<|.nil
def Q68 : RFun := ⟨71, [0, 1, 2, 3, 4, 5, 6, 7, 8, 9, 10], (Zr Ev9 (.seq (Zr Ew0 (Zr Ew1 (.cond (.t 14) (Zr Ew2 .ret) .skip))) (Zr Ew3 (Zr Ew4 (.seq (Zr Ew5 (.block 0 (.loop Bc4))) (Zr Cn4 .ret)))))), [.cellA 2 1, .tmp 3]⟩
theorem Q68_ok : Al Tryz.prog Q68.V ZQ 91 = some Q68 := by kernel_rfl

def Ew9 : Sts := zG 2 0<|.nil
def Ex0 : Sts := zB 10 2<|ZP 11 12 13 14 0 1<|zA 15 (zM 14)<|zA 16 (Zb .lss 10 15)<|.nil
def Ex2 : Sts := ZO 19 20 21 0 2<|ZY 22 23 0 21<|ZZ 24 25 2 1 23<|zA 26 (zJ 25)<|zB 3 26<|.nil
def Ex3 : Sts := zB 27 3<|zA 28 (Zc .geq 27 0)<|zB 29 28<|.cnd 29 true (ZO 30 31 32 0 2<|ZY 33 34 1 32<|ZZ 35 36 3 1 34<|zA 37 (Zg 36)<|zA 38 (Zt 37)<|.nil) 39 (.t 38)<|.nil
def Ex4 : Sts := Zu 17 2 18
def Cn5 : RCode := (.seq (Zr Ex0 (ZX 16 0)) (.seq (.block 1 (Zr Ex2 (Zr Ex3 (.cond (.t 39) .ret .skip)))) (.reg Ex4)))
def Cn6 : AT := .q (zD 0 41 0<|zC 1 42 (Zk 41)<|zC 2 43 (zI 1 42)<|zC 3 44 (zK 43)<|zD 4 45 0<|zC 5 46 (Zk 45)<|zC 6 47 (zI 2 46)<|zC 7 48 (Zo 4 47)<|.nil)<|zE 8 49 (Z2 43 44 48) true (.q (zD 9 40 49<|zC 10 50 (Zx 0 40)<|zC 11 51 (Zx 1 40)<|zC 12 52 (Zx 2 40)<|zD 13 4 50<|zD 14 5 51<|zD 15 6 52<|.nil)<|.fin)<|.no
def Cn7 : AT := .q (zD 0 54 0<|zC 1 55 (Zk 54)<|zC 2 56 (zI 1 55)<|zC 3 57 (zK 56)<|zD 4 58 0<|zC 5 59 (Zk 58)<|zC 6 60 (zI 2 59)<|zC 7 61 (Zo 4 60)<|.nil)<|zE 8 62 (Z2 45 57 61) true (.q (zD 9 53 62<|zC 10 63 (Zx 0 53)<|zC 11 64 (Zx 1 53)<|zC 12 65 (Zx 2 53)<|zD 13 7 63<|zD 14 8 64<|zD 15 9 65<|.nil)<|.fin)<|.no
def Cn8 : AT := .q (zD 0 66 9<|zC 1 67 (Zt 66)<|zD 2 68 67<|.nil)<|.br 68 (zF<|zL 3 69<|zF<|zL 4 70<|zF<|zL 5 71<|zF<|zL 6 72<|zF<|zL 7 73<|zF<|zL 8 74<|zF<|zL 9 75<|zF<|zL 10 76<|zF<|zL 11 77<|zF<|zL 12 78<|zF<|zL 13 79<|.q (.g 68 false (zC 14 80 (Zt 79)<|.nil) 15 81 (.t 80)<|zD 16 82 81<|.nil)<|.br 82 (zF<|zL 17 83<|zF<|zL 18 84<|zF<|zL 19 85<|zF<|zL 20 86<|zF<|zL 21 87<|zF<|zL 22 88<|zF<|zL 23 89<|zF<|zL 24 90<|zF<|zL 25 91<|zF<|zL 26 92<|zF<|zL 27 93<|zF<|zL 28 94<|zF<|zL 29 95<|zF<|zL 30 96<|zF<|zL 31 97<|zF<|zL 32 98<|zF<|zL 33 99<|.q (zC 34 100 (.pick (.t 82) (.c (.bool true)) (.t 99))<|.nil)<|.fin)<|zF<|.q (zD 17 83 0<|.nil)<|zF<|.q (zC 18 84 (Zk 83)<|.nil)<|zF<|.q (zC 19 85 (zI 1 84)<|.nil)<|zF<|.q (zC 20 86 (zK 85)<|.nil)<|zF<|.q (zD 22 88 0<|.nil)<|zF<|.q (zC 23 89 (Zk 88)<|.nil)<|zF<|.q (zC 24 90 (zI 1 89)<|.nil)<|zF<|.q (zC 25 91 (zK 90)<|.nil)<|zF<|.q (zD 26 92 0<|.nil)<|zF<|.q (zC 27 93 (Zk 92)<|.nil)<|zF<|.q (zC 28 94 (zI 2 93)<|.nil)<|zF<|.q (zC 29 95 (Zo 4 94)<|.nil)<|zF<|zE 21 87 (Z1 49 86) false (zF<|zE 30 96 (Z2 50 91 95) true (zF<|zE 31 97 (Z2 48 87 96) true (zF<|zE 32 98 (Z1 47 97) true (zF<|zE 33 99 (Z1 46 98) true (.q (zC 34 100 (.pick (.t 82) (.c (.bool true)) (.t 99))<|.nil)<|.fin)<|.no)<|.no)<|.no)<|.no)<|.no)<|zF<|.q (zD 3 69 0<|.nil)<|zF<|.q (zC 4 70 (Zk 69)<|.nil)<|zF<|.q (zC 5 71 (zI 1 70)<|.nil)<|zF<|.q (zC 6 72 (zK 71)<|.nil)<|zF<|.q (zD 7 73 0<|.nil)<|zF<|.q (zC 8 74 (Zk 73)<|.nil)<|zF<|.q (zC 9 75 (zI 2 74)<|.nil)<|zF<|.q (zC 10 76 (Zo 4 75)<|.nil)<|zF<|.q (zD 11 77 4<|.nil)<|zF<|.q (zD 12 78 6<|.nil)<|zF<|zE 13 79 (.call 44 [(.t 72), (.t 76), (.t 77), (.t 78)]) true (.q (.g 68 false (zC 14 80 (Zt 79)<|.nil) 15 81 (.t 80)<|zD 16 82 81<|.nil)<|.br 82 (zF<|zL 17 83<|zF<|zL 18 84<|zF<|zL 19 85<|zF<|zL 20 86<|zF<|zL 21 87<|zF<|zL 22 88<|zF<|zL 23 89<|zF<|zL 24 90<|zF<|zL 25 91<|zF<|zL 26 92<|zF<|zL 27 93<|zF<|zL 28 94<|zF<|zL 29 95<|zF<|zL 30 96<|zF<|zL 31 97<|zF<|zL 32 98<|zF<|zL 33 99<|.q (zC 34 100 (.pick (.t 82) (.c (.bool true)) (.t 99))<|.nil)<|.fin)<|zF<|.q (zD 17 83 0<|.nil)<|zF<|.q (zC 18 84 (Zk 83)<|.nil)<|zF<|.q (zC 19 85 (zI 1 84)<|.nil)<|zF<|.q (zC 20 86 (zK 85)<|.nil)<|zF<|.q (zD 22 88 0<|.nil)<|zF<|.q (zC 23 89 (Zk 88)<|.nil)<|zF<|.q (zC 24 90 (zI 1 89)<|.nil)<|zF<|.q (zC 25 91 (zK 90)<|.nil)<|zF<|.q (zD 26 92 0<|.nil)<|zF<|.q (zC 27 93 (Zk 92)<|.nil)<|zF<|.q (zC 28 94 (zI 2 93)<|.nil)<|zF<|.q (zC 29 95 (Zo 4 94)<|.nil)<|zF<|zE 21 87 (Z1 49 86) false (zF<|zE 30 96 (Z2 50 91 95) true (zF<|zE 31 97 (Z2 48 87 96) true (zF<|zE 32 98 (Z1 47 97) true (zF<|zE 33 99 (Z1 46 98) true (.q (zC 34 100 (.pick (.t 82) (.c (.bool true)) (.t 99))<|.nil)<|.fin)<|.no)<|.no)<|.no)<|.no)<|.no)<|.no
def Ex5 : Sts := zB 101 0<|zA 102 (.call 129 [(.t 101), (zN 0)])<|.nil
def Q78 : RFun := ⟨103, [0, 2, 3, 4, 6, 9], (.seq (Zr Ew9 (.block 0 (.loop Cn5))) (.seq (.any Cn6) (.seq (.any Cn7) (.seq (.seq (.any Cn8) (.cond (.t 100) .ret .skip)) (.reg Ex5))))), []⟩
theorem Q78_ok : Al Tryz.prog Q78.V ZQ 92 = some Q78 := by kernel_rfl

def Cn9 : Sts := Zq 1 83 0<|Zm 2 Zf<|.nil
def Co0 : Sts := Zy 3 4 0 1<|zA 5 (Zc .geq 4 1)<|zB 6 5<|.cnd 6 true (Zy 7 8 0 1<|zA 9 (Zc .leq 8 4)<|.nil) 10 (.t 9)<|zB 2 10<|.nil
def Dj7 : RFun := ⟨11, [0, 1, 2], (Zr Cn9 (Zr Co0 .ret)), [.tmp 2]⟩
theorem Q101_ok : Al Tryz.prog Dj7.V ZQ 93 = some Dj7 := by kernel_rfl

def Ex6 : Sts := Zq 1 83 0<|Zm 2 Zf<|.nil
def Ex7 : Sts := Zy 3 4 0 1<|zA 5 (Zc .eql 4 5)<|zB 6 5<|.cnd 6 true (Zy 7 8 4 1<|zA 9 (Zc .eql 8 4)<|.nil) 10 (.t 9)<|zB 2 10<|.nil
def Q89 : RFun := ⟨11, [0, 1, 2], (Zr Ex6 (Zr Ex7 .ret)), [.tmp 2]⟩
theorem Q89_ok : Al Tryz.prog Q89.V ZQ 94 = some Q89 := by kernel_rfl

def Ex8 : Sts := Zq 3 37 1<|zA 4 (.alloc 95 [(.int .u64 0), (.int .u64 0), (.int .u64 0), (.int .u64 0), (.int .u64 0), (.int .u64 0), (.int .u64 0), (.int .u64 0), (.int .u64 0), (.int .u64 0), (.int .u64 0), (.int .u64 0), (.int .u64 0), (.int .u64 0), (.int .u64 0), (.int .u64 0)])<|.nil
def Ex9 : Sts := zA 5 (.alloc 95 [(.int .u64 0), (.int .u64 0), (.int .u64 0), (.int .u64 0), (.int .u64 0), (.int .u64 0), (.int .u64 0), (.int .u64 0), (.int .u64 0), (.int .u64 0), (.int .u64 0), (.int .u64 0), (.int .u64 0), (.int .u64 0), (.int .u64 0), (.int .u64 0)])<|.nil
def Ey0 : Sts := zG 6 0<|.nil
def Ey1 : Sts := Zl 16 6 17 0 18 19
def Ey2 : Sts := ZY 22 23 1 3<|ZZ 24 25 6 1 23<|zA 26 (Zg 25)<|zA 27 (Zt 26)<|.nil
def Ey3 : Sts := zB 28 6<|zA 29 (.conv .u64 (.t 28))<|zA 30 (.bin .shl (.c (.int .u64 1)) (.t 29))<|zB 7 30<|.nil
def Ey4 : Sts := zG 8 0<|.nil
def Ey5 : Sts := Zl 31 8 32 0 33 34
def Ey6 : Sts := zG 9 0<|.nil
def Ey7 : Sts := Zl 37 9 38 0 39 40
def Co2 : Sts := ZY 43 44 1 3<|ZZ 45 46 9 1 44<|zA 47 (Zg 46)<|zB 48 47<|.cnd 48 true (ZY 49 50 0 3<|ZZ 51 52 9 1 50<|zA 53 (zJ 52)<|zA 54 (Zc .geq 53 0)<|.nil) 55 (.t 54)<|zB 56 55<|.cnd 56 true (zB 57 7<|ZY 58 59 0 3<|ZZ 60 61 9 1 59<|zA 62 (zJ 61)<|zA 63 (.conv .u64 (.t 62))<|zA 64 (Zb .shr 57 63)<|zA 65 (.bin .and (.t 64) (.c (.int .u64 1)))<|zA 66 (.bin .eql (.t 65) (.c (.int .u64 1)))<|.nil) 67 (.t 66)<|.nil
def Co3 : Sts := zB 68 7<|zB 69 9<|zA 70 (.conv .u64 (.t 69))<|zA 71 (.bin .shl (.c (.int .u64 1)) (.t 70))<|zA 72 (Zb .or 68 71)<|zB 7 72<|.nil
def Co4 : Sts := Zu 41 9 42
def Bc5 : RCode := (.seq (Zr Ey7 (ZX 40 4)) (.seq (.block 5 (Zr Co2 (.cond (.t 67) (.reg Co3) .skip))) (.reg Co4)))
def Co5 : Sts := Zu 35 8 36
def Bc6 : RCode := (.seq (Zr Ey5 (ZX 34 2)) (.seq (.block 3 (Zr Ey6 (.block 4 (.loop Bc5)))) (.reg Co5)))
def Co6 : Sts := zG 10 0<|.nil
def Co7 : Sts := Zl 73 10 74 0 75 76
def Co8 : Sts := ZY 79 80 0 3<|ZZ 81 82 10 1 80<|zA 83 (zJ 82)<|zA 84 (Zc .lss 83 0)<|zB 85 84<|.cnd 85 false (zB 86 7<|ZY 87 88 0 3<|ZZ 89 90 10 1 88<|zA 91 (zJ 90)<|zA 92 (.conv .u64 (.t 91))<|zA 93 (Zb .shr 86 92)<|zA 94 (.bin .and (.t 93) (.c (.int .u64 1)))<|zA 95 (.bin .eql (.t 94) (.c (.int .u64 0)))<|.nil) 96 (.t 95)<|.nil
def Co9 : Sts := zA 11 (.mv (.c (.int .u64 0)))<|zA 12 (.mv (.c (.int .u64 0)))<|.nil
def Cp0 : Sts := zG 13 0<|.nil
def Cp1 : Sts := Zl 97 13 98 0 99 100
def Cp2 : Sts := zB 103 0<|ZZ 104 105 13 6 103<|zA 106 (zI 1 105)<|zA 107 (Zo 5 106)<|zA 14 (.alloc 83 [Zi, Zi, Zi, Zi, Zi])<|Zw 5 14 107<|.nil
def At3 : AT := .q (zC 0 108 (zI 4 14)<|zC 1 109 (zJ 108)<|zC 2 110 (Z1 130 109)<|zD 3 111 110<|.g 111 true (zD 4 112 13<|zD 5 113 6<|zC 6 114 (Zb .eql 112 113)<|zD 7 115 114<|.g 115 false (zC 8 116 (zI 0 14)<|zC 9 117 (zJ 116)<|zC 10 118 (Zc .eql 117 5)<|zD 11 119 118<|.g 119 true (zD 12 120 0<|zD 13 121 13<|zC 14 122 (zH 6 120 121)<|zC 15 123 (zI 0 122)<|zC 16 124 (zJ 123)<|zD 17 125 0<|zD 18 126 6<|zC 19 127 (zH 6 125 126)<|zC 20 128 (zI 0 127)<|zC 21 129 (zJ 128)<|zC 22 130 (Zb .eql 124 129)<|.nil) 23 131 (.t 130)<|zD 24 132 131<|.g 132 true (zD 25 133 13<|zD 26 134 6<|zC 27 135 (Zb .lss 133 134)<|.nil) 28 136 (.t 135)<|.nil) 29 137 (.t 136)<|.nil) 30 138 (.t 137)<|.nil)<|.fin
def Cp3 : Sts := zB 139 11<|zB 140 13<|zA 141 (.conv .u64 (.t 140))<|zA 142 (.bin .shl (.c (.int .u64 1)) (.t 141))<|zA 143 (Zb .or 139 142)<|zB 11 143<|.nil
def At4 : AT := .q (zC 0 144 (zI 4 14)<|zC 1 145 (zJ 144)<|zC 2 146 (Z1 131 145)<|zD 3 147 146<|.g 147 true (zD 4 148 13<|zD 5 149 10<|zC 6 150 (Zb .eql 148 149)<|zD 7 151 150<|.g 151 false (zC 8 152 (zI 0 14)<|zC 9 153 (zJ 152)<|zC 10 154 (Zc .eql 153 5)<|zD 11 155 154<|.g 155 true (zD 12 156 0<|zD 13 157 13<|zC 14 158 (zH 6 156 157)<|zC 15 159 (zI 0 158)<|zC 16 160 (zJ 159)<|zD 17 161 0<|zD 18 162 10<|zC 19 163 (zH 6 161 162)<|zC 20 164 (zI 0 163)<|zC 21 165 (zJ 164)<|zC 22 166 (Zb .eql 160 165)<|.nil) 23 167 (.t 166)<|zD 24 168 167<|.g 168 true (zD 25 169 13<|zD 26 170 10<|zC 27 171 (Zb .gtr 169 170)<|.nil) 28 172 (.t 171)<|.nil) 29 173 (.t 172)<|.nil) 30 174 (.t 173)<|.nil)<|.fin
def Cp4 : Sts := zB 175 12<|zB 176 13<|zA 177 (.conv .u64 (.t 176))<|zA 178 (.bin .shl (.c (.int .u64 1)) (.t 177))<|zA 179 (Zb .or 175 178)<|zB 12 179<|.nil
def Cp5 : Sts := Zu 101 13 102
def Ag2 : RCode := (.seq (Zr Cp1 (ZX 100 8)) (.seq (.block 9 (Zr Cp2 (.seq (.seq (.any At3) (.cond (.t 138) (.reg Cp3) .skip)) (.seq (.any At4) (.cond (.t 174) (.reg Cp4) .skip))))) (.reg Cp5)))
def At5 : Sts := zG 15 0<|.nil
def Cp6 : Sts := Zl 180 15 181 0 182 183
def Cp7 : Sts := zB 186 11<|zB 187 15<|zA 188 (.conv .u64 (.t 187))<|zA 189 (Zb .shr 186 188)<|zA 190 (.bin .and (.t 189) (.c (.int .u64 1)))<|zA 191 (.bin .eql (.t 190) (.c (.int .u64 1)))<|.nil
def Cp8 : Sts := zB 192 15<|zB 193 15<|zA 194 (.iaddrA 16 1 (.t 5) (.t 193))<|zA 195 (.loadI .u64 (.t 194))<|zB 196 12<|zA 197 (Zb .or 195 196)<|zA 198 (.iaddrA 16 1 (.t 5) (.t 192))<|ZW 198 197<|.nil
def Cp9 : Sts := Zu 184 15 185
def Ag3 : RCode := (.seq (Zr Cp6 (ZX 183 10)) (.seq (.block 11 (Zr Cp7 (.cond (.t 191) (.reg Cp8) .skip))) (.reg Cp9)))
def Cq0 : Sts := Zu 77 10 78
def Bc7 : RCode := (.seq (Zr Co7 (ZX 76 6)) (.seq (.block 7 (.seq (Zr Co8 (Zs 96 7)) (Zr Co9 (.seq (Zr Cp0 (.block 8 (.loop Ag2))) (Zr At5 (.block 10 (.loop Ag3))))))) (.reg Cq0)))
def Cq1 : Sts := Zu 20 6 21
def Bc8 : RCode := (.seq (Zr Ey1 (ZX 19 0)) (.seq (.block 1 (.seq (Zr Ey2 (Zs 27 1)) (Zr Ey3 (.seq (Zr Ey4 (.block 2 (.loop Bc6))) (Zr Co6 (.block 6 (.loop Bc7))))))) (.reg Cq1)))
def Cq2 : Sts := zA 199 (Zo 16 5)<|Zw 16 4 199<|.nil
def Q91 : RFun := ⟨200, [0, 1, 3, 4, 5, 6, 7, 8, 9, 10, 11, 12, 13, 14, 15], (Zr Ex8 (Zr Ex9 (.seq (Zr Ey0 (.block 0 (.loop Bc8))) (Zr Cq2 .ret)))), [.cellA 4 16]⟩
theorem Q91_ok : Al Tryz.prog Q91.V ZQ 95 = some Q91 := by kernel_rfl

def Cq3 : Sts := Zm 2 Zf<|.nil
def Cq4 : Sts := zB 3 0<|zA 4 (Zc .geq 3 0)<|zB 5 4<|.cnd 5 true (zB 6 0<|zA 7 (Zc .lss 6 5)<|.nil) 8 (.t 7)<|zB 2 8<|.nil
def Dj8 : RFun := ⟨9, [0, 2], (Zr Cq3 (Zr Cq4 .ret)), [.tmp 2]⟩
theorem Q107_ok : Al Tryz.prog Dj8.V ZQ 96 = some Dj8 := by kernel_rfl

def Cq5 : Sts := zG 2 0<|.nil
def Cq6 : Sts := zB 5 0<|zA 6 (zM 5)<|zA 7 (Zc .lss 6 1)<|.nil
def Cq7 : Sts := zA 8 (.bad)<|.op none (.bad)<|.nil
def Cq8 : Sts := zB 9 0<|zA 10 (.iaddrS 1 (.t 9) (zN 0))<|zA 11 (zJ 10)<|zB 3 11<|.nil
def Cq9 : Sts := zG 4 1<|.nil
def Cr0 : Sts := Zl 12 4 13 0 14 15
def Cr1 : Sts := zB 18 3<|zB 19 0<|ZZ 20 21 4 1 19<|zA 22 (zJ 21)<|zA 23 (.maxi (.t 18) (.t 22))<|zB 3 23<|.nil
def Cr2 : Sts := Zu 16 4 17
def Bc9 : RCode := (.seq (Zr Cr0 (ZX 15 0)) (.seq (.block 1 (.reg Cr1)) (.reg Cr2)))
def Cr3 : Sts := zB 24 3<|zB 2 24<|.nil
def Dj9 : RFun := ⟨25, [0, 2, 3, 4], (Zr Cq5 (.seq (Zr Cq6 (.cond (.t 7) (.reg Cq7) .skip)) (Zr Cq8 (.seq (Zr Cq9 (.block 0 (.loop Bc9))) (Zr Cr3 .ret))))), [.tmp 2]⟩
theorem Q120_ok : Al Tryz.prog Dj9.V ZQ 98 = some Dj9 := by kernel_rfl

def Cr4 : Sts := Zm 4 Zf<|.nil
def Cr5 : Sts := zB 5 0<|.nil
def Cr6 : Sts := zA 7 (Zc .eql 5 0)<|zB 6 7<|.nil
def Cr7 : Sts := zB 8 1<|zA 9 (Zc .neq 8 2)<|zB 10 9<|.cnd 10 true (zB 11 1<|zA 12 (Zc .neq 11 3)<|.nil) 13 (.t 12)<|zB 4 13<|.nil
def Cr8 : Sts := zA 15 (Zc .eql 5 1)<|zB 14 15<|.nil
def Cr9 : Sts := zB 16 1<|zA 17 (Zc .neq 16 1)<|zB 18 17<|.cnd 18 true (zB 19 1<|zA 20 (Zc .neq 19 3)<|.nil) 21 (.t 20)<|zB 4 21<|.nil
def Cs0 : Sts := zA 23 (Zc .eql 5 5)<|zB 22 23<|.nil
def Cs1 : Sts := zB 24 1<|zA 25 (Zc .neq 24 0)<|zB 4 25<|.nil
def Cs2 : Sts := zA 4 (.mv (.c (.bool true)))<|.nil
def Dk0 : RFun := ⟨26, [0, 1, 4, 5], (Zr Cr4 (.seq (Zr Cr5 (.block 0 (Zr Cr6 (.cond (.t 6) (Zr Cr7 .ret) (Zr Cr8 (.cond (.t 14) (Zr Cr9 .ret) (Zr Cs0 (.cond (.t 22) (Zr Cs1 .ret) .skip)))))))) (Zr Cs2 .ret))), [.tmp 4]⟩
theorem Q108_ok : Al Tryz.prog Dk0.V ZQ 99 = some Dk0 := by kernel_rfl

def Ey8 : Sts := Zm 2 Zf<|.nil
def Ey9 : Sts := zB 3 0<|zA 4 (Zc .geq 3 0)<|zB 5 4<|.cnd 5 true (zB 6 0<|zA 7 (Zc .leq 6 9)<|.nil) 8 (.t 7)<|zB 2 8<|.nil
def Q49 : RFun := ⟨9, [0, 2], (Zr Ey8 (Zr Ey9 .ret)), [.tmp 2]⟩
theorem Q49_ok : Al Tryz.prog Q49.V ZQ 100 = some Q49 := by kernel_rfl

def Ez0 : Sts := Zq 3 45 1<|Zm 4 Zn<|.nil
def Ez1 : Sts := zB 8 0<|zA 9 (Z1 136 8)<|zB 5 9<|.nil
def Ez2 : Sts := zG 6 1<|.nil
def Ez3 : Sts := Zl 10 6 11 0 12 13
def Ez4 : AT := .q (zD 0 16 0<|zD 1 17 6<|zC 2 18 (zH 6 16 17)<|zC 3 19 (zI 5 18)<|zC 4 20 (zJ 19)<|zD 5 21 0<|zD 6 22 6<|zC 7 23 (Zc .sub 22 1)<|zC 8 24 (zH 6 21 23)<|zC 9 25 (zI 5 24)<|zC 10 26 (zJ 25)<|zC 11 27 (Zb .eql 20 26)<|.nil)<|.fin
def Ez5 : Sts := zB 28 5<|zB 29 6<|zA 30 (Zc .sub 29 1)<|zB 31 6<|zA 32 (.call 121 [(.t 28), (.t 30), (.t 31)])<|.nil
def Ez6 : Sts := Zu 14 6 15
def Cs3 : RCode := (.seq (Zr Ez3 (ZX 13 0)) (.seq (.block 1 (.seq (.any Ez4) (.cond (.t 27) (.reg Ez5) .skip))) (.reg Ez6)))
def Ez7 : Sts := zG 7 1<|.nil
def Ez8 : Sts := zB 33 7<|ZY 34 35 3 3<|zA 36 (zM 35)<|zA 37 (Zb .lss 33 36)<|.nil
def Bd0 : AT := .q (zD 0 40 5<|zC 1 41 (zI 3 3)<|zC 2 42 (zK 41)<|zD 3 43 7<|zC 4 44 (Zc .sub 43 1)<|zC 5 45 (zH 1 42 44)<|zC 6 46 (zJ 45)<|zC 7 47 (zI 3 3)<|zC 8 48 (zK 47)<|zD 9 49 7<|zC 10 50 (zH 1 48 49)<|zC 11 51 (zJ 50)<|.nil)<|zE 12 52 (.call 121 [(.t 40), (.t 46), (.t 51)]) true (zF<|.fin)<|.no
def Cs4 : Sts := Zu 38 7 39
def Bd1 : RCode := (.seq (Zr Ez8 (ZX 37 2)) (.seq (.block 3 (.any Bd0)) (.reg Cs4)))
def Cs5 : Sts := zB 53 5<|zB 4 53<|.nil
def Q35 : RFun := ⟨54, [0, 1, 3, 4, 5, 6, 7], (Zr Ez0 (Zr Ez1 (.seq (Zr Ez2 (.block 0 (.loop Cs3))) (.seq (Zr Ez7 (.block 2 (.loop Bd1))) (Zr Cs5 .ret))))), [.tmp 4]⟩
theorem Q35_ok : Al Tryz.prog Q35.V ZQ 102 = some Q35 := by kernel_rfl

def Cs6 : Sts := zA 4 (.mv (.c (.int .u32 0)))<|.nil
def Cs7 : Sts := zA 5 (.mv (.c (.int .u32 0)))<|.nil
def Ez9 : Sts := zB 7 0<|ZZ 8 9 1 6 7<|zA 10 (Zo 6 9)<|zA 11 (Z1 137 10)<|.nil
def Fa0 : Sts := zB 12 5<|zB 13 1<|zA 14 (.bin .shl (.c (.int .u32 1)) (.t 13))<|zA 15 (Zb .or 12 14)<|zB 5 15<|.nil
def Fa1 : Sts := zB 16 1<|zA 17 (Zc .sub 16 1)<|zB 6 17<|.nil
def Fa2 : AT := .q (zD 0 18 6<|zC 1 19 (Zc .geq 18 0)<|zD 2 20 19<|.g 20 true (zD 3 21 0<|zD 4 22 6<|zC 5 23 (zH 6 21 22)<|zC 6 24 (zI 5 23)<|zC 7 25 (zJ 24)<|zD 8 26 0<|zD 9 27 1<|zC 10 28 (zH 6 26 27)<|zC 11 29 (zI 5 28)<|zC 12 30 (zJ 29)<|zC 13 31 (Zb .eql 25 30)<|.nil) 14 32 (.t 31)<|.nil)<|.fin
def Fa3 : Sts := zB 35 0<|ZZ 36 37 6 6 35<|zA 38 (zI 0 37)<|Zy 39 40 0 38<|zA 41 (Zc .eql 40 5)<|zB 42 41<|.cnd 42 true (zB 43 0<|ZZ 44 45 6 6 43<|zA 46 (Zo 6 45)<|zA 47 (Z1 137 46)<|.nil) 48 (.t 47)<|.nil
def Fa4 : Sts := zB 49 5<|zB 50 6<|zA 51 (.bin .shl (.c (.int .u32 1)) (.t 50))<|zA 52 (Zb .or 49 51)<|zB 5 52<|.nil
def Fa5 : Sts := zB 33 6<|zA 34 (Zc .sub 33 1)<|zB 6 34<|.nil
def Cs8 : RCode := (.seq (.seq (.any Fa2) (ZX 32 0)) (.seq (.block 1 (Zr Fa3 (.cond (.t 48) (.reg Fa4) .skip))) (.reg Fa5)))
def Fa6 : Sts := zB 53 5<|zB 4 53<|.nil
def Q34 : RFun := ⟨54, [0, 1, 4, 5, 6], (Zr Cs6 (Zr Cs7 (.seq (Zr Ez9 (.cond (.t 11) (.reg Fa0) .skip)) (.seq (Zr Fa1 (.block 0 (.loop Cs8))) (Zr Fa6 .ret))))), [.tmp 4]⟩
theorem Q34_ok : Al Tryz.prog Q34.V ZQ 103 = some Q34 := by kernel_rfl

def Fa7 : Sts := Zq 4 45 1<|Zm 6 Zf<|.nil
def Fa8 : Sts := zB 7 0<|ZZ 8 9 2 6 7<|zA 10 (Zo 6 9)<|zA 11 (Z1 86 10)<|zB 12 11<|.cnd 12 true (ZY 13 14 1 4<|ZZ 15 16 2 1 14<|zA 17 (Zg 16)<|.nil) 18 (.t 17)<|zB 6 18<|.nil
def Q17 : RFun := ⟨19, [0, 1, 2, 4, 6], (Zr Fa7 (Zr Fa8 .ret)), [.tmp 6]⟩
theorem Q17_ok : Al Tryz.prog Q17.V ZQ 104 = some Q17 := by kernel_rfl

def Cs9 : Sts := zA 4 (.mv (.c (.int .u32 0)))<|.nil
def Ct0 : Sts := zA 5 (.mv (.c (.int .u32 0)))<|.nil
def Fa9 : Sts := zB 7 0<|ZZ 8 9 1 6 7<|zA 10 (Zo 6 9)<|zA 11 (Z1 138 10)<|.nil
def Fb0 : Sts := zB 12 5<|zB 13 1<|zA 14 (.bin .shl (.c (.int .u32 1)) (.t 13))<|zA 15 (Zb .or 12 14)<|zB 5 15<|.nil
def Fb1 : Sts := zB 16 1<|zA 17 (Zc .add 16 1)<|zB 6 17<|.nil
def Fb2 : AT := .q (zD 0 18 6<|zD 1 19 0<|zC 2 20 (zM 19)<|zC 3 21 (Zb .lss 18 20)<|zD 4 22 21<|.g 22 true (zD 5 23 0<|zD 6 24 6<|zC 7 25 (zH 6 23 24)<|zC 8 26 (zI 5 25)<|zC 9 27 (zJ 26)<|zD 10 28 0<|zD 11 29 1<|zC 12 30 (zH 6 28 29)<|zC 13 31 (zI 5 30)<|zC 14 32 (zJ 31)<|zC 15 33 (Zb .eql 27 32)<|.nil) 16 34 (.t 33)<|.nil)<|.fin
def Fb3 : Sts := zB 37 0<|ZZ 38 39 6 6 37<|zA 40 (zI 0 39)<|Zy 41 42 0 40<|zA 43 (Zc .eql 42 5)<|zB 44 43<|.cnd 44 true (zB 45 0<|ZZ 46 47 6 6 45<|zA 48 (Zo 6 47)<|zA 49 (Z1 138 48)<|.nil) 50 (.t 49)<|.nil
def Fb4 : Sts := zB 51 5<|zB 52 6<|zA 53 (.bin .shl (.c (.int .u32 1)) (.t 52))<|zA 54 (Zb .or 51 53)<|zB 5 54<|.nil
def Fb5 : Sts := Zu 35 6 36
def Ct1 : RCode := (.seq (.seq (.any Fb2) (ZX 34 0)) (.seq (.block 1 (Zr Fb3 (.cond (.t 50) (.reg Fb4) .skip))) (.reg Fb5)))
def Fb6 : Sts := zB 55 5<|zB 4 55<|.nil
def Q16 : RFun := ⟨56, [0, 1, 4, 5, 6], (Zr Cs9 (Zr Ct0 (.seq (Zr Fa9 (.cond (.t 11) (.reg Fb0) .skip)) (.seq (Zr Fb1 (.block 0 (.loop Ct1))) (Zr Fb6 .ret))))), [.tmp 4]⟩
theorem Q16_ok : Al Tryz.prog Q16.V ZQ 105 = some Q16 := by kernel_rfl

def Fb7 : Sts := Zm 2 Zn<|.nil
def Fb8 : Sts := zB 5 0<|zA 6 (zM 5)<|zG 7 0<|.nil
def Fb9 : Sts := zA 8 (Zb .lss 7 6)<|.nil
def Fc0 : Sts := zB 9 7<|zB 3 9<|.nil
def Fc1 : Sts := zB 10 0<|zA 11 (zM 10)<|zG 12 0<|.nil
def Fc2 : Sts := zA 13 (Zb .lss 12 11)<|.nil
def Fc3 : Sts := zB 14 12<|zB 4 14<|.nil
def Fc4 : Sts := zB 15 0<|zB 16 4<|zB 17 3<|zA 18 (.call 68 [(.t 15), (.t 16), (.t 17)])<|.nil
def Fc5 : AT := .q (zD 0 19 0<|zD 1 20 4<|zC 2 21 (zH 1 19 20)<|zC 3 22 (.loadI .u32 (.t 21))<|zD 4 23 0<|zD 5 24 3<|zC 6 25 (zH 1 23 24)<|zC 7 26 (.loadI .u32 (.t 25))<|zC 8 27 (Zb .or 22 26)<|zC 9 28 (zH 1 19 20)<|.nil)<|.s 10 none (.store 1 (.t 28) (.t 27)) true (zF<|.fin)<|.no
def Fc6 : Sts := zA 29 (Zc .add 12 1)<|zB 12 29<|.nil
def Bd2 : RCode := (Zr Fc2 (.seq (ZX 13 2) (.seq (.block 3 (Zr Fc3 (Zr Fc4 (.cond (.t 18) (.any Fc5) .skip)))) (.reg Fc6))))
def Ct2 : Sts := zA 30 (Zc .add 7 1)<|zB 7 30<|.nil
def Bd3 : RCode := (Zr Fb9 (.seq (ZX 8 0) (.seq (.block 1 (Zr Fc0 (Zr Fc1 (.block 2 (.loop Bd2))))) (.reg Ct2))))
def Ct3 : Sts := zB 31 0<|zB 2 31<|.nil
def Q40 : RFun := ⟨32, [0, 2, 3, 4, 6, 7, 11, 12], (Zr Fb7 (.seq (Zr Fb8 (.block 0 (.loop Bd3))) (Zr Ct3 .ret))), [.tmp 2]⟩
theorem Q40_ok : Al Tryz.prog Q40.V ZQ 106 = some Q40 := by kernel_rfl

def Fc7 : Sts := zA 10 (zK 1)<|zA 11 (.mkfn 108 [] [(.t 1)])<|zA 12 (Z2 74 10 11)<|zB 3 12<|.nil
def Fc8 : Sts := zB 13 3<|zA 14 (zM 13)<|zA 15 (.bin .shl (zN 1) (.t 14))<|zG 16 0<|.nil
def Fc9 : Sts := zA 17 (Zb .lss 16 15)<|.nil
def Fd0 : Sts := zB 18 16<|zB 4 18<|.nil
def Fd1 : Sts := zA 19 (zK 1)<|zA 20 (zM 19)<|zA 21 (.makeSl 4 1 1 [Zf] (.t 20) (.t 20))<|zB 5 21<|.nil
def Fd2 : Sts := zA 22 (zK 1)<|zA 23 (zM 22)<|zG 24 0<|.nil
def Fd3 : Sts := zA 25 (Zb .lss 24 23)<|.nil
def Fd4 : Sts := zB 26 24<|zA 27 (zH 6 22 24)<|zA 28 (Zo 6 27)<|zA 7 (.alloc 121 [Zi, Zi, Zi, Zi, Zi, Zi])<|zB 6 26<|Zw 6 7 28<|.nil
def Fd5 : Sts := zB 29 5<|zB 30 6<|zA 31 (zI 0 7)<|Zy 32 33 0 31<|zA 34 (Zc .eql 33 1)<|zB 35 34<|.cnd 35 false (zA 36 (zI 0 7)<|Zy 37 38 0 36<|zA 39 (Zc .eql 38 2)<|.nil) 40 (.t 39)<|zA 41 (zH 1 29 30)<|ZW 41 40<|.nil
def Fd6 : Sts := zA 42 (Zc .add 24 1)<|zB 24 42<|.nil
def Bd4 : RCode := (Zr Fd3 (.seq (ZX 25 2) (.seq (.block 3 (Zr Fd4 (.reg Fd5))) (.reg Fd6))))
def Ct4 : Sts := zB 43 3<|zA 44 (zM 43)<|zG 45 0<|.nil
def Ct5 : Sts := zA 46 (Zb .lss 45 44)<|.nil
def Ct6 : Sts := zB 47 45<|Zj 48 49 1 43 45<|zB 8 47<|zB 9 49<|.nil
def Ct7 : Sts := zB 50 5<|zB 51 9<|zB 52 4<|zB 53 8<|zA 54 (Zb .shr 52 53)<|zA 55 (Zc .and 54 1)<|zA 56 (Zc .eql 55 1)<|zA 57 (zH 1 50 51)<|ZW 57 56<|.nil
def Ct8 : Sts := zA 58 (Zc .add 45 1)<|zB 45 58<|.nil
def Bd5 : RCode := (Zr Ct5 (.seq (ZX 46 4) (.seq (.block 5 (Zr Ct6 (.reg Ct7))) (.reg Ct8))))
def Ct9 : Sts := zB 59 0<|zB 60 5<|zA 61 (.callv (.t 59) [(.t 60)])<|zA 62 (Zt 61)<|.nil
def Cu0 : Sts := zA 63 (Zc .add 16 1)<|zB 16 63<|.nil
def Bd6 : RCode := (Zr Fc9 (.seq (ZX 17 0) (.seq (.block 1 (Zr Fd0 (Zr Fd1 (.seq (Zr Fd2 (.block 2 (.loop Bd4))) (.seq (Zr Ct4 (.block 4 (.loop Bd5))) (Zr Ct9 (.cond (.t 62) .ret .skip))))))) (.reg Cu0))))
def Q14 : RFun := ⟨64, [0, 1, 3, 4, 5, 6, 7, 8, 9, 15, 16, 22, 23, 24, 43, 44, 45], (Zr Fc7 (Zr Fc8 (.block 0 (.loop Bd6)))), []⟩
theorem Q14_ok : Al Tryz.prog Q14.V ZQ 107 = some Q14 := by kernel_rfl

def Fd7 : Sts := Zm 3 Zf<|.nil
def Fd8 : Sts := zA 4 (zK 1)<|ZZ 5 6 0 6 4<|zA 7 (zI 0 6)<|Zy 8 9 0 7<|zA 10 (Zc .eql 9 3)<|zB 11 10<|.cnd 11 false (zA 12 (zK 1)<|ZZ 13 14 0 6 12<|zA 15 (zI 0 14)<|Zy 16 17 0 15<|zA 18 (Zc .eql 17 4)<|.nil) 19 (.t 18)<|zB 3 19<|.nil
def Q15 : RFun := ⟨20, [0, 1, 3], (Zr Fd7 (Zr Fd8 .ret)), [.tmp 3]⟩
theorem Q15_ok : Al Tryz.prog Q15.V ZQ 108 = some Q15 := by kernel_rfl

def Cu1 : Sts := Zq 4 149 0<|.nil
def Fd9 : Sts := zA 7 (zJ 1)<|zA 8 (Zc .eql 7 3)<|.nil
def Fe0 : Sts := zA 9 (.loadX (.t 4))<|zA 10 (.callv (.t 9) [(.c Zn)])<|.nil
def Cu2 : AT := .q (zC 0 11 (zK 2)<|zC 1 12 (zK 2)<|zC 2 13 (zK 3)<|zC 3 14 (zJ 1)<|.nil)<|zE 4 15 (.call 110 [(.t 12), (.t 13), (.t 14)]) false (zF<|zE 5 16 (Z2 82 11 15) true (zF<|.fin)<|.no)<|.no
def Bd7 : Sts := zA 5 (.alloc 34 [Zn])<|ZW 5 17<|.nil
def Fe1 : Sts := zA 18 (zK 2)<|zA 19 (zK 3)<|zA 20 (zJ 1)<|zA 21 (Zc .add 20 1)<|zA 22 (.call 79 [(.t 18), (.t 19), (.t 21)])<|.nil
def Bd8 : Sts := zB 6 23<|.nil
def Cu3 : AT := .q (zC 0 24 (.loadX (.t 4))<|zC 1 25 (zK 5)<|zD 3 27 6<|.nil)<|zE 2 26 (.buildSl 34 1 [Zn] [(0, 1, (.t 25))]) false (zF<|zE 4 28 (.append 34 1 24 [Zn] (.t 26) (.t 27)) false (zF<|zE 5 29 (.callv (.t 24) [(.t 28)]) true (.q (zC 6 30 (Zt 29)<|.nil)<|.fin)<|.no)<|.no)<|.no
def Fg : RCode := (.reg Bd8)
def Fh : RCode := (.block 3 (.seq (.any Cu3) (.cond (.t 30) .ret .skip)))
def Fi : RCode := (.reg Bd7)
def Fj : RCode := (.block 1 (Zr Fe1 (.block 2 (.rangeF (.t 22) [23] Fg Fh))))
def Q29 : RFun := ⟨31, [0, 1, 2, 3, 4, 5, 6, 16, 17, 22, 23], (Zr Cu1 (.seq (Zr Fd9 (.cond (.t 8) (Zr Fe0 .ret) .skip)) (.seq (.any Cu2) (.block 0 (.rangeF (.t 16) [17] Fi Fj))))), []⟩
theorem Q29_ok : Al Tryz.prog Q29.V ZQ 109 = some Q29 := by kernel_rfl

def Fe2 : Sts := Zq 3 74 0<|Zq 4 35 1<|Zq 5 3 2<|Zm 6 Zn<|.nil
def Fe3 : Sts := zA 7 (zK 3)<|zA 8 (.mkfn 139 [] [(.t 3), (.t 4), (.t 5)])<|zA 9 (Z2 74 7 8)<|zB 6 9<|.nil
def Q37 : RFun := ⟨10, [0, 1, 2, 3, 4, 5, 6], (Zr Fe2 (Zr Fe3 .ret)), [.tmp 6]⟩
theorem Q37_ok : Al Tryz.prog Q37.V ZQ 110 = some Q37 := by kernel_rfl

def Cu4 : Sts := Zq 4 151 0<|.nil
def Fe4 : Sts := zA 7 (zK 1)<|zA 8 (zM 7)<|zA 9 (.makeSl 3 1 8 [Zi] (.t 8) (.t 8))<|zA 5 (.alloc 34 [Zn])<|ZW 5 9<|.nil
def Fe5 : Sts := zA 6 (.alloc 123 [.nilFunc])<|.nil
def Fe6 : Sts := zA 10 (.mkfn 112 [] [(.t 1), (.t 4), (.t 5), (.t 6), (.t 2), (.t 3)])<|ZW 6 10<|.nil
def Fe7 : Sts := zA 11 (.loadX (.t 6))<|zA 12 (.callv (.t 11) [(zN 0)])<|.nil
def Q22 : RFun := ⟨13, [0, 1, 2, 3, 4, 5, 6], (Zr Cu4 (Zr Fe4 (Zr Fe5 (Zr Fe6 (.reg Fe7))))), []⟩
theorem Q22_ok : Al Tryz.prog Q22.V ZQ 111 = some Q22 := by kernel_rfl

def Fe8 : Sts := Zm 8 Zf<|.nil
def Fe9 : Sts := zB 13 0<|zA 14 (zK 1)<|zA 15 (zM 14)<|zA 16 (Zb .eql 13 15)<|.nil
def Cu5 : AT := .q (zC 0 17 (.loadX (.t 2))<|zC 1 18 (zK 3)<|.nil)<|zE 2 19 (Z1 113 18) false (zF<|zE 3 20 (.callv (.t 17) [(.t 19)]) true (.q (zD 4 8 20<|.nil)<|.fin)<|.no)<|.no
def Ff0 : Sts := zA 21 (zK 1)<|ZZ 22 23 0 6 21<|zA 24 (Zo 6 23)<|zA 25 (Z1 86 24)<|zA 26 (Zt 25)<|.nil
def Ff1 : Sts := zA 27 (zK 3)<|ZZ 28 29 0 1 27<|.op none (.store 1 (.t 29) (.c (.int .i64 (-2))))<|.nil
def Ff2 : Sts := zA 30 (.loadX (.t 4))<|zB 31 0<|zA 32 (Zc .add 31 1)<|zA 33 (.callv (.t 30) [(.t 32)])<|zB 8 33<|.nil
def Cu6 : AT := .q (zC 1 35 (zK 5)<|zC 2 36 (zK 1)<|zD 3 37 0<|zC 4 38 (zH 6 36 37)<|zC 5 39 (zI 0 38)<|zC 6 40 (zI 1 39)<|zC 7 41 (zJ 40)<|zC 8 42 (zH 1 35 41)<|zC 9 43 (zK 42)<|.nil)<|zE 0 34 (.buildSl 3 1 [Zi] [(0, 1, (.c (.int .i64 (-1))))]) false (zF<|zE 10 44 (.append 3 1 8 [Zi] (.t 34) (.t 43)) true (.q (zD 11 9 44<|.nil)<|.fin)<|.no)<|.no
def Ff3 : Sts := zA 45 (zK 6)<|ZZ 46 47 0 1 45<|zA 48 (Zg 47)<|.nil
def Ff4 : Sts := zB 49 9<|zB 50 0<|zA 51 (Z2 114 49 50)<|zB 10 51<|.nil
def Ff5 : Sts := zB 52 9<|zB 53 10<|zA 54 (Zc .sub 53 1)<|zB 55 10<|zA 56 (.slS 1 (.t 52) (some (.t 54)) (some (.t 55)) none)<|zB 9 56<|.nil
def Cu7 : Sts := zB 57 9<|zA 58 (zM 57)<|zG 59 0<|.nil
def Cu8 : Sts := zA 60 (Zb .lss 59 58)<|.nil
def Cu9 : Sts := Zj 61 62 1 57 59<|zB 12 62<|.nil
def Cv0 : Sts := zA 63 (zK 3)<|zB 64 0<|zB 65 12<|zA 66 (zH 1 63 64)<|ZW 66 65<|.nil
def Cv1 : Sts := zA 67 (.loadX (.t 4))<|zB 68 0<|zA 69 (Zc .add 68 1)<|zA 70 (.callv (.t 67) [(.t 69)])<|zA 71 (Zt 70)<|.nil
def Cv2 : Sts := Zm 8 Zf<|.nil
def Cv3 : Sts := zA 72 (Zc .add 59 1)<|zB 59 72<|.nil
def Bd9 : RCode := (Zr Cu8 (.seq (ZX 60 0) (.seq (.block 1 (Zr Cu9 (Zr Cv0 (Zr Cv1 (.cond (.t 71) (Zr Cv2 .ret) .skip))))) (.reg Cv3))))
def Cv4 : Sts := zA 8 (.mv (.c (.bool true)))<|.nil
def Q23 : RFun := ⟨73, [0, 1, 2, 3, 4, 5, 6, 8, 9, 10, 12, 57, 58, 59], (Zr Fe8 (.seq (Zr Fe9 (.cond (.t 16) (.seq (.any Cu5) .ret) .skip)) (.seq (Zr Ff0 (.cond (.t 26) (Zr Ff1 (Zr Ff2 .ret)) .skip)) (.seq (.any Cu6) (.seq (Zr Ff3 (.cond (.t 48) (Zr Ff4 (.reg Ff5)) .skip)) (.seq (Zr Cu7 (.block 0 (.loop Bd9))) (Zr Cv4 .ret))))))), [.tmp 8]⟩
theorem Q23_ok : Al Tryz.prog Q23.V ZQ 112 = some Q23 := by kernel_rfl

def Cv5 : Sts := Zm 2 Zn<|.nil
def Cv6 : Sts := zB 3 0<|zA 4 (.eqS false (.t 3))<|.nil
def Cv7 : Sts := Zm 2 Zn<|.nil
def Cv8 : Sts := zA 5 (.buildSl 3 0 [] [])<|zB 6 0<|zA 7 (.append 3 1 8 [Zi] (.t 5) (.t 6))<|zB 2 7<|.nil
def Dk1 : RFun := ⟨8, [0, 2], (Zr Cv5 (.seq (Zr Cv6 (.cond (.t 4) (Zr Cv7 .ret) .skip)) (Zr Cv8 .ret))), [.tmp 2]⟩
theorem Q111_ok : Al Tryz.prog Dk1.V ZQ 113 = some Dk1 := by kernel_rfl

def Cv9 : Sts := zG 4 0<|.nil
def Cw0 : Sts := zB 6 0<|zA 7 (zM 6)<|zG 8 0<|.nil
def Cw1 : Sts := zA 9 (Zb .lss 8 7)<|.nil
def Cw2 : Sts := zB 10 8<|zB 5 10<|.nil
def Cw3 : Sts := zB 11 1<|zB 12 0<|ZZ 13 14 5 1 12<|zA 15 (zJ 14)<|zA 16 (Zb .eql 11 15)<|.nil
def Cw4 : Sts := zB 17 5<|zB 4 17<|.nil
def Cw5 : Sts := zA 18 (Zc .add 8 1)<|zB 8 18<|.nil
def Be0 : RCode := (Zr Cw1 (.seq (ZX 9 0) (.seq (.block 1 (Zr Cw2 (Zr Cw3 (.cond (.t 16) (Zr Cw4 .ret) .skip)))) (.reg Cw5))))
def Cw6 : Sts := zA 4 (.mv (.c (.int .i64 (-1))))<|.nil
def Dk2 : RFun := ⟨19, [0, 1, 4, 5, 7, 8], (Zr Cv9 (.seq (Zr Cw0 (.block 0 (.loop Be0))) (Zr Cw6 .ret))), [.tmp 4]⟩
theorem Q119_ok : Al Tryz.prog Dk2.V ZQ 114 = some Dk2 := by kernel_rfl

def Cw7 : Sts := Zq 3 151 0<|.nil
def Cw8 : Sts := zA 4 (.alloc 50 [.nilFunc])<|.nil
def Ff6 : Sts := zA 5 (.mkfn 116 [] [(.t 3), (.t 1), (.t 4)])<|ZW 4 5<|.nil
def Ff7 : Sts := zA 6 (.loadX (.t 4))<|zA 7 (zK 2)<|zA 8 (.callv (.t 6) [(.c Zn), (.t 7)])<|.nil
def Q25 : RFun := ⟨9, [0, 1, 2, 3, 4], (Zr Cw7 (Zr Cw8 (Zr Ff6 (.reg Ff7)))), []⟩
theorem Q25_ok : Al Tryz.prog Q25.V ZQ 115 = some Q25 := by kernel_rfl

def Ff8 : Sts := Zm 7 Zf<|.nil
def Ff9 : Sts := zB 11 1<|zA 12 (zM 11)<|zA 13 (Zc .eql 12 0)<|.nil
def Be1 : AT := .q (zC 0 14 (.loadX (.t 2))<|zD 1 15 0<|.nil)<|zE 2 16 (Z1 113 15) false (zF<|zE 3 17 (.callv (.t 14) [(.t 16)]) true (.q (zD 4 7 17<|.nil)<|.fin)<|.no)<|.no
def Fg0 : Sts := zB 18 1<|zA 19 (zM 18)<|zG 20 0<|.nil
def Fg1 : Sts := zA 21 (Zb .lss 20 19)<|.nil
def Fg2 : Sts := zB 22 20<|Zj 23 24 1 18 20<|zA 9 (.alloc 3 [Zi])<|zB 8 22<|ZW 9 24<|.nil
def Fg3 : Sts := zB 25 1<|zB 26 8<|zA 27 (.slS 1 (.t 25) none (some (.t 26)) none)<|zA 28 (.mkfn 118 [] [(.t 3), (.t 9)])<|zA 29 (Z2 117 27 28)<|zB 10 29<|.nil
def Be2 : AT := .q (zD 0 30 10<|zC 1 31 (Zt 30)<|zD 2 32 31<|.nil)<|.br 32 (zF<|.q (zC 3 33 (.loadX (.t 4))<|.nil)<|zF<|.q (zD 4 34 0<|.nil)<|zF<|.q (zC 5 35 (Z1 119 34)<|.nil)<|zF<|.q (zC 6 36 (zJ 9)<|.nil)<|zF<|.q (zD 9 39 1<|.nil)<|zF<|.q (zD 10 40 8<|.nil)<|zF<|.q (zC 11 41 (.slS 1 (.t 39) none (some (.t 40)) none)<|.nil)<|zF<|.q (zD 12 42 1<|.nil)<|zF<|.q (zD 13 43 8<|.nil)<|zF<|.q (zC 14 44 (Zc .add 43 1)<|.nil)<|zF<|.q (zC 15 45 (.slS 1 (.t 42) (some (.t 44)) none none)<|.nil)<|zF<|zE 7 37 (.buildSl 3 1 [Zi] [(0, 1, (.t 36))]) false (zF<|zE 8 38 (.append 3 1 8 [Zi] (.t 35) (.t 37)) false (zF<|zE 16 46 (.buildSl 34 2 [Zn, Zn] [(0, 1, (.t 41)), (1, 1, (.t 45))]) false (zF<|zE 17 47 (Z1 120 46) false (zF<|zE 18 48 (.callv (.t 33) [(.t 38), (.t 47)]) true (.q (.g 32 true (zC 19 49 (Zt 48)<|.nil) 20 50 (.t 49)<|.nil)<|.fin)<|.no)<|.no)<|.no)<|zE 16 46 (.buildSl 34 2 [Zn, Zn] [(0, 1, (.t 41)), (1, 1, (.t 45))]) false (zF<|zE 8 38 (.append 3 1 8 [Zi] (.t 35) (.t 37)) false (zF<|zE 17 47 (Z1 120 46) false (zF<|zE 18 48 (.callv (.t 33) [(.t 38), (.t 47)]) true (.q (.g 32 true (zC 19 49 (Zt 48)<|.nil) 20 50 (.t 49)<|.nil)<|.fin)<|.no)<|.no)<|.no)<|.no)<|zE 16 46 (.buildSl 34 2 [Zn, Zn] [(0, 1, (.t 41)), (1, 1, (.t 45))]) false (zF<|zE 7 37 (.buildSl 3 1 [Zi] [(0, 1, (.t 36))]) false (zF<|zE 8 38 (.append 3 1 8 [Zi] (.t 35) (.t 37)) false (zF<|zE 17 47 (Z1 120 46) false (zF<|zE 18 48 (.callv (.t 33) [(.t 38), (.t 47)]) true (.q (.g 32 true (zC 19 49 (Zt 48)<|.nil) 20 50 (.t 49)<|.nil)<|.fin)<|.no)<|.no)<|.no)<|.no)<|.no)<|zF<|zL 3 33<|zF<|zL 4 34<|zF<|zL 5 35<|zF<|zL 6 36<|zF<|zL 7 37<|zF<|zL 8 38<|zF<|zL 9 39<|zF<|zL 10 40<|zF<|zL 11 41<|zF<|zL 12 42<|zF<|zL 13 43<|zF<|zL 14 44<|zF<|zL 15 45<|zF<|zL 16 46<|zF<|zL 17 47<|zF<|zL 18 48<|.q (.g 32 true (zC 19 49 (Zt 48)<|.nil) 20 50 (.t 49)<|.nil)<|.fin
def Fg4 : Sts := Zm 7 Zf<|.nil
def Fg5 : Sts := zA 51 (Zc .add 20 1)<|zB 20 51<|.nil
def Be3 : RCode := (Zr Fg1 (.seq (ZX 21 0) (.seq (.block 1 (Zr Fg2 (Zr Fg3 (.seq (.any Be2) (.cond (.t 50) (Zr Fg4 .ret) .skip))))) (.reg Fg5))))
def Cw9 : Sts := zA 7 (.mv (.c (.bool true)))<|.nil
def Q26 : RFun := ⟨52, [0, 1, 2, 3, 4, 7, 8, 9, 10, 18, 19, 20], (Zr Ff8 (.seq (Zr Ff9 (.cond (.t 13) (.seq (.any Be1) .ret) .skip)) (.seq (Zr Fg0 (.block 0 (.loop Be3))) (Zr Cw9 .ret)))), [.tmp 7]⟩
theorem Q26_ok : Al Tryz.prog Q26.V ZQ 116 = some Q26 := by kernel_rfl

def Cx0 : Sts := Zm 4 Zf<|.nil
def Cx1 : Sts := zB 5 0<|zB 6 1<|zA 7 (Z2 140 5 6)<|zA 8 (Zc .geq 7 0)<|zB 4 8<|.nil
def Dk3 : RFun := ⟨9, [0, 1, 4], (Zr Cx0 (Zr Cx1 .ret)), [.tmp 4]⟩
theorem Q115_ok : Al Tryz.prog Dk3.V ZQ 117 = some Dk3 := by kernel_rfl

def Fg6 : Sts := Zm 4 Zf<|.nil
def Fg7 : AT := .q (zC 0 5 (zK 1)<|zD 1 6 0<|zC 2 7 (zH 6 5 6)<|zC 3 8 (zI 5 7)<|zC 4 9 (zJ 8)<|zC 5 10 (zK 1)<|zC 6 11 (zJ 2)<|zC 7 12 (zH 6 10 11)<|zC 8 13 (zI 5 12)<|zC 9 14 (zJ 13)<|zC 10 15 (Zb .eql 9 14)<|zD 11 4 15<|.nil)<|.fin
def Q27 : RFun := ⟨16, [0, 1, 2, 4], (Zr Fg6 (.seq (.any Fg7) .ret)), [.tmp 4]⟩
theorem Q27_ok : Al Tryz.prog Q27.V ZQ 118 = some Q27 := by kernel_rfl

def Cx2 : Sts := Zm 2 Zn<|.nil
def Cx3 : Sts := zB 3 0<|zB 4 0<|zA 5 (zM 4)<|zB 6 0<|zA 7 (zM 6)<|zA 8 (.slS 1 (.t 3) none (some (.t 5)) (some (.t 7)))<|zB 2 8<|.nil
def Dk4 : RFun := ⟨9, [0, 2], (Zr Cx2 (Zr Cx3 .ret)), [.tmp 2]⟩
theorem Q109_ok : Al Tryz.prog Dk4.V ZQ 119 = some Dk4 := by kernel_rfl

def Cx4 : Sts := Zm 2 Zn<|.nil
def Cx5 : Sts := zG 3 0<|.nil
def Cx6 : Sts := zB 9 0<|zA 10 (zM 9)<|zG 11 0<|.nil
def Cx7 : Sts := zA 12 (Zb .lss 11 10)<|.nil
def Cx8 : Sts := zA 13 (zH 1 9 11)<|zA 14 (zK 13)<|zB 5 14<|.nil
def Cx9 : Sts := zB 15 3<|zB 16 5<|zA 17 (zM 16)<|zA 18 (Zb .add 15 17)<|zB 3 18<|.nil
def Cy0 : Sts := zB 19 3<|zA 20 (Zc .lss 19 0)<|.nil
def Cy1 : Sts := zA 21 (.bad)<|.op none (.bad)<|.nil
def Cy2 : Sts := zA 22 (Zc .add 11 1)<|zB 11 22<|.nil
def Be4 : RCode := (Zr Cx7 (.seq (ZX 12 0) (.seq (.block 1 (Zr Cx8 (Zr Cx9 (Zr Cy0 (.cond (.t 20) (.reg Cy1) .skip))))) (.reg Cy2))))
def Cy3 : Sts := zB 23 3<|zA 24 (.call 141 [(.c Zn), (.t 23)])<|zB 6 24<|.nil
def Be5 : Sts := zB 25 0<|zA 26 (zM 25)<|zG 27 0<|.nil
def Be6 : Sts := zA 28 (Zb .lss 27 26)<|.nil
def Be7 : Sts := zA 29 (zH 1 25 27)<|zA 30 (zK 29)<|zB 8 30<|.nil
def Be8 : Sts := zB 31 6<|zB 32 8<|zA 33 (.append 3 1 8 [Zi] (.t 31) (.t 32))<|zB 6 33<|.nil
def Be9 : Sts := zA 34 (Zc .add 27 1)<|zB 27 34<|.nil
def Ao7 : RCode := (Zr Be6 (.seq (ZX 28 2) (.seq (.block 3 (Zr Be7 (.reg Be8))) (.reg Be9))))
def Bf0 : Sts := zB 35 6<|zB 2 35<|.nil
def Dk5 : RFun := ⟨36, [0, 2, 3, 5, 6, 8, 9, 10, 11, 25, 26, 27], (Zr Cx4 (Zr Cx5 (.seq (Zr Cx6 (.block 0 (.loop Be4))) (Zr Cy3 (.seq (Zr Be5 (.block 2 (.loop Ao7))) (Zr Bf0 .ret)))))), [.tmp 2]⟩
theorem Q114_ok : Al Tryz.prog Dk5.V ZQ 120 = some Dk5 := by kernel_rfl

def Fg8 : AT := .q (zD 0 6 0<|zD 1 7 1<|zC 2 8 (zH 1 6 7)<|zC 3 9 (.loadI .u32 (.t 8))<|zD 4 10 2<|zC 5 11 (.bin .shl (.c (.int .u32 1)) (.t 10))<|zC 6 12 (Zb .or 9 11)<|zC 7 13 (zH 1 6 7)<|.nil)<|.s 8 none (.store 1 (.t 13) (.t 12)) true (zF<|.fin)<|.no
def Q42 : RFun := ⟨14, [0, 1, 2], (.any Fg8), []⟩
theorem Q42_ok : Al Tryz.prog Q42.V ZQ 121 = some Q42 := by kernel_rfl

def Fg9 : Sts := Zm 2 Zf<|.nil
def Fh0 : Sts := zB 4 0<|zA 5 (zM 4)<|zG 6 0<|.nil
def Fh1 : Sts := zA 7 (Zb .lss 6 5)<|.nil
def Fh2 : Sts := zB 8 6<|zB 3 8<|.nil
def Fh3 : Sts := zB 9 0<|zB 10 3<|zB 11 3<|zA 12 (.call 68 [(.t 9), (.t 10), (.t 11)])<|.nil
def Fh4 : Sts := zA 2 (.mv (.c (.bool true)))<|.nil
def Fh5 : Sts := zA 13 (Zc .add 6 1)<|zB 6 13<|.nil
def Cy4 : RCode := (Zr Fh1 (.seq (ZX 7 0) (.seq (.block 1 (Zr Fh2 (Zr Fh3 (.cond (.t 12) (Zr Fh4 .ret) .skip)))) (.reg Fh5))))
def Fh6 : Sts := Zm 2 Zf<|.nil
def Q39 : RFun := ⟨14, [0, 2, 3, 5, 6], (Zr Fg9 (.seq (Zr Fh0 (.block 0 (.loop Cy4))) (Zr Fh6 .ret))), [.tmp 2]⟩
theorem Q39_ok : Al Tryz.prog Q39.V ZQ 122 = some Q39 := by kernel_rfl

def Fh7 : Sts := Zq 3 45 1<|Zm 4 Zn<|.nil
def Fh8 : Sts := zB 17 0<|zA 18 (Z1 136 17)<|zB 5 18<|.nil
def Fh9 : Sts := ZY 19 20 2 3<|zA 21 (zM 20)<|zG 22 0<|.nil
def Fi0 : Sts := zA 23 (Zb .lss 22 21)<|.nil
def Fi1 : Sts := zA 24 (zH 1 20 22)<|zA 25 (zK 24)<|zB 7 25<|.nil
def Fi2 : Sts := zB 26 7<|zA 27 (zM 26)<|zG 28 0<|.nil
def Fi3 : Sts := zA 29 (Zb .lss 28 27)<|.nil
def Fi4 : Sts := zB 30 28<|Zj 31 32 1 26 28<|zB 8 30<|zB 9 32<|.nil
def Fi5 : Sts := zB 33 7<|zB 34 8<|zA 35 (Zc .add 34 1)<|zA 36 (.slS 1 (.t 33) (some (.t 35)) none none)<|zA 37 (zM 36)<|zG 38 0<|.nil
def Fi6 : Sts := zA 39 (Zb .lss 38 37)<|.nil
def Cy5 : Sts := Zj 40 41 1 36 38<|zB 11 41<|.nil
def Cy6 : Sts := zB 42 5<|zB 43 9<|zB 44 11<|zA 45 (.call 121 [(.t 42), (.t 43), (.t 44)])<|.nil
def Cy7 : Sts := zA 46 (Zc .add 38 1)<|zB 38 46<|.nil
def Bf1 : RCode := (Zr Fi6 (.seq (ZX 39 4) (.seq (.block 5 (Zr Cy5 (.reg Cy6))) (.reg Cy7))))
def Cy8 : Sts := zA 47 (Zc .add 28 1)<|zB 28 47<|.nil
def Bf2 : RCode := (Zr Fi3 (.seq (ZX 29 2) (.seq (.block 3 (Zr Fi4 (Zr Fi5 (.block 4 (.loop Bf1))))) (.reg Cy8))))
def Cy9 : Sts := zA 48 (Zc .add 22 1)<|zB 22 48<|.nil
def Bf3 : RCode := (Zr Fi0 (.seq (ZX 23 0) (.seq (.block 1 (Zr Fi1 (Zr Fi2 (.block 2 (.loop Bf2))))) (.reg Cy9))))
def Cz0 : Sts := ZY 49 50 0 3<|zA 51 (zM 50)<|zG 52 0<|.nil
def Cz1 : Sts := zA 53 (Zb .lss 52 51)<|.nil
def Cz2 : Sts := zB 54 52<|Zj 55 56 1 50 52<|zB 12 54<|zB 13 56<|.nil
def Cz3 : Sts := zB 57 0<|ZZ 58 59 12 6 57<|zA 60 (Zo 6 59)<|zA 61 (Z1 86 60)<|zA 62 (Zt 61)<|.nil
def Cz4 : Sts := zB 63 13<|zA 64 (Zc .geq 63 0)<|.nil
def Cz5 : Sts := zB 65 5<|zB 66 13<|zB 67 12<|zA 68 (.call 121 [(.t 65), (.t 66), (.t 67)])<|.nil
def Cz6 : Sts := zB 69 13<|zA 70 (.bin .eql (.t 69) (.c (.int .i64 (-1))))<|zB 14 70<|.nil
def Cz7 : AT := .q (zC 0 71 (zI 2 3)<|zC 1 72 (zK 71)<|zD 2 73 0<|zD 3 74 12<|zC 4 75 (zH 6 73 74)<|zC 5 76 (zI 0 75)<|zC 6 77 (zI 1 76)<|zC 7 78 (zJ 77)<|zC 8 79 (zH 1 72 78)<|zC 9 80 (zK 79)<|zC 10 81 (zM 80)<|zC 11 82 (.mv (zN 0))<|.nil)<|.fin
def Cz8 : Sts := zA 83 (Zb .lss 82 81)<|.nil
def Cz9 : Sts := Zj 84 85 1 80 82<|zB 16 85<|.nil
def Da0 : Sts := zB 86 14<|zB 87 86<|.cnd 87 true (zB 88 16<|zB 89 12<|zA 90 (Zb .neq 88 89)<|.nil) 91 (.t 90)<|.nil
def Da1 : Sts := zB 92 5<|zB 93 12<|zB 94 16<|zA 95 (.call 121 [(.t 92), (.t 93), (.t 94)])<|.nil
def Da2 : Sts := zB 96 14<|zB 97 96<|.cnd 97 false (zB 98 16<|zB 99 13<|zA 100 (Zb .eql 98 99)<|.nil) 101 (.t 100)<|zB 14 101<|.nil
def Da3 : Sts := zA 102 (Zc .add 82 1)<|zB 82 102<|.nil
def Bf4 : RCode := (Zr Cz8 (.seq (ZX 83 8) (.seq (.block 9 (Zr Cz9 (.seq (Zr Da0 (.cond (.t 91) (.reg Da1) .skip)) (.reg Da2)))) (.reg Da3))))
def Da4 : Sts := zA 103 (Zc .add 52 1)<|zB 52 103<|.nil
def Bf5 : RCode := (Zr Cz1 (.seq (ZX 53 6) (.seq (.block 7 (Zr Cz2 (.seq (Zr Cz3 (Zs 62 7)) (.seq (Zr Cz4 (.cond (.t 64) (.reg Cz5) .skip)) (Zr Cz6 (.seq (.any Cz7) (.block 8 (.loop Bf4)))))))) (.reg Da4))))
def Da5 : Sts := zB 104 5<|zA 105 (Z1 106 104)<|zB 4 105<|.nil
def Q12 : RFun := ⟨106, [0, 1, 3, 4, 5, 7, 8, 9, 11, 12, 13, 14, 16, 20, 21, 22, 26, 27, 28, 36, 37, 38, 50, 51, 52, 80, 81, 82], (Zr Fh7 (Zr Fh8 (.seq (Zr Fh9 (.block 0 (.loop Bf3))) (.seq (Zr Cz0 (.block 6 (.loop Bf5))) (Zr Da5 .ret))))), [.tmp 4]⟩
theorem Q12_ok : Al Tryz.prog Q12.V ZQ 123 = some Q12 := by kernel_rfl

def Da6 : Sts := Zm 2 Zn<|.nil
def Da7 : Sts := zB 3 0<|zA 4 (.eqS false (.t 3))<|.nil
def Da8 : Sts := Zm 2 Zn<|.nil
def Da9 : Sts := zA 5 (.buildSl 4 0 [] [])<|zB 6 0<|zA 7 (.append 4 1 1 [Zf] (.t 5) (.t 6))<|zB 2 7<|.nil
def Dk6 : RFun := ⟨8, [0, 2], (Zr Da6 (.seq (Zr Da7 (.cond (.t 4) (Zr Da8 .ret) .skip)) (Zr Da9 .ret))), [.tmp 2]⟩
theorem Q110_ok : Al Tryz.prog Dk6.V ZQ 124 = some Dk6 := by kernel_rfl

def Fi7 : Sts := zG 4 0<|.nil
def Fi8 : Sts := zB 7 0<|zA 8 (Z1 152 7)<|zB 5 8<|.nil
def Fi9 : Sts := zB 9 1<|zA 10 (Z1 152 9)<|zB 6 10<|.nil
def Fj0 : Sts := zB 11 5<|.nil
def Fj1 : Sts := zB 12 6<|.nil
def Fj2 : Sts := zG 4 0<|.nil
def Fj3 : Sts := zA 4 (.mv (.c (.int .i64 (-1))))<|.nil
def Fj4 : Sts := zB 13 6<|.nil
def Fj5 : Sts := zG 4 1<|.nil
def Fj6 : Sts := zB 14 0<|zB 15 1<|zA 16 (Zb .lss 14 15)<|.nil
def Db0 : Sts := zA 4 (.mv (.c (.int .i64 (-1))))<|.nil
def Db1 : Sts := zB 17 0<|zB 18 1<|zA 19 (Zb .gtr 17 18)<|.nil
def Db2 : Sts := zG 4 1<|.nil
def Db3 : Sts := zG 4 0<|.nil
def Q43 : RFun := ⟨20, [0, 1, 4, 5, 6], (Zr Fi7 (Zr Fi8 (Zr Fi9 (.seq (Zr Fj0 (.cond (.t 11) (.seq (Zr Fj1 (.cond (.t 12) (Zr Fj2 .ret) .skip)) (Zr Fj3 .ret)) .skip)) (.seq (Zr Fj4 (.cond (.t 13) (Zr Fj5 .ret) .skip)) (.seq (Zr Fj6 (.cond (.t 16) (Zr Db0 .ret) .skip)) (.seq (Zr Db1 (.cond (.t 19) (Zr Db2 .ret) .skip)) (Zr Db3 .ret)))))))), [.tmp 4]⟩
theorem Q43_ok : Al Tryz.prog Q43.V ZQ 127 = some Q43 := by kernel_rfl

def Fj7 : Sts := Zq 1 83 0<|zG 2 0<|.nil
def Fj8 : Sts := Zy 3 4 4 1<|zA 5 (Zc .neq 4 4)<|.nil
def Fj9 : Sts := Zy 6 7 4 1<|zB 2 7<|.nil
def Fk0 : Sts := Zy 8 9 0 1<|zA 10 (Zc .eql 9 0)<|.nil
def Fk1 : Sts := zG 2 1<|.nil
def Fk2 : Sts := Zy 11 12 0 1<|zA 13 (Zc .eql 12 1)<|.nil
def Fk3 : Sts := zG 2 2<|.nil
def Fk4 : Sts := zG 2 3<|.nil
def Q72 : RFun := ⟨14, [0, 1, 2], (Zr Fj7 (.seq (Zr Fj8 (.cond (.t 5) (Zr Fj9 .ret) .skip)) (.seq (Zr Fk0 (.cond (.t 10) (Zr Fk1 .ret) .skip)) (.seq (Zr Fk2 (.cond (.t 13) (Zr Fk3 .ret) .skip)) (Zr Fk4 .ret))))), [.tmp 2]⟩
theorem Q72_ok : Al Tryz.prog Q72.V ZQ 128 = some Q72 := by kernel_rfl

def Fk5 : Sts := zB 10 1<|zA 11 (Zc .eql 10 3)<|.nil
def Fk6 : Sts := zB 12 0<|zA 13 (Z1 153 12)<|.nil
def Fk7 : Sts := zG 4 0<|.nil
def Fk8 : Sts := zA 5 (.mv (.c (.int .i64 (-1))))<|.nil
def Fk9 : Sts := zA 6 (.alloc 141 [Zf, Zf, Zf, Zf, Zf, Zf, Zf, Zf, Zf, Zf, Zf, Zf, Zf, Zf, Zf, Zf])<|.nil
def Db4 : Sts := zG 7 0<|.nil
def Fl0 : Sts := zB 14 7<|ZO 15 16 17 0 2<|ZY 18 19 2 17<|ZZ 20 21 1 1 19<|zA 22 (zK 21)<|zA 23 (zM 22)<|zA 24 (Zb .lss 14 23)<|.nil
def Fl1 : Sts := ZO 27 28 29 0 2<|ZY 30 31 2 29<|ZZ 32 33 1 1 31<|zA 34 (zK 33)<|ZZ 35 36 7 1 34<|zA 37 (zJ 36)<|zB 5 37<|.nil
def Fl2 : Sts := zB 38 5<|zA 39 (.iaddrA 16 1 (.t 6) (.t 38))<|.op none (.store 1 (.t 39) (.c (.bool true)))<|.nil
def Fl3 : Sts := Zu 25 7 26
def Ag4 : RCode := (.seq (Zr Fl0 (ZX 24 0)) (.seq (.block 1 (Zr Fl1 (.reg Fl2))) (.reg Fl3)))
def Db5 : Sts := zG 8 0<|.nil
def Db6 : Sts := zB 40 8<|ZP 41 42 43 44 0 1<|zA 45 (zM 44)<|zA 46 (Zb .lss 40 45)<|.nil
def Db7 : Sts := ZO 49 50 51 0 2<|ZY 52 53 1 51<|ZZ 54 55 8 1 53<|zA 56 (Zg 55)<|zA 57 (Zt 56)<|zB 58 57<|.cnd 58 false (ZP 59 60 61 62 0 1<|ZZ 63 64 8 6 62<|zA 65 (zI 1 64)<|Zy 66 67 1 65<|zB 68 1<|zA 69 (Zb .neq 67 68)<|.nil) 70 (.t 69)<|zB 71 70<|.cnd 71 false (zB 72 8<|zA 73 (.iaddrA 16 1 (.t 6) (.t 72))<|zA 74 (Zg 73)<|.nil) 75 (.t 74)<|.nil
def Db8 : Sts := Zu 76 4 77
def Db9 : Sts := ZP 78 79 80 81 0 1<|ZZ 82 83 8 6 81<|zA 84 (zI 1 83)<|zA 85 (Zo 5 84)<|zA 86 (Z1 56 85)<|zB 87 86<|.cnd 87 true (ZO 88 89 90 0 2<|ZY 91 92 0 90<|ZZ 93 94 8 1 92<|zA 95 (zJ 94)<|zB 96 5<|zA 97 (Zb .neq 95 96)<|.nil) 98 (.t 97)<|.nil
def At6 : Sts := ZO 99 100 101 0 2<|ZY 102 103 2 101<|ZZ 104 105 1 1 103<|zA 106 (zK 105)<|zB 9 106<|.nil
def Ag5 : AT := .q (zD 0 107 0<|zC 1 108 (Zk 107)<|zC 2 109 (zI 2 108)<|zC 3 110 (zI 2 109)<|zC 4 111 (zK 110)<|zD 5 112 1<|zD 6 113 9<|zD 8 115 8<|.nil)<|zE 7 114 (Z1 154 113) false (zF<|zE 9 116 (.buildSl 3 1 [Zi] [(0, 1, (.t 115))]) false (zF<|zE 10 117 (.append 3 1 8 [Zi] (.t 114) (.t 116)) false (.q (zC 11 118 (zH 1 111 112)<|.nil)<|.s 12 none (.store 1 (.t 118) (.t 117)) true (zF<|.fin)<|.no)<|.no)<|.no)<|zE 9 116 (.buildSl 3 1 [Zi] [(0, 1, (.t 115))]) false (zF<|zE 7 114 (Z1 154 113) false (zF<|zE 10 117 (.append 3 1 8 [Zi] (.t 114) (.t 116)) false (.q (zC 11 118 (zH 1 111 112)<|.nil)<|.s 12 none (.store 1 (.t 118) (.t 117)) true (zF<|.fin)<|.no)<|.no)<|.no)<|.no
def At7 : Sts := zB 119 0<|zB 120 1<|zA 121 (Z2 129 119 120)<|.nil
def At8 : Sts := ZO 122 123 124 0 2<|ZY 125 126 2 124<|zB 127 1<|zB 128 9<|zA 129 (zH 1 126 127)<|ZW 129 128<|.nil
def Dc0 : Sts := Zu 47 8 48
def Bf6 : RCode := (.seq (Zr Db6 (ZX 46 2)) (.seq (.block 3 (.seq (Zr Db7 (Zs 75 3)) (Zr Db8 (.seq (Zr Db9 (Zs 98 3)) (Zr At6 (.seq (.any Ag5) (Zr At7 (.reg At8)))))))) (.reg Dc0)))
def Dc1 : Sts := zB 130 4<|zA 131 (Zc .eql 130 0)<|.nil
def Dc2 : Sts := zB 132 0<|zB 133 1<|zA 134 (Zc .add 133 1)<|zA 135 (Z2 129 132 134)<|.nil
def Q81 : RFun := ⟨136, [0, 1, 4, 5, 6, 7, 8, 9], (.seq (Zr Fk5 (.cond (.t 11) (Zr Fk6 .ret) .skip)) (Zr Fk7 (Zr Fk8 (Zr Fk9 (.seq (Zr Db4 (.block 0 (.loop Ag4))) (.seq (Zr Db5 (.block 2 (.loop Bf6))) (Zr Dc1 (.cond (.t 131) (.reg Dc2) .skip)))))))), []⟩
theorem Q81_ok : Al Tryz.prog Q81.V ZQ 129 = some Q81 := by kernel_rfl

def Fl4 : Sts := Zm 2 Zf<|.nil
def Fl5 : Sts := zB 3 0<|zA 4 (Z1 155 3)<|zA 5 (Zc .and 4 2)<|zA 6 (Zc .eql 5 2)<|zB 2 6<|.nil
def Q66 : RFun := ⟨7, [0, 2], (Zr Fl4 (Zr Fl5 .ret)), [.tmp 2]⟩
theorem Q66_ok : Al Tryz.prog Q66.V ZQ 130 = some Q66 := by kernel_rfl

def Fl6 : Sts := Zm 2 Zf<|.nil
def Fl7 : Sts := zB 3 0<|zA 4 (Z1 155 3)<|zA 5 (Zc .and 4 1)<|zA 6 (Zc .eql 5 1)<|zB 2 6<|.nil
def Q64 : RFun := ⟨7, [0, 2], (Zr Fl6 (Zr Fl7 .ret)), [.tmp 2]⟩
theorem Q64_ok : Al Tryz.prog Q64.V ZQ 131 = some Q64 := by kernel_rfl

def Dc3 : Sts := zG 2 0<|.nil
def Dc4 : Sts := zB 3 0<|zA 4 (Zc .eql 3 4)<|.nil
def Dc5 : Sts := zG 2 7<|.nil
def Dc6 : Sts := zB 5 0<|zB 2 5<|.nil
def Dk7 : RFun := ⟨6, [0, 2], (Zr Dc3 (.seq (Zr Dc4 (.cond (.t 4) (Zr Dc5 .ret) .skip)) (Zr Dc6 .ret))), [.tmp 2]⟩
theorem Q106_ok : Al Tryz.prog Dk7.V ZQ 132 = some Dk7 := by kernel_rfl

def Fl8 : Sts := Zm 2 Zn<|.nil
def Fl9 : Sts := zB 3 0<|zA 4 (zM 3)<|zA 5 (.makeSl 144 1 4 [(.int .u32 0)] (.t 4) (.t 4))<|zB 2 5<|.nil
def Q33 : RFun := ⟨6, [0, 2], (Zr Fl8 (Zr Fl9 .ret)), [.tmp 2]⟩
theorem Q33_ok : Al Tryz.prog Q33.V ZQ 136 = some Q33 := by kernel_rfl

def Fw1 : Sts := Zq 1 121 0<|Zm 2 Zf<|.nil
def Fw2 : Sts := zA 6 (zI 0 1)<|Zy 7 8 4 6<|zA 9 (Z1 158 8)<|zB 5 9<|zA 10 (Zx 0 5)<|zA 11 (Zx 1 5)<|zB 3 10<|zB 4 11<|.nil
def Fw3 : Sts := zB 12 3<|zB 2 12<|.nil
def Q7 : RFun := ⟨13, [0, 1, 2, 3], (Zr Fw1 (Zr Fw2 (Zr Fw3 .ret))), [.tmp 2]⟩
theorem Q7_ok : Al Tryz.prog Q7.V ZQ 137 = some Q7 := by kernel_rfl

def Fw4 : Sts := Zq 1 121 0<|Zm 2 Zf<|.nil
def Fw5 : Sts := zA 6 (zI 0 1)<|Zy 7 8 4 6<|zA 9 (Z1 159 8)<|zB 5 9<|zA 10 (Zx 0 5)<|zA 11 (Zx 1 5)<|zB 3 10<|zB 4 11<|.nil
def Fw6 : Sts := zB 12 3<|zB 2 12<|.nil
def Q5 : RFun := ⟨13, [0, 1, 2, 3], (Zr Fw4 (Zr Fw5 (Zr Fw6 .ret))), [.tmp 2]⟩
theorem Q5_ok : Al Tryz.prog Q5.V ZQ 138 = some Q5 := by kernel_rfl

def Fm0 : Sts := Zm 5 Zf<|.nil
def Fm1 : AT := .q (zC 0 6 (zK 1)<|zD 1 7 0<|zC 2 8 (zH 6 6 7)<|zC 3 9 (zI 0 8)<|zC 4 10 (zI 0 9)<|zC 5 11 (zJ 10)<|zC 6 12 (Zc .neq 11 5)<|zD 7 13 12<|.g 13 true (zC 8 14 (zK 2)<|zD 9 15 0<|zC 10 16 (zH 1 14 15)<|zC 11 17 (Zg 16)<|.nil) 12 18 (.t 17)<|zD 13 19 18<|.g 19 true (zC 14 20 (zK 1)<|zD 15 21 0<|zC 16 22 (zH 6 20 21)<|zC 17 23 (zI 0 22)<|zC 18 24 (zI 1 23)<|zC 19 25 (zJ 24)<|zC 20 26 (zJ 3)<|zC 21 27 (Zb .eql 25 26)<|.nil) 22 28 (.t 27)<|zD 23 5 28<|.nil)<|.fin
def Q38 : RFun := ⟨29, [0, 1, 2, 3, 5], (Zr Fm0 (.seq (.any Fm1) .ret)), [.tmp 5]⟩
theorem Q38_ok : Al Tryz.prog Q38.V ZQ 139 = some Q38 := by kernel_rfl

def Dc7 : Sts := zG 4 0<|.nil
def Dc8 : Sts := zB 6 0<|zA 7 (zM 6)<|zG 8 0<|.nil
def Dc9 : Sts := zA 9 (Zb .lss 8 7)<|.nil
def Dd0 : Sts := zB 10 8<|zB 5 10<|.nil
def Dd1 : Sts := zB 11 1<|zB 12 0<|ZZ 13 14 5 1 12<|zA 15 (zJ 14)<|zA 16 (.callv (.t 11) [(.t 15)])<|.nil
def Dd2 : Sts := zB 17 5<|zB 4 17<|.nil
def Dd3 : Sts := zA 18 (Zc .add 8 1)<|zB 8 18<|.nil
def Bf7 : RCode := (Zr Dc9 (.seq (ZX 9 0) (.seq (.block 1 (Zr Dd0 (Zr Dd1 (.cond (.t 16) (Zr Dd2 .ret) .skip)))) (.reg Dd3))))
def Dd4 : Sts := zA 4 (.mv (.c (.int .i64 (-1))))<|.nil
def Dk8 : RFun := ⟨19, [0, 1, 4, 5, 7, 8], (Zr Dc7 (.seq (Zr Dc8 (.block 0 (.loop Bf7))) (Zr Dd4 .ret))), [.tmp 4]⟩
theorem Q118_ok : Al Tryz.prog Dk8.V ZQ 140 = some Dk8 := by kernel_rfl

def Dd5 : Sts := Zm 4 Zn<|.nil
def Dd6 : Sts := zB 5 1<|zA 6 (Zc .lss 5 0)<|.nil
def Dd7 : Sts := zA 7 (.bad)<|.op none (.bad)<|.nil
def Dd8 : Sts := zB 8 1<|zB 9 0<|zA 10 (.cap (.t 9))<|zB 11 0<|zA 12 (zM 11)<|zA 13 (Zb .sub 10 12)<|zA 14 (Zb .sub 8 13)<|zB 1 14<|.nil
def Dd9 : Sts := zB 15 1<|zA 16 (Zc .gtr 15 0)<|.nil
def De0 : Sts := zB 17 0<|zB 18 0<|zA 19 (.cap (.t 18))<|zA 20 (.slS 1 (.t 17) none (some (.t 19)) none)<|zB 21 1<|zA 22 (.appendZ 3 1 8 [Zi] (.t 20) (.t 21))<|zB 23 0<|zA 24 (zM 23)<|zA 25 (.slS 1 (.t 22) none (some (.t 24)) none)<|zB 0 25<|.nil
def De1 : Sts := zB 26 0<|zB 4 26<|.nil
def Dk9 : RFun := ⟨27, [0, 1, 4], (Zr Dd5 (.seq (Zr Dd6 (.cond (.t 6) (.reg Dd7) .skip)) (.seq (Zr Dd8 (Zr Dd9 (.cond (.t 16) (.reg De0) .skip))) (Zr De1 .ret)))), [.tmp 4]⟩
theorem Q117_ok : Al Tryz.prog Dk9.V ZQ 141 = some Dk9 := by kernel_rfl

def Fm2 : Sts := Zm 2 Zf<|.nil
def Fm3 : Sts := zB 3 0<|zB 4 0<|zA 5 (Zb .neq 3 4)<|zB 2 5<|.nil
def Q44 : RFun := ⟨6, [0, 2], (Zr Fm2 (Zr Fm3 .ret)), [.tmp 2]⟩
theorem Q44_ok : Al Tryz.prog Q44.V ZQ 152 = some Q44 := by kernel_rfl

def Fm4 : Sts := ZO 2 3 4 0 2<|zA 5 (zI 3 4)<|.op none (.store 1 (.t 5) (.c Zn))<|.nil
def De2 : AT := .q (zD 0 6 0<|zC 1 7 (Zk 6)<|zC 2 8 (zI 1 7)<|zC 3 9 (zK 8)<|zD 4 10 0<|zC 5 11 (Zk 10)<|zC 6 12 (zI 2 11)<|zC 7 13 (Zo 4 12)<|zD 9 15 0<|zC 10 16 (Zk 15)<|zC 11 17 (zI 1 16)<|zC 12 18 (zK 17)<|zD 13 19 0<|zC 14 20 (Zk 19)<|zC 15 21 (zI 2 20)<|zC 16 22 (Zo 4 21)<|.nil)<|zE 8 14 (Z2 53 9 13) false (zF<|zE 17 23 (Z2 54 18 22) true (zF<|zE 18 24 (Z2 52 14 23) true (.q (zC 19 25 (Zt 24)<|.nil)<|.fin)<|.no)<|.no)<|.no
def Fm5 : Sts := zB 26 0<|zA 27 (Z1 165 26)<|.nil
def Q82 : RFun := ⟨28, [0], (Zr Fm4 (.seq (.any De2) (.cond (.t 25) (.reg Fm5) .skip))), []⟩
theorem Q82_ok : Al Tryz.prog Q82.V ZQ 153 = some Q82 := by kernel_rfl

def Fm6 : Sts := Zm 2 Zn<|.nil
def Fm7 : Sts := zA 3 (.buildSl 3 0 [] [])<|zB 4 0<|zA 5 (.append 3 1 8 [Zi] (.t 3) (.t 4))<|zB 2 5<|.nil
def Q57 : RFun := ⟨6, [0, 2], (Zr Fm6 (Zr Fm7 .ret)), [.tmp 2]⟩
theorem Q57_ok : Al Tryz.prog Q57.V ZQ 154 = some Q57 := by kernel_rfl

def Fm8 : Sts := zG 2 0<|.nil
def Fm9 : Sts := zA 3 (.buildSl 3 5 [Zi, Zi, Zi, Zi, Zi] [(0, 1, (zN 0)), (1, 1, (zN 1)), (2, 1, (zN 2)), (3, 1, (zN 3)), (4, 1, (zN 7))])<|ZZ 4 5 0 1 3<|zA 6 (zJ 5)<|zB 2 6<|.nil
def Q65 : RFun := ⟨7, [0, 2], (Zr Fm8 (Zr Fm9 .ret)), [.tmp 2]⟩
theorem Q65_ok : Al Tryz.prog Q65.V ZQ 155 = some Q65 := by kernel_rfl

def De3 : Sts := Zm 2 Zf<|zG 3 0<|.nil
def De4 : Sts := zB 4 0<|zA 5 (Z1 96 4)<|zA 6 (Zt 5)<|.nil
def De5 : Sts := Zm 2 Zf<|zG 3 1<|.nil
def De6 : Sts := zB 7 0<|zA 8 (Z1 132 7)<|zA 9 (Zc .and 8 2)<|zA 10 (Zc .neq 9 0)<|zB 2 10<|zG 3 0<|.nil
def Dl0 : RFun := ⟨11, [0, 2, 3], (Zr De3 (.seq (Zr De4 (.cond (.t 6) (Zr De5 .ret) .skip)) (Zr De6 .ret))), [.tmp 2, .tmp 3]⟩
theorem Q105_ok : Al Tryz.prog Dl0.V ZQ 158 = some Dl0 := by kernel_rfl

def De7 : Sts := Zm 2 Zf<|zG 3 0<|.nil
def De8 : Sts := zB 4 0<|zA 5 (Z1 96 4)<|zA 6 (Zt 5)<|.nil
def De9 : Sts := Zm 2 Zf<|zG 3 1<|.nil
def Df0 : Sts := zB 7 0<|zA 8 (Z1 132 7)<|zA 9 (Zc .and 8 1)<|zA 10 (Zc .neq 9 0)<|zB 2 10<|zG 3 0<|.nil
def Dl1 : RFun := ⟨11, [0, 2, 3], (Zr De7 (.seq (Zr De8 (.cond (.t 6) (Zr De9 .ret) .skip)) (Zr Df0 .ret))), [.tmp 2, .tmp 3]⟩
theorem Q102_ok : Al Tryz.prog Dl1.V ZQ 159 = some Dl1 := by kernel_rfl

def Fn0 : Sts := zG 2 0<|.nil
def Fn1 : Sts := ZO 7 8 9 0 2<|ZY 10 11 3 9<|zB 3 11<|.nil
def Fn2 : Sts := zG 4 0<|.nil
def Fn3 : Sts := zB 12 4<|ZP 13 14 15 16 0 1<|zA 17 (zM 16)<|zA 18 (Zb .lss 12 17)<|.nil
def Fn4 : Sts := ZP 21 22 23 24 0 1<|ZZ 25 26 4 6 24<|zA 27 (zI 1 26)<|zA 28 (Zo 5 27)<|zA 29 (Z1 94 28)<|zA 30 (Zt 29)<|zB 31 30<|.cnd 31 false (zB 32 3<|zB 33 4<|zA 34 (Z2 170 32 33)<|.nil) 35 (.t 34)<|.nil
def Fn5 : Sts := Zu 36 2 37
def Fn6 : Sts := zA 5 (.mv (.c (.bool true)))<|.nil
def Df1 : Sts := zG 6 0<|.nil
def Fn7 : Sts := zB 38 6<|zB 39 4<|zA 40 (Zb .lss 38 39)<|.nil
def Df2 : AT := .q (zD 0 43 0<|zC 1 44 (Zk 43)<|zC 2 45 (zI 1 44)<|zC 3 46 (zK 45)<|zD 4 47 6<|zC 5 48 (zH 6 46 47)<|zC 6 49 (zI 1 48)<|zC 7 50 (Zo 5 49)<|zC 8 51 (Z1 94 50)<|zD 9 52 51<|.g 52 true (zD 10 53 0<|zC 11 54 (Zk 53)<|zC 12 55 (zI 1 54)<|zC 13 56 (zK 55)<|zD 14 57 6<|zC 15 58 (zH 6 56 57)<|zC 16 59 (zI 0 58)<|zC 17 60 (zJ 59)<|zD 18 61 0<|zC 19 62 (Zk 61)<|zC 20 63 (zI 1 62)<|zC 21 64 (zK 63)<|zD 22 65 4<|zC 23 66 (zH 6 64 65)<|zC 24 67 (zI 0 66)<|zC 25 68 (zJ 67)<|zC 26 69 (Zb .eql 60 68)<|.nil) 27 70 (.t 69)<|zD 28 71 70<|.g 71 true (zD 29 72 3<|zD 30 73 6<|zC 31 74 (Z2 170 72 73)<|zC 32 75 (Zt 74)<|.nil) 33 76 (.t 75)<|.nil)<|.fin
def Df3 : Sts := Zm 5 Zf<|.nil
def Df4 : Sts := Zu 41 6 42
def Ag6 : RCode := (.seq (Zr Fn7 (ZX 40 2)) (.seq (.block 3 (.seq (.any Df2) (.cond (.t 76) (.reg Df3) .skip))) (.reg Df4)))
def Df5 : Sts := zB 77 5<|.nil
def Df6 : Sts := zB 78 0<|zB 79 3<|zA 80 (Z1 154 79)<|zB 81 4<|zA 82 (.buildSl 3 1 [Zi] [(0, 1, (.t 81))])<|zA 83 (.append 3 1 8 [Zi] (.t 80) (.t 82))<|zA 84 (Zk 78)<|zA 85 (zI 2 84)<|zA 86 (zI 3 85)<|ZW 86 83<|.nil
def Df7 : Sts := zB 87 0<|zA 88 (Z1 165 87)<|.nil
def Df8 : Sts := zB 89 0<|zB 90 3<|zA 91 (Zk 89)<|zA 92 (zI 2 91)<|zA 93 (zI 3 92)<|ZW 93 90<|.nil
def Df9 : Sts := Zu 19 4 20
def Bf8 : RCode := (.seq (Zr Fn3 (ZX 18 0)) (.seq (.block 1 (.seq (Zr Fn4 (Zs 35 1)) (Zr Fn5 (Zr Fn6 (.seq (Zr Df1 (.block 2 (.loop Ag6))) (Zr Df5 (.cond (.t 77) (Zr Df6 (Zr Df7 (.reg Df8))) .skip))))))) (.reg Df9)))
def Dg0 : Sts := zB 94 2<|zA 95 (Zc .eql 94 0)<|.nil
def Dg1 : Sts := zB 96 0<|zA 97 (Z1 171 96)<|.nil
def Q79 : RFun := ⟨98, [0, 2, 3, 4, 5, 6], (Zr Fn0 (Zr Fn1 (.seq (Zr Fn2 (.block 0 (.loop Bf8))) (Zr Dg0 (.cond (.t 95) (.reg Dg1) .skip))))), []⟩
theorem Q79_ok : Al Tryz.prog Q79.V ZQ 165 = some Q79 := by kernel_rfl

def Fn8 : Sts := Zm 4 Zf<|.nil
def Fn9 : Sts := zG 5 0<|.nil
def Fo0 : Sts := Zl 6 5 7 0 8 9
def Fo2 : Sts := zB 12 0<|ZZ 13 14 5 1 12<|zA 15 (zJ 14)<|zB 16 1<|zA 17 (Zb .eql 15 16)<|.nil
def Fo3 : Sts := zA 4 (.mv (.c (.bool true)))<|.nil
def Fo4 : Sts := Zu 10 5 11
def Dg2 : RCode := (.seq (Zr Fo0 (ZX 9 0)) (.seq (.block 1 (Zr Fo2 (.cond (.t 17) (Zr Fo3 .ret) .skip))) (.reg Fo4)))
def Fo5 : Sts := Zm 4 Zf<|.nil
def Q59 : RFun := ⟨18, [0, 1, 4, 5], (Zr Fn8 (.seq (Zr Fn9 (.block 0 (.loop Dg2))) (Zr Fo5 .ret))), [.tmp 4]⟩
theorem Q59_ok : Al Tryz.prog Q59.V ZQ 170 = some Q59 := by kernel_rfl

def Dg3 : AT := .q (zD 0 2 0<|zC 1 3 (Zk 2)<|zC 2 4 (zI 1 3)<|zC 3 5 (zK 4)<|zD 5 7 0<|zC 6 8 (Zk 7)<|zC 7 9 (zI 1 8)<|zC 8 10 (zK 9)<|zD 9 11 0<|zC 10 12 (Zk 11)<|zC 11 13 (zI 2 12)<|zC 12 14 (Zo 4 13)<|zD 14 16 0<|zC 15 17 (Zk 16)<|zC 16 18 (zI 2 17)<|zC 17 19 (Zo 4 18)<|.nil)<|zE 4 6 (Z1 49 5) false (zF<|zE 13 15 (Z2 50 10 14) false (zF<|zE 18 20 (Z1 51 19) true (zF<|zE 19 21 (Z2 48 15 20) true (zF<|zE 20 22 (Z2 48 6 21) true (zF<|zE 21 23 (Z1 47 22) true (zF<|zE 22 24 (Z1 46 23) true (.q (zD 23 25 24<|.nil)<|.br 25 (zF<|zL 24 26<|zF<|zL 25 27<|zF<|zL 26 28<|zF<|zL 27 29<|zF<|zL 28 30<|zF<|zL 29 31<|zF<|zL 30 32<|zF<|zL 31 33<|zF<|zL 32 34<|zF<|zL 33 35<|zF<|zL 34 36<|zF<|zL 35 37<|zF<|zL 36 38<|zF<|zL 37 39<|zF<|zL 38 40<|zF<|zL 39 41<|zF<|zL 40 42<|zF<|zL 41 43<|zF<|zL 42 44<|.q (zC 43 45 (.pick (.t 25) (.c (.bool true)) (.t 44))<|.nil)<|.fin)<|zF<|.q (zD 24 26 0<|.nil)<|zF<|.q (zC 25 27 (Zk 26)<|.nil)<|zF<|.q (zC 26 28 (zI 1 27)<|.nil)<|zF<|.q (zC 27 29 (zK 28)<|.nil)<|zF<|.q (zD 28 30 0<|.nil)<|zF<|.q (zC 29 31 (Zk 30)<|.nil)<|zF<|.q (zC 30 32 (zI 2 31)<|.nil)<|zF<|.q (zC 31 33 (Zo 4 32)<|.nil)<|zF<|.q (zD 33 35 0<|.nil)<|zF<|.q (zC 34 36 (Zk 35)<|.nil)<|zF<|.q (zC 35 37 (zI 1 36)<|.nil)<|zF<|.q (zC 36 38 (zK 37)<|.nil)<|zF<|.q (zD 37 39 0<|.nil)<|zF<|.q (zC 38 40 (Zk 39)<|.nil)<|zF<|.q (zC 39 41 (zI 2 40)<|.nil)<|zF<|.q (zC 40 42 (Zo 4 41)<|.nil)<|zF<|zE 32 34 (Z2 53 29 33) false (zF<|zE 41 43 (Z2 54 38 42) true (zF<|zE 42 44 (Z2 52 34 43) true (.q (zC 43 45 (.pick (.t 25) (.c (.bool true)) (.t 44))<|.nil)<|.fin)<|.no)<|.no)<|.no)<|.no)<|.no)<|.no)<|.no)<|.no)<|.no)<|.no
def Dg4 : AT := .q (zD 0 46 0<|zD 1 47 0<|zC 2 48 (Zk 47)<|zC 3 49 (zI 6 48)<|zC 4 50 (zK 49)<|zD 5 51 0<|zC 6 52 (Zk 51)<|zC 7 53 (zI 0 52)<|zC 8 54 (Zo 1 53)<|zD 9 55 0<|zC 10 56 (Zk 55)<|zC 11 57 (zI 2 56)<|zC 12 58 (Zo 4 57)<|.nil)<|zE 13 59 (Z2 21 54 58) false (zF<|zE 14 60 (Z2 174 50 59) false (.q (zC 15 61 (Zk 46)<|zC 16 62 (zI 6 61)<|.nil)<|.s 17 none (.store 1 (.t 62) (.t 60)) true (zF<|.fin)<|.no)<|.no)<|.no
def Fo6 : AT := .q (zD 0 63 0<|zC 1 64 (Zk 63)<|zC 2 65 (zI 7 64)<|zC 3 66 (zJ 65)<|zD 4 67 0<|zC 5 68 (Zk 67)<|zC 6 69 (zI 8 68)<|zC 7 70 (zJ 69)<|zC 8 71 (Zb .leq 66 70)<|.nil)<|.fin
def Fo7 : Sts := zB 72 0<|ZO 73 74 75 0 2<|zA 76 (Zo 4 75)<|zA 77 (Z1 175 76)<|zA 78 (Zk 72)<|zA 79 (zI 9 78)<|Zw 4 79 77<|.nil
def Fo8 : Sts := ZO 80 81 82 0 7<|zA 83 (zJ 82)<|zA 84 (Zc .add 83 1)<|zA 85 (Zk 80)<|zA 86 (zI 7 85)<|ZW 86 84<|.nil
def Q80 : RFun := ⟨87, [0], (.seq (.seq (.any Dg3) (.cond (.t 45) .ret .skip)) (.seq (.any Dg4) (.seq (.seq (.any Fo6) (.cond (.t 71) (.reg Fo7) .skip)) (.reg Fo8)))), []⟩
theorem Q80_ok : Al Tryz.prog Q80.V ZQ 171 = some Q80 := by kernel_rfl

def Fo9 : Sts := Zm 4 Zn<|.nil
def Fp0 : Sts := zG 5 0<|.nil
def Fp1 : Sts := zB 9 0<|zA 10 (zM 9)<|zB 6 10<|.nil
def Fp2 : Sts := zB 11 5<|zB 12 6<|zA 13 (Zb .lss 11 12)<|.nil
def Fp3 : Sts := zB 14 5<|zB 15 6<|zA 16 (Zb .add 14 15)<|zA 17 (Zc .quo 16 2)<|zB 7 17<|.nil
def Fp4 : Sts := zB 18 0<|ZZ 19 20 7 1 18<|zA 21 (zK 20)<|zB 22 1<|zA 23 (Z2 31 21 22)<|.nil
def Fp5 : Sts := zB 24 7<|zA 25 (Zc .add 24 1)<|zB 5 25<|.nil
def Fp6 : Sts := zB 26 7<|zB 6 26<|.nil
def Dg5 : RCode := (.seq (Zr Fp2 (ZX 13 0)) (.block 1 (Zr Fp3 (Zr Fp4 (.cond (.t 23) (.reg Fp5) (.reg Fp6))))))
def Fp7 : Sts := zB 27 5<|zB 28 0<|zA 29 (zM 28)<|zA 30 (Zb .lss 27 29)<|zB 31 30<|.cnd 31 true (zB 32 0<|ZZ 33 34 5 1 32<|zA 35 (zK 34)<|zB 36 1<|zA 37 (Z2 20 35 36)<|.nil) 38 (.t 37)<|.nil
def Fp8 : Sts := zB 39 0<|zB 4 39<|.nil
def Dg6 : Sts := zB 40 0<|zA 41 (.buildSl 34 1 [Zn] [(0, 1, (.c Zn))])<|zA 42 (.append 34 1 24 [Zn] (.t 40) (.t 41))<|zB 0 42<|.nil
def At9 : Sts := zB 43 0<|zA 44 (zM 43)<|zA 45 (Zc .sub 44 1)<|zB 8 45<|.nil
def Dg7 : Sts := zB 46 8<|zB 47 5<|zA 48 (Zb .gtr 46 47)<|.nil
def Dg8 : Sts := zB 51 0<|zB 52 8<|zB 53 0<|zB 54 8<|zA 55 (Zc .sub 54 1)<|zA 56 (zH 1 53 55)<|zA 57 (zK 56)<|zA 58 (zH 1 51 52)<|ZW 58 57<|.nil
def Dg9 : Sts := zB 49 8<|zA 50 (Zc .sub 49 1)<|zB 8 50<|.nil
def Ag7 : RCode := (.seq (Zr Dg7 (ZX 48 2)) (.seq (.block 3 (.reg Dg8)) (.reg Dg9)))
def Au0 : Sts := zB 59 0<|zB 60 5<|zB 61 1<|zA 62 (Z1 154 61)<|zA 63 (zH 1 59 60)<|ZW 63 62<|.nil
def Au1 : Sts := zB 64 0<|zB 4 64<|.nil
def Q62 : RFun := ⟨65, [0, 1, 4, 5, 6, 7, 8], (Zr Fo9 (Zr Fp0 (Zr Fp1 (.seq (.block 0 (.loop Dg5)) (.seq (Zr Fp7 (.cond (.t 38) (Zr Fp8 .ret) .skip)) (Zr Dg6 (.seq (Zr At9 (.block 2 (.loop Ag7))) (Zr Au0 (Zr Au1 .ret))))))))), [.tmp 4]⟩
theorem Q62_ok : Al Tryz.prog Q62.V ZQ 174 = some Q62 := by kernel_rfl

def Dh0 : Sts := Zq 1 37 0<|zA 2 (.alloc 37 [Zn, Zn, Zn, Zn])<|.nil
def Dh1 : AT := .q (zC 0 3 (zI 0 1)<|zC 1 4 (zK 3)<|zC 4 7 (zI 1 1)<|zC 5 8 (zK 7)<|zC 7 10 (zI 2 1)<|zC 8 11 (zK 10)<|zC 10 13 (zI 3 1)<|zC 11 14 (zK 13)<|.nil)<|zE 2 5 (Z1 154 4) false (zF<|zE 3 6 (.buildSl 4 0 [] []) false (zF<|zE 6 9 (.append 4 1 1 [Zf] (.t 6) (.t 8)) false (zF<|zE 9 12 (Z1 185 11) false (zF<|zE 12 15 (Z1 154 14) true (.q (zC 13 16 (.build [Zn, Zn, Zn, Zn] [(0, 1, (.t 5)), (1, 1, (.t 9)), (2, 1, (.t 12)), (3, 1, (.t 15))])<|.nil)<|.s 14 none (.store 4 (.t 2) (.t 16)) true (zF<|.fin)<|.no)<|.no)<|.no)<|.no)<|.no)<|zE 3 6 (.buildSl 4 0 [] []) false (zF<|zE 2 5 (Z1 154 4) false (zF<|zE 6 9 (.append 4 1 1 [Zf] (.t 6) (.t 8)) false (zF<|zE 9 12 (Z1 185 11) false (zF<|zE 12 15 (Z1 154 14) true (.q (zC 13 16 (.build [Zn, Zn, Zn, Zn] [(0, 1, (.t 5)), (1, 1, (.t 9)), (2, 1, (.t 12)), (3, 1, (.t 15))])<|.nil)<|.s 14 none (.store 4 (.t 2) (.t 16)) true (zF<|.fin)<|.no)<|.no)<|.no)<|.no)<|.no)<|.no
def Q88 : RFun := ⟨17, [0, 1, 2], (Zr Dh0 (.seq (.any Dh1) .ret)), [.cellA 2 4]⟩
theorem Q88_ok : Al Tryz.prog Q88.V ZQ 175 = some Q88 := by kernel_rfl

def Fp9 : Sts := Zm 2 Zn<|.nil
def Fq0 : Sts := Zm 3 Zn<|.nil
def Fq1 : Sts := zG 4 0<|.nil
def Fq2 : Sts := Zl 5 4 6 0 7 8
def Fq3 : Sts := zB 11 3<|zB 12 0<|ZZ 13 14 4 1 12<|zA 15 (zK 14)<|zA 16 (Z1 154 15)<|zA 17 (.buildSl 34 1 [Zn] [(0, 1, (.t 16))])<|zA 18 (.append 34 1 24 [Zn] (.t 11) (.t 17))<|zB 3 18<|.nil
def Fq4 : Sts := Zu 9 4 10
def Dh2 : RCode := (.seq (Zr Fq2 (ZX 8 0)) (.seq (.block 1 (.reg Fq3)) (.reg Fq4)))
def Fq5 : Sts := zB 19 3<|zB 2 19<|.nil
def Q58 : RFun := ⟨20, [0, 2, 3, 4], (Zr Fp9 (Zr Fq0 (.seq (Zr Fq1 (.block 0 (.loop Dh2))) (Zr Fq5 .ret)))), [.tmp 2]⟩
theorem Q58_ok : Al Tryz.prog Q58.V ZQ 185 = some Q58 := by kernel_rfl

abbrev vi (n : Int) : Value := .int .i64 n
abbrev vb (b : Bool) : Value := .bool b
def Bf9 (o : Int) : Int := if o = 4 then 7 else o
def B3 (o : Int) : Bool := decide (0 ≤ o) && decide (o < 5)
def Au2 (k o : Int) : Bool :=
 if k = 0 then !decide (o = 2) && !decide (o = 3) else if k = 1 then !decide (o = 1) && !decide (o = 3) else if k = 5 then !decide (o = 0) else true
section
variable {M : Aa}
theorem Mp (o : Int) : Aq Tryz.prog 132 #[vi o] M (vi (Bf9 o)) := by
 refine Con.enter Q106_ok (args := [vi o]) (by simp [Dk7]) fun w0 => ?_
 simp only [Dk7, A9]
 repeat' first | refine st ?_ | refine rg ?_ | (refine cX ?_ ?_ <;> intro h <;> try exact Ah h) | refine rt Q106_ok ?_ | exact ⟨⟩ | fail
 all_goals simp_all [Bf9]
theorem Fy (o : Int) : Aq Tryz.prog 96 #[vi o] M (vb (B3 o)) := by
 refine Con.enter Q107_ok (args := [vi o]) (by simp [Dj8]) fun w0 => ?_
 simp only [Dj8, A9]
 repeat' first | refine st ?_ | refine rg ?_ | with_reducible assumption | (refine JD ?_ (fun hc K' hK => ?_) ?_; rotate_left) | refine rt Q107_ok ?_ | exact ⟨⟩ | fail
 all_goals simp_all [B3]
theorem Wz (k o : Int) : Aq Tryz.prog 99 #[vi k, vi o] M (vb (Au2 k o)) := by
 refine Con.enter Q108_ok (args := [vi k, vi o]) (by simp [Dk0]) fun w0 => ?_
 simp only [Dk0, A9]
 repeat' first | refine st ?_ | refine rg ?_ | with_reducible assumption | (refine JD ?_ (fun hc K' hK => ?_) ?_; rotate_left) | (refine cX ?_ ?_ <;> intro h <;> try exact Ah h) | refine rt Q108_ok ?_ | exact ⟨⟩ | fail
 all_goals simp_all [Au2]
def Wc (k o : Int) : Bool := decide (0 ≤ k) && decide (k < 6) && B3 o
theorem Ol (k o : Int) : Aq Tryz.prog 64 #[vi k, vi o] M (.tuple #[vb (Wc k o && Au2 k o), vi (if Wc k o then 0 else 1)]) := by
 refine Con.enter Q103_ok (args := [vi k, vi o]) (by simp [Dj4]) fun w0 => ?_
 simp only [Dj4, A9]
 repeat' first | refine st ?_ | refine rg ?_ | ((first | refine Aq.call (Wz _ _) ?_ | refine Aq.call (Fy _) ?_ | fail); try refine nx ?_) | with_reducible assumption | (refine JD ?_ (fun hc K' hK => ?_) ?_; rotate_left) | (refine cX ?_ ?_ <;> intro h <;> try exact Ah h) | refine rt Q103_ok ?_ | exact ⟨⟩ | fail
 all_goals (simp [Wc]; grind)
def Dl2 (o : Int) : Bool := decide (o = 1) || decide (o = 3) || decide (o = 4)
def Dl3 (o : Int) : Bool := decide (o = 2) || decide (o = 3) || decide (o = 4)
theorem Ea {o : Int} (h : B3 o = true) : o = 0 ∨ o = 1 ∨ o = 2 ∨ o = 3 ∨ o = 4 := by
 simp [B3] at h; omega
theorem Nw (o : Int) (ho : B3 o = true) : Aq Tryz.prog 159 #[vi o] M (.tuple #[vb (Dl2 o), vi 0]) := by
 refine Con.enter Q102_ok (args := [vi o]) (by simp [Dl1]) fun w0 => ?_
 simp only [Dl1, A9]
 repeat' first | refine st ?_ | refine rg ?_ | ((first | refine Aq.call (Mp _) ?_ | refine Aq.call (Fy _) ?_ | fail); try refine nx ?_) | (refine cX ?_ ?_ <;> intro h <;> try exact Ah h) | refine rt Q102_ok ?_ | exact ⟨⟩ | fail
 all_goals (first | (cases (ho.symm.trans h); done) | (rcases Ea ho with rfl | rfl | rfl | rfl | rfl <;> (congr 3 <;> decide)))
theorem Nx (o : Int) (ho : B3 o = true) : Aq Tryz.prog 158 #[vi o] M (.tuple #[vb (Dl3 o), vi 0]) := by
 refine Con.enter Q105_ok (args := [vi o]) (by simp [Dl0]) fun w0 => ?_
 simp only [Dl0, A9]
 repeat' first | refine st ?_ | refine rg ?_ | ((first | refine Aq.call (Mp _) ?_ | refine Aq.call (Fy _) ?_ | fail); try refine nx ?_) | (refine cX ?_ ?_ <;> intro h <;> try exact Ah h) | refine rt Q105_ok ?_ | exact ⟨⟩ | fail
 all_goals (first | (cases (ho.symm.trans h); done) | (rcases Ea ho with rfl | rfl | rfl | rfl | rfl <;> (congr 3 <;> decide)))
def J1 (k o : Int) : Int := if o ≠ 4 then o else if k = 0 then 1 else if k = 1 then 2 else 3
theorem Sq (k o : Int) (hk : Wc k o = true) (hm : Au2 k o = true) (h5 : k ≠ 5) : Aq Tryz.prog 72 #[vi k, vi o] M (.tuple #[vi (J1 k o), vi 0]) := by
 refine Con.enter Q104_ok (args := [vi k, vi o]) (by simp [Dj5]) fun w0 => ?_
 simp only [Dj5, A9]
 repeat' first | refine st ?_ | refine rg ?_ | (refine Aq.call (Ol _ _) ?_; try refine nx ?_) | with_reducible assumption | (refine JD ?_ (fun hc K' hK => ?_) ?_; rotate_left) | (refine cX ?_ ?_ <;> intro h <;> try exact Ah h) | refine rt Q104_ok ?_ | exact ⟨⟩ | fail
 all_goals simp_all [J1]
structure OpV where
 kind : Int
 loc : Int
 v : Int
 w : Int
 ord : Int
 deriving DecidableEq
abbrev Bd (o : OpV) : List Value := [vi o.kind, vi o.loc, vi o.v, vi o.w, vi o.ord]
abbrev vop (o : OpV) : Value := .agg #[vi o.kind, vi o.loc, vi o.v, vi o.w, vi o.ord]
def Rl (n : Int) : Bool := decide (0 ≤ n) && decide (n ≤ 9)
theorem Qi (n : Int) : Aq Tryz.prog 100 #[vi n] M (vb (Rl n)) := by
 refine Con.enter Q49_ok (args := [vi n]) (by simp [Q49]) fun w0 => ?_
 simp only [Q49, A9]
 repeat' first | refine st ?_ | refine rg ?_ | with_reducible assumption | (refine JD ?_ (fun hc K' hK => ?_) ?_; rotate_left) | refine rt Q49_ok ?_ | exact ⟨⟩ | fail
 all_goals simp_all [Rl]
def Bs (o : OpV) : Bool := decide (0 ≤ o.kind) && decide (o.kind ≤ 4)
theorem Fz (o : OpV) : Aq Tryz.prog 71 #[vop o] M (vb (Bs o)) := by
 refine Con.enter Q48_ok (args := [vop o]) (by simp [Q48]) fun w0 => ?_
 simp only [Q48, A9]
 repeat' first | refine st ?_ | refine rg ?_ | with_reducible assumption | (refine JD ?_ (fun hc K' hK => ?_) ?_; rotate_left) | refine rt Q48_ok ?_ | ((first | with_reducible intro b | refine xiA rfl ?_ | fail); try refine nx ?_) | exact ⟨⟩ | fail
 all_goals simp_all [Bs]
def Z9 (o : OpV) : Bool :=
 decide (0 ≤ o.loc) && decide (o.loc < 3) &&
 (if o.kind = 0 then decide (o.v = 0) && decide (o.w = 0) else if o.kind = 1 then Rl o.v && decide (o.w = 0) else if o.kind = 2 then decide (-9 ≤ o.v) && decide (o.v ≤ 9) && decide (o.w = 0)
  else if o.kind = 3 ∨ o.kind = 4 then Rl o.v && Rl o.w else if o.kind = 5 then decide (o.loc = 0) && decide (o.v = 0) && decide (o.w = 0) else false)
theorem Sr (o : OpV) : Aq Tryz.prog 65 #[vop o] M (vb (Z9 o)) := by
 refine Con.enter Q50_ok (args := [vop o]) (by simp [Q50]) fun w0 => ?_
 simp only [Q50, A9]
 repeat' first | refine st ?_ | refine rg ?_ | (refine Aq.call (Qi _) ?_; try refine nx ?_) | with_reducible assumption | (refine JD ?_ (fun hc K' hK => ?_) ?_; rotate_left) | (refine cX ?_ ?_ <;> intro h <;> try exact Ah h) | refine rt Q50_ok ?_ | ((first | with_reducible intro b | refine xiA rfl ?_ | fail); try refine nx ?_) | exact ⟨⟩ | fail
 all_goals (simp [Z9]; grind)
end
theorem Sl.ints {H : Aa} {b off : Nat} {xs : List Int} (h : rd H b off xs.length (xs.map vi)) : ∀ i (hi : i < xs.length), rd H b (off + i) 1 [vi xs[i]] := by
 intro i hi
 have := h.part (i := i) (m := 1) (by omega)
 rwa [show ((xs.map vi).drop i).take 1 = [vi xs[i]] from by
  rw [lBh (by simpa using hi)]; simp] at this
section
variable {M : Aa}
def mx (xs : List Int) (i : Nat) : Int := (xs.take i).foldl (fun a b => if b > a then b else a) (xs.headD 0)
theorem Bg0 {xs : List Int} {i : Nat} (hi : i < xs.length) : mx xs (i + 1) = if xs[i] > mx xs i then xs[i] else mx xs i := by
 simp only [mx, lA7 hi, lEj, lD3, lF6]
 rfl
theorem Uh (H : Aa) (b off c : Nat) (xs : List Int) (h0 : 0 < xs.length) (hl : xs.length < 1000000) (h : rd H b off xs.length (xs.map vi)) : Aq Tryz.prog 98 #[.slice (some ⟨b, off, none⟩) xs.length c] H (vi (mx xs xs.length)) := by
 have hr := Sl.ints h
 have mR : rd H b off 1 [vi xs[0]] := hr 0 h0
 have cF : xs[0] = mx xs 1 := by cases xs with | nil => simp at h0 | cons x xs => simp [mx]
 refine Con.enter Q120_ok (args := [.slice (some ⟨b, off, none⟩) xs.length c]) (by simp [Dj9]) fun w0 => ?_
 simp only [Dj9, A9]
 repeat' first | refine st ?_ | refine rg ?_ | (refine cX ?_ ?_ <;> intro h <;> try exact Ah h) | refine ZF ?_ | (refine xm ?_; try refine nx ?_) | exact ⟨⟩ | fail
 ·refine JA (ρ' := [(0, .slice (some ⟨b, off, none⟩) xs.length c), (3, vi (mx xs 1)), (4, vi (1 : Nat))]) ?_ (by simp [get, cF]) (lA0 _)
  refine EV.loop (fun i : Nat => ([(0, .slice (some ⟨b, off, none⟩) xs.length c), (3, vi (mx xs i)), (4, vi i)], H, [])) (fun i => 1 ≤ i ∧ i ≤ xs.length) (fun i => xs.length - i) 1 ⟨by omega, by omega⟩ ?_
  intro i ⟨sT, bo⟩ ih
  dsimp only at ih ⊢
  repeat' first | refine st ?_ | refine rg ?_ | (refine cX ?_ ?_ <;> intro h <;> try exact Ah h) | refine rt Q120_ok ?_ | refine ZF ?_ | exact ⟨⟩ | fail
  ·have hi : i < xs.length := by omega
   refine ⟨_, Aw8 (hr i hi), ?_⟩
   repeat' first | refine su ?_ | refine rg ?_ | exact ⟨⟩ | fail
   refine JA (ih (i + 1) ⟨by omega, by omega⟩ (by omega)) ?_ (lA0 _)
   repeat' first | (refine lBs.2 (lAd ?_ ?_)) | (intro _ bn; cases bn; done) | rfl | (refine Af5 rfl (by first | rfl | (push_cast; first | rfl | omega)) (by omega) (by omega); done) | (simp (disch := omega) only [Ak, Au, reduceIte, Nat.reduceEqDiff, Option.some.injEq, Value.int.injEq, w64, lDf, lDg, lB8, lD7, Bg0 hi]; done) | fail
  ·rw [show i = xs.length from by omega]
structure LimS where
 acc : Int
 fen : Int
 w0 : Int
 w1 : Int
 w2 : Int
def Ao (s : LimS) (o : OpV) : LimS :=
 if o.kind = 5 then { s with fen := s.fen + 1 }
 else if Bs o = true then
  {acc := s.acc + 1, fen := if o.ord = 4 then s.fen + 2 else s.fen,
   w0 := if o.kind ≠ 0 ∧ o.loc = 0 then s.w0 + 1 else s.w0, w1 := if o.kind ≠ 0 ∧ o.loc = 1 then s.w1 + 1 else s.w1, w2 := if o.kind ≠ 0 ∧ o.loc = 2 then s.w2 + 1 else s.w2 }
 else s
def Bi (l : List OpV) : LimS := l.foldl Ao ⟨0, 0, 0, 0, 0⟩
def Gy (ts : List (List OpV)) : Bool :=
 decide (ts.length ≤ 3) && decide ((Bi ts.flatten).acc ≤ 6) && decide ((Bi ts.flatten).fen ≤ 8) && decide ((Bi ts.flatten).w0 ≤ 4) && decide ((Bi ts.flatten).w1 ≤ 4) && decide ((Bi ts.flatten).w2 ≤ 4)
theorem Ui (l : List OpV) : 0 ≤ (Bi l).acc ∧ (Bi l).acc ≤ l.length ∧ 0 ≤ (Bi l).fen ∧ (Bi l).fen ≤ 2 * l.length ∧ 0 ≤ (Bi l).w0 ∧ (Bi l).w0 ≤ l.length ∧ 0 ≤ (Bi l).w1 ∧ (Bi l).w1 ≤ l.length ∧ 0 ≤ (Bi l).w2 ∧ (Bi l).w2 ≤ l.length := by
 have key : ∀ (l : List OpV) (s : LimS), s.acc ≤ (l.foldl Ao s).acc ∧ (l.foldl Ao s).acc ≤ s.acc + l.length ∧ s.fen ≤ (l.foldl Ao s).fen ∧ (l.foldl Ao s).fen ≤ s.fen + 2 * l.length ∧ s.w0 ≤ (l.foldl Ao s).w0 ∧ (l.foldl Ao s).w0 ≤ s.w0 + l.length ∧ s.w1 ≤ (l.foldl Ao s).w1 ∧ (l.foldl Ao s).w1 ≤ s.w1 + l.length ∧ s.w2 ≤ (l.foldl Ao s).w2 ∧ (l.foldl Ao s).w2 ≤ s.w2 + l.length := by
  intro l
  induction l with
  | nil => intro s; simp
  | cons o l ih =>
   intro s
   have := ih (Ao s o)
   simp only [lD3, lB3]
   have h2 : s.acc ≤ (Ao s o).acc ∧ (Ao s o).acc ≤ s.acc + 1 ∧ s.fen ≤ (Ao s o).fen ∧ (Ao s o).fen ≤ s.fen + 2 ∧ s.w0 ≤ (Ao s o).w0 ∧ (Ao s o).w0 ≤ s.w0 + 1 ∧ s.w1 ≤ (Ao s o).w1 ∧ (Ao s o).w1 ≤ s.w1 + 1 ∧ s.w2 ≤ (Ao s o).w2 ∧ (Ao s o).w2 ≤ s.w2 + 1 := by
    unfold Ao
    split
    ·simp; omega
    ·split
     ·simp only []
      refine ⟨?_, ?_, ?_, ?_, ?_, ?_, ?_, ?_, ?_, ?_⟩ <;> (repeat' split) <;> omega
     ·simp; omega
   omega
 have := key l ⟨0, 0, 0, 0, 0⟩
 dsimp only at this
 unfold Bi
 omega
theorem Eb {α : Type} {ts : List (List α)} {i : Nat} (hi : i < ts.length) : (ts.take (i + 1)).flatten = (ts.take i).flatten ++ ts[i] := by
 rw [lA7 hi, lE7]; simp
theorem Cw {α : Type} (ts : List (List α)) (i : Nat) : (ts.take i).flatten.length ≤ ts.flatten.length := by
 have : ts.flatten = (ts.take i).flatten ++ (ts.drop i).flatten := by rw [← lE7, lDx]
 rw [this]; simp
structure Sized {α : Type} (ts : List (List α)) : Prop where
 len : ts.length ≤ 281474976710656
 each : ∀ t ∈ ts, t.length ≤ 281474976710656
theorem Ss {α : Type} {B : Nat} : ∀ {ts : List (List α)}, (∀ t ∈ ts, t.length ≤ B) → ts.flatten.length ≤ ts.length * B
 | [], _ => by simp
 | t :: ts, h => by
  have h1 := Ss (ts := ts) fun x hx => h x (lBa _ hx)
  have h2 := h t (lB1 ..)
  rw [lD0, lA4, lB3, lEh]; omega
theorem Sized.flat {α : Type} {ts : List (List α)} (h : Sized ts) (h3 : ts.length ≤ 3) : ts.flatten.length < 1000000000000000 := by
 have h1 := Ss h.each
 have h2 : ts.length * 281474976710656 ≤ 3 * 281474976710656 := lBw _ h3
 omega
theorem Om (ts : List (List OpV)) (s : Value) (hs : Dv M 5 Bd s ts) (hb : Sized ts) : Aq Tryz.prog 63 #[.agg #[s]] M (vb (Gy ts)) := by
 obtain ⟨a, c, vs, rfl, hl, aH, hk⟩ := hs
 refine Con.enter Q51_ok (args := [.agg #[.slice a ts.length c]]) (by simp [Q51]) fun w0 => ?_
 simp only [Q51, A9]
 repeat' first | refine st ?_ | refine rg ?_ | (refine cX ?_ ?_ <;> intro h <;> try exact Ah h) | refine rt Q51_ok ?_ | ((first | with_reducible intro b | refine xsA rfl ?_ | fail); try refine nx ?_) | exact ⟨⟩ | fail
 ·simp [Gy]; omega
 rename_i b1
 have iA : ts.length ≤ 3 := by omega
 have mS := hb.2
 have hb := hb.flat iA
 refine JA (ρ' := [(3, vi (Bi (ts.take 0).flatten).acc), (4, vi (Bi (ts.take 0).flatten).fen), (5, pv b 0), (15, .slice a ts.length c), (16, vi ts.length), (17, vi (0 : Nat))])
  (G' := [(b, Cl 142 [vi (Bi (ts.take 0).flatten).w0, vi (Bi (ts.take 0).flatten).w1, vi (Bi (ts.take 0).flatten).w2])]) ?_ (by simp [get, Bi]) (by simp [Bi])
 refine EV.loop (fun i : Nat => ([(3, vi (Bi (ts.take i).flatten).acc), (4, vi (Bi (ts.take i).flatten).fen), (5, pv b 0), (15, .slice a ts.length c), (16, vi ts.length), (17, vi i)], M,
  [(b, Cl 142 [vi (Bi (ts.take i).flatten).w0, vi (Bi (ts.take i).flatten).w1, vi (Bi (ts.take i).flatten).w2])])) (fun i => i ≤ ts.length) (fun i => ts.length - i) 0 (lA8 _) ?_
 intro i hi ih
 dsimp only at ih ⊢
 repeat' first | refine st ?_ | refine rg ?_ | (refine Aq.call (Uh _ _ 0 3 [_, _, _] (by simp) (by simp) (An 0 rfl rfl (by simp))) ?_; try refine nx ?_) | with_reducible assumption | (refine JD ?_ (fun hc K' hK => ?_) ?_; rotate_left) | (refine cX ?_ ?_ <;> intro h <;> try exact Ah h) | refine rt Q51_ok ?_ | exact ⟨⟩ | fail
 ·have aC : i < ts.length := by omega
  obtain ⟨pb, po, rfl, hat⟩ := Dv.at aH hl hk (by omega)
  obtain ⟨a', c', aT, aX⟩ := hat i aC
  simp only [lAu] at aT
  repeat' first | refine st ?_ | refine rg ?_ | refine ZF ?_ | (refine xn ?_; try refine nx ?_) | exact ⟨⟩ | fail
  have aG : ((ts.take i).flatten ++ ts[i]).length ≤ ts.flatten.length := by rw [← Eb aC]; exact Cw ts (i + 1)
  simp only [lA4] at aG
  let W : Nat → LimS := fun j => Bi ((ts.take i).flatten ++ ts[i].take j)
  refine JA (ρ' := [(3, vi (W 0).acc), (4, vi (W 0).fen), (5, pv b 0), (15, .slice (some ⟨pb, po, none⟩) ts.length c), (16, vi ts.length), (17, vi i), (21, .slice a' ts[i].length c'), (22, vi ts[i].length), (23, vi (0 : Nat))])
   (G' := [(b, Cl 142 [vi (W 0).w0, vi (W 0).w1, vi (W 0).w2])]) ?_ (by simp [get, W]) (by simp [W])
  refine EV.loop (fun j : Nat => ([(3, vi (W j).acc), (4, vi (W j).fen), (5, pv b 0), (15, .slice (some ⟨pb, po, none⟩) ts.length c), (16, vi ts.length), (17, vi i), (21, .slice a' ts[i].length c'), (22, vi ts[i].length), (23, vi j)], M,
   [(b, Cl 142 [vi (W j).w0, vi (W j).w1, vi (W j).w2])])) (fun j => j ≤ ts[i].length) (fun j => ts[i].length - j) 0 (lA8 _) ?_
  intro j hj ih2
  dsimp only at ih2 ⊢
  repeat' first | refine st ?_ | refine rg ?_ | (refine cX ?_ ?_ <;> intro h <;> try exact Ah h) | exact ⟨⟩ | fail
  ·have aR : j < ts[i].length := by omega
   obtain ⟨qb, qo, rfl, aN⟩ := Sl.at (enc := Bd) (fun _ => rfl) (by omega) aX (by omega)
   have dP := aN j aR
   have hW : W (j + 1) = Ao (W j) ts[i][j] := by
    simp only [W, Bi, lA7 aR, ← lAc, lEj, lD3, lF6]
   have sU := Ui ((ts.take i).flatten ++ ts[i].take j)
   have tn : ((ts.take i).flatten ++ ts[i].take j).length < 1000000000000000 := by rw [lA4, lC4]; omega
   have fin : ∀ ρ G', (∀ p ∈ [(3, vi (W (j + 1)).acc), (4, vi (W (j + 1)).fen), (5, pv b 0), (15, .slice (some ⟨pb, po, none⟩) ts.length c), (16, vi ts.length), (17, vi i), (21, .slice (some ⟨qb, qo, none⟩) ts[i].length c'), (22, vi ts[i].length), (23, vi (j + 1 : Nat))], get ρ p.1 = some p.2) →
     [(b, Cl 142 [vi (W (j + 1)).w0, vi (W (j + 1)).w1, vi (W (j + 1)).w2])].Sublist G' → _ := fun ρ G' h1 h2 => JA (ρ := ρ) (G := G') (ih2 (j + 1) (by omega) (by omega)) h1 h2
   rw [hW] at fin
   have sV : W j = Bi ((ts.take i).flatten ++ ts[i].take j) := rfl
   rw [← sV] at sU
   clear_value W
   have e1 : IntKind.i64.wrap ((W j).acc + 1) = (W j).acc + 1 := w64 (by omega) (by omega)
   have e2 : IntKind.i64.wrap ((W j).fen + 1) = (W j).fen + 1 := w64 (by omega) (by omega)
   have e3 : IntKind.i64.wrap ((W j).fen + 2) = (W j).fen + 2 := w64 (by omega) (by omega)
   have e4 : IntKind.i64.wrap ((W j).w0 + 1) = (W j).w0 + 1 := w64 (by omega) (by omega)
   have e5 : IntKind.i64.wrap ((W j).w1 + 1) = (W j).w1 + 1 := w64 (by omega) (by omega)
   have e6 : IntKind.i64.wrap ((W j).w2 + 1) = (W j).w2 + 1 := w64 (by omega) (by omega)
   have e7 : IntKind.i64.wrap ((j : Int) + 1) = ((j + 1 : Nat) : Int) := w64 (by omega) (by omega)
   clear ih ih2 hat aN aH hk aT aX sU tn sV aG hW hb mS hl
   generalize W j = s at *
   generalize ts[i][j] = o at *
   clear W
   repeat' first | refine st ?_ | refine rg ?_ | (refine Aq.call (Fz _) ?_; try refine nx ?_) | with_reducible assumption | (refine JD ?_ (fun hc K' hK => ?_) ?_; rotate_left) | (refine cX ?_ ?_ <;> intro h <;> try exact Ah h) | (with_reducible intro b; try refine nx ?_) | refine ZF ?_ | ((first | refine xm ?_ | refine xrA rfl ?_ | refine xiA rfl ?_ | fail); try refine nx ?_) | (refine xw ?_; refine nx ?_) | exact ⟨⟩ | fail
   all_goals try refine fin _ _ ?_ ?_
   all_goals first
    | (simp [get, Ao, *]; done)
    | (simp [get, Ao, *]; grind)
    | skip
   all_goals
    have bg : o.loc = 0 ∨ o.loc = 1 ∨ o.loc = 2 := by omega
    have kW : ¬ o.kind = 0 := by omega
    rcases bg with bg | bg | bg <;> rw [bg] <;> simp only [Int.reduceToNat, Int.toNat_zero, Int.reduceLE, Int.reduceLT, true_and]
   all_goals repeat' first | refine su ?_ | refine rg ?_ | (refine xiA rfl ?_; try refine nx ?_) | (refine xw ?_; refine nx ?_) | exact ⟨⟩ | fail
   all_goals try refine fin _ _ ?_ ?_
   all_goals first
    | (simp [get, Ao, *]; done)
    | (simp [get, Ao, *]; grind)
    | skip
  ·have aR : j = ts[i].length := by omega
   subst aR
   have hf : (ts.take i).flatten ++ ts[i].take ts[i].length = (ts.take (i + 1)).flatten := by rw [Eb aC, lB2]
   refine JA (ih (i + 1) (by omega) (by omega)) ?_ ?_
   ·clear ih ih2
    rw [← hf]
    simp [get, W]
    exact w64 (by omega) (by omega)
   ·rw [← hf]
    exact lA0 _
 ·have iB : i = ts.length := by omega
  subst iB
  rw [lB2]
  simp only [Gy, mx, lEs, lCr, lD3, lF6, List.headD_cons]
  congr 1
  have h3 : decide (ts.length ≤ 3) = true := by simpa using iA
  rw [h3]
  grind
end
section
variable {M : Aa}
def Ny (o : OpV) : Bool := Wc o.kind o.ord && Au2 o.kind o.ord && Z9 o
def A1 (ts : List (List OpV)) : Int := if Gy ts = false then 2 else if ts.length = 0 then 1 else if ts.flatten.all Ny = true then 0 else 1
theorem Fk (o : OpV) : Ny o = true ↔ Wc o.kind o.ord = true ∧ Au2 o.kind o.ord = true ∧ Z9 o = true := by
 simp [Ny, and_assoc]
theorem Qj (ts : List (List OpV)) (s : Value) (hs : Dv M 5 Bd s ts) (hb : Sized ts) : Aq Tryz.prog 24 #[.agg #[s]] M (vi (A1 ts)) := by
 have pV := fun G => Om (M := M.add G) ts s (hs.mono (JB _ _)) hb
 have mS := hb.1
 have pW := hb.2
 obtain ⟨a, c, vs, rfl, hl, aH, hk⟩ := hs
 refine Con.enter Q45_ok (args := [.agg #[.slice a ts.length c]]) (by simp [Q45]) fun w0 => ?_
 simp only [Q45, A9]
 repeat' first | refine st ?_ | refine rg ?_ | (refine Aq.call (pV _) ?_; try refine nx ?_) | (refine cX ?_ ?_ <;> intro h <;> try exact Ah h) | refine rt Q45_ok ?_ | ((first | with_reducible intro b | refine xrA rfl ?_ | refine xsA rfl ?_ | fail); try refine nx ?_) | exact ⟨⟩ | fail
 ·simp [A1, h]
 ·rename_i h1
  have : ts.length = 0 := by omega
  simp [A1, this, h1]
 rename_i h1
 refine JA (ρ' := [(17, .slice a ts.length c), (18, vi ts.length), (19, vi (0 : Nat))]) (G' := []) ?_ (by simp (disch := omega) only [lBs, lB5, false_implies, implies_true, and_true, true_and, Ak, Au, reduceIte, Nat.reduceEqDiff, Option.some.injEq, Value.int.injEq, w64, lDf, lDg, lB8, lD7]) (by simp)
 refine EV.loop (fun i : Nat => ([(17, .slice a ts.length c), (18, vi ts.length), (19, vi i)], M, [])) (fun i => i ≤ ts.length ∧ (ts.take i).flatten.all Ny = true) (fun i => ts.length - i) 0 (by simp) ?_
 intro i ⟨hi, ai⟩ ih
 dsimp only at ih ⊢
 repeat' first | refine st ?_ | refine rg ?_ | (refine cX ?_ ?_ <;> intro h <;> try exact Ah h) | refine rt Q45_ok ?_ | exact ⟨⟩ | fail
 ·have aC : i < ts.length := by omega
  obtain ⟨pb, po, rfl, hat⟩ := Dv.at aH hl hk (by omega)
  obtain ⟨a', c', aT, aX⟩ := hat i aC
  simp only [lAu] at aT
  have aG : ts[i].length ≤ ts.flatten.length := by have := Eb aC; have h2 := Cw ts (i + 1); rw [this, lA4] at h2; omega
  have vg := pW ts[i] (lAm aC)
  have aJ : ∀ o ∈ ts[i], o ∈ ts.flatten := fun o ho => lEd.2 ⟨ts[i], lAm aC, ho⟩
  repeat' first | refine st ?_ | refine rg ?_ | refine ZF ?_ | (refine xn ?_; try refine nx ?_) | exact ⟨⟩ | fail
  refine JA (ρ' := [(17, .slice (some ⟨pb, po, none⟩) ts.length c), (18, vi ts.length), (19, vi i), (23, .slice a' ts[i].length c'), (24, vi ts[i].length), (25, vi (0 : Nat))]) (G' := []) ?_ (by simp (disch := omega) only [lBs, lB5, false_implies, implies_true, and_true, true_and, Ak, Au, reduceIte, Nat.reduceEqDiff, Option.some.injEq, Value.int.injEq, w64, lDf, lDg, lB8, lD7]) (by simp)
  refine EV.loop (fun j : Nat => ([(17, .slice (some ⟨pb, po, none⟩) ts.length c), (18, vi ts.length), (19, vi i), (23, .slice a' ts[i].length c'), (24, vi ts[i].length), (25, vi j)], M, [])) (fun j => j ≤ ts[i].length ∧ (ts[i].take j).all Ny = true) (fun j => ts[i].length - j) 0 (by simp) ?_
  intro j ⟨hj, gR⟩ ih2
  dsimp only at ih2 ⊢
  repeat' first | refine st ?_ | refine rg ?_ | (refine cX ?_ ?_ <;> intro h <;> try exact Ah h) | exact ⟨⟩ | fail
  ·have aR : j < ts[i].length := by omega
   obtain ⟨qb, qo, rfl, aN⟩ := Sl.at (enc := Bd) (fun _ => rfl) (by omega) aX (by omega)
   have dP := aN j aR
   repeat' first | refine st ?_ | refine rg ?_ | ((first | refine Aq.call (Sr _) ?_ | refine Aq.call (Ol _ _) ?_ | fail); try refine nx ?_) | with_reducible assumption | (refine JD ?_ (fun hc K' hK => ?_) ?_; rotate_left) | (refine cX ?_ ?_ <;> intro h <;> try exact Ah h) | refine rt Q45_ok ?_ | (with_reducible intro b; try refine nx ?_) | refine ZF ?_ | ((first | refine xm ?_ | refine xrA rfl ?_ | refine xiA rfl ?_ | fail); try refine nx ?_) | (refine xw ?_; refine nx ?_) | exact ⟨⟩ | fail
   ·have aI : Ny ts[i][j] = false := by
     cases hq : Ny ts[i][j] with
     | false => rfl
     | true => obtain ⟨q1, q2, q3⟩ := (Fk _).1 hq; simp [q1, q2, q3] at h
    have hne : ts.flatten.all Ny = false := by
     rw [lDo]
     exact ⟨ts[i][j], aJ _ (lAm aR), by simp [aI]⟩
    have h0 : ¬ ts.length = 0 := by omega
    simp [A1, h1, h0, hne]
   ·have bV : Ny ts[i][j] = true := by
     rw [Fk]
     grind
    refine JA (ih2 (j + 1) ⟨by omega, ?_⟩ (by omega)) ?_ (by simp)
    ·rw [lA7 aR, lDh, gR]
     simp [bV]
    ·exact eE
  ·have aR : j = ts[i].length := by omega
   subst aR
   refine JA (ih (i + 1) ⟨by omega, ?_⟩ (by omega)) ?_ (by simp)
   ·rw [Eb aC, lDh, ai, lC5]
    rwa [lB2] at gR
   ·exact eE
 ·have iB : i = ts.length := by omega
  subst iB
  rw [lB2] at ai
  have h0 : ¬ ts.length = 0 := by omega
  simp [A1, ai, h1, h0]
end
section
variable {M : Aa}
abbrev Ii : OpV := ⟨5, 0, 0, 0, 4⟩
theorem Jv : Aq Tryz.prog 73 #[] M (vop Ii) := by
 refine Con.enter Q53_ok (args := []) (by simp [Q53]) fun w0 => ?_
 simp only [Q53, A9]
 repeat' first | refine st ?_ | refine rg ?_ | refine rt Q53_ok ?_ | ((first | with_reducible intro b | refine xrA rfl ?_ | fail); try refine nx ?_) | (refine xw ?_; refine nx ?_) | exact ⟨⟩ | fail
 all_goals rfl
def Cy (o : OpV) : List OpV := if Bs o = false ∨ o.ord ≠ 4 then [o] else [Ii, { o with ord := J1 o.kind o.ord }, Ii]
theorem Ky (o : OpV) (f : Bool) (ho : Ny o = true) : Con Tryz.prog 70 #[vop o, vb f] M [] fun v _ G' => ∃ b, v = .slice (some ⟨b, 0, none⟩) (Cy o).length (Cy o).length ∧ G' = [(b, Cl 83 ((Cy o).flatMap Bd))] := by
 obtain ⟨q1, q2, q3⟩ := (Fk o).1 ho
 refine Con.enter Q47_ok (args := [vop o, vb f]) (by simp [Q47]) fun w0 => ?_
 simp only [Q47, A9]
 repeat' first | refine st ?_ | refine rg ?_ | (refine Aq.call (Fz _) ?_; try refine nx ?_) | with_reducible assumption | (refine JD ?_ (fun hc K' hK => ?_) ?_; rotate_left) | (refine cX ?_ ?_ <;> intro h <;> try exact Ah h) | ((first | with_reducible intro b | refine xrA rfl ?_ | refine xiA rfl ?_ | fail); try refine nx ?_) | exact ⟨⟩ | fail
 ·refine JA (ρ' := [(4, .slice (some ⟨b, 0, none⟩) 1 1)]) (G' := [(b, Cl 83 (Bd o))]) ?_ (by simp (disch := omega) only [lBs, lB5, false_implies, implies_true, and_true, true_and, Ak, Au, reduceIte, Nat.reduceEqDiff, Option.some.injEq, Value.int.injEq, w64, lDf, lDg, lB8, lD7]) (by simp)
  (refine rt Q47_ok ?_; try with_reducible exact ⟨⟩)
  have he : Cy o = [o] := by simp [Cy, h]
  exact ⟨b, by rw [he]; rfl, by rw [he]; rfl⟩
 ·have h5 : o.kind ≠ 5 := by
   intro h5
   have := h.1
   simp [Bs, h5] at this
  refine Aq.call (Sq _ _ q1 q2 h5) ?_
  (refine nx ?_; try with_reducible exact ⟨⟩)
  repeat' first | refine st ?_ | (refine EV.any _ (lA0 _) ?_; (conv => (arg 2; whnf)); refine nx ?_) | ((first | refine Aq.call (Jv) ?_ | with_reducible intro b | refine xrA rfl ?_ | fail); try refine nx ?_) | (refine xw ?_; refine nx ?_) | (refine lAd (Aa.le_refl _) (lAd (fun p hp => hp) ?_)) | exact ⟨⟩ | fail
  have he : Cy o = [Ii, { o with ord := J1 o.kind o.ord }, Ii] := by simp [Cy, h]
  rename_i b1
  refine JA (ρ' := [(4, .slice (some ⟨b, 0, none⟩) 3 3)]) (G' := [(b, Cl 83 (Bd Ii ++ Bd { o with ord := J1 o.kind o.ord } ++ Bd Ii))]) ?_ (by simp (disch := omega) only [lBs, lB5, false_implies, implies_true, and_true, true_and, Ak, Au, reduceIte, Nat.reduceEqDiff, Option.some.injEq, Value.int.injEq, w64, lDf, lDg, lB8, lD7]) (by simp)
  (refine rt Q47_ok ?_; try with_reducible exact ⟨⟩)
  exact ⟨b, by rw [he]; rfl, by rw [he]; rfl⟩
end
end Go.EV

namespace Go.EV
open Go.Proofs
def Eo (f : OpV → Bool → List OpV) : Bool → List OpV → List OpV
 | _, [] => []
 | b, o :: l => f o b ++ Eo f (b && !Bs o) l
def Qk (l : List OpV) : Bool := l.all fun o => !Bs o
theorem Mq (f : OpV → Bool → List OpV) : ∀ (l1 : List OpV) (b : Bool) (l2 : List OpV), Eo f b (l1 ++ l2) = Eo f b l1 ++ Eo f (b && Qk l1) l2
 | [], b, l2 => by simp [Eo, Qk]
 | o :: l1, b, l2 => by simp [Eo, Mq f l1, Qk, Bool.and_assoc]
theorem Aa0 (f : OpV → Bool → List OpV) {l : List OpV} {j : Nat} (hj : j < l.length) : Eo f true (l.take (j + 1)) = Eo f true (l.take j) ++ f l[j] (Qk (l.take j)) := by
 rw [lA7 hj, Mq]; simp [Eo]
theorem Ag8 {f : OpV → Bool → List OpV} {l : List OpV} (hf : ∀ o ∈ l, ∀ b, (f o b).length ≤ 3) : ∀ b, (Eo f b l).length ≤ 3 * l.length := by
 induction l with
 | nil => intro b; simp [Eo]
 | cons o l ih =>
  intro b
  have h1 := hf o (by simp) b
  have h2 := ih (fun o' bH => hf o' (by simp [bH])) (b && !Bs o)
  simp [Eo]; omega
theorem Aa1 {l : List OpV} {j : Nat} (hj : j < l.length) : Qk (l.take (j + 1)) = (Qk (l.take j) && !Bs l[j]) := by
 unfold Qk
 rw [lA7 hj, lDh]; simp
section
variable {M : Aa}
def ByC (P : Program) (T g : Nat) (f : OpV → Bool → List OpV) (l : List OpV) : Prop :=
 ∀ (M : Aa) (o : OpV) (b : Bool), o ∈ l → (f o b).length ≤ 3 ∧ Con P g #[vop o, vb b] M [] fun v _ G' => ∃ ov, v = osv ov (f o b).length ∧ Ey 5 ov (f o b).length ((f o b).flatMap Bd) ∧ G' = osg T ov ((f o b).flatMap Bd)
theorem Bg1 (l : List OpV) : ok1 (l.flatMap Bd) := by
 intro v hv
 simp only [lB4] at hv
 obtain ⟨o, _, hv⟩ := hv
 simp at hv
 rcases hv with rfl | rfl | rfl | rfl | rfl <;> rfl
theorem Nz (f : OpV → Bool → List OpV) (g : Nat) (ts : List (List OpV)) (s : Value) (hs : Dv M 5 Bd s ts) (hb : ts.flatten.length < 1000000) (mS : ts.length < 1000000)
  (hg : ByC Tryz.prog 83 g f ts.flatten) :
  Con Tryz.prog 69 #[.agg #[s], .func (.func g) #[] #[]] M [] fun v M' _ => ∃ s', v = .agg #[s'] ∧ Dv M' 5 Bd s' (ts.map (Eo f true)) := by
 obtain ⟨a, c, vs, rfl, hl, aH, hk⟩ := hs
 refine Con.enter Q52_ok (args := [.agg #[.slice a ts.length c], .func (.func g) #[] #[]]) (by simp [Q52]) fun w0 => ?_
 simp only [Q52, A9]
 repeat' first | refine st ?_ | refine rg ?_ | ((first | with_reducible intro b | refine xsA rfl ?_ | fail); try refine nx ?_) | exact ⟨⟩ | fail
 rename_i b2 b4
 refine JA (ρ' := [(1, .func (.func g) #[] #[]), (4, pv b4 0), (5, pv b 0), (13, .slice a ts.length c), (14, vi ts.length), (15, vi (0 : Nat))])
  (G' := [(b, Cl 24 [osv none 0]), (b4, Cl 24 [.slice none 0 0])] ++ osg 70 none []) ?_ ?env0 eS
 case env0 =>
  exact eE
 refine EV.loop (fun x : Nat × Aa × Vec × List Value => ([(1, .func (.func g) #[] #[]), (4, pv b4 0), (5, pv b 0), (13, .slice a ts.length c), (14, vi ts.length), (15, vi x.1)], x.2.1,
   [(b, Cl 24 [osv x.2.2.1 x.1]), (b4, Cl 24 [.slice none 0 0])] ++ osg 70 x.2.2.1 x.2.2.2))
  (fun x => x.1 ≤ ts.length ∧ M.le x.2.1 ∧ Ey 1 x.2.2.1 x.1 x.2.2.2 ∧ x.2.2.2.length = x.1 ∧ ∀ k (h : k < x.2.2.2.length) (h' : k < ts.length), Sl x.2.1 5 Bd x.2.2.2[k] (Eo f true ts[k]))
  (fun x => ts.length - x.1) (0, M, none, []) ⟨lA8 _, Aa.le_refl _, ⟨rfl, rfl⟩, rfl, fun k h => absurd h (by simp)⟩ ?_
 rintro ⟨i, Mi, oq, vs'⟩ ⟨hi, cy, ig, cO, kX⟩ ih
 dsimp only at hi cy ig cO kX ih ⊢
 repeat' first | refine st ?_ | refine rg ?_ | (refine cX ?_ ?_ <;> intro h <;> try exact Ah h) | (refine xrA rfl ?_; try refine nx ?_) | (refine xw ?_; refine nx ?_) | exact ⟨⟩ | fail
 ·have aC : i < ts.length := by omega
  obtain ⟨pb, po, rfl, hat⟩ := Dv.at (aH.mono cy) hl (fun k h h' => (hk k h h').mono cy) (by omega)
  obtain ⟨a', c', aT, aX⟩ := hat i aC
  simp only [lAu] at aT
  have aG : ts[i].length ≤ ts.flatten.length := by have := Eb aC; have h2 := Cw ts (i + 1); rw [this, lA4] at h2; omega
  have aJ : ∀ o ∈ ts[i], o ∈ ts.flatten := fun o ho => lEd.2 ⟨ts[i], lAm aC, ho⟩
  repeat' first | refine st ?_ | refine rg ?_ | refine ZF ?_ | (refine xn ?_; try refine nx ?_) | exact ⟨⟩ | fail
  refine JA (ρ' := [(1, .func (.func g) #[] #[]), (4, pv b4 0), (5, pv b 0), (8, osv none (Eo f true (ts[i].take 0)).length), (9, vb (Qk (ts[i].take 0))), (13, .slice (some ⟨pb, po, none⟩) ts.length c), (14, vi ts.length), (15, vi i), (19, .slice a' ts[i].length c'), (20, vi ts[i].length), (21, vi (0 : Nat))])
   (G' := [(b, Cl 24 [osv oq i]), (b4, Cl 24 [.slice none 0 0])] ++ (osg 70 oq vs' ++ osg 83 none ((Eo f true (ts[i].take 0)).flatMap Bd))) ?_ ?env1 (by simp only [osg, lAa]; exact lA0 _)
  case env1 =>
   exact eE
  refine EV.loop (fun x : Nat × Vec => ([(1, .func (.func g) #[] #[]), (4, pv b4 0), (5, pv b 0), (8, osv x.2 (Eo f true (ts[i].take x.1)).length), (9, vb (Qk (ts[i].take x.1))), (13, .slice (some ⟨pb, po, none⟩) ts.length c), (14, vi ts.length), (15, vi i), (19, .slice a' ts[i].length c'), (20, vi ts[i].length), (21, vi x.1)], Mi,
    [(b, Cl 24 [osv oq i]), (b4, Cl 24 [.slice none 0 0])] ++ (osg 70 oq vs' ++ osg 83 x.2 ((Eo f true (ts[i].take x.1)).flatMap Bd))))
   (fun x => x.1 ≤ ts[i].length ∧ Ey 5 x.2 (Eo f true (ts[i].take x.1)).length ((Eo f true (ts[i].take x.1)).flatMap Bd))
   (fun x => ts[i].length - x.1) (0, none) ⟨lA8 _, rfl, rfl⟩ ?_
  rintro ⟨j, ov⟩ ⟨hj, aQ⟩ ih2
  dsimp only at hj aQ ih2 ⊢
  repeat' first | refine st ?_ | refine rg ?_ | (refine cX ?_ ?_ <;> intro h <;> try exact Ah h) | ((first | with_reducible intro b | refine xsA rfl ?_ | fail); try refine nx ?_) | exact ⟨⟩ | fail
  ·have aR : j < ts[i].length := by omega
   obtain ⟨qb, qo, rfl, aN⟩ := Sl.at (enc := Bd) (fun _ => rfl) (by omega) aX (by omega)
   have dP := aN j aR
   repeat' first | refine st ?_ | refine rg ?_ | (with_reducible intro b; try refine nx ?_) | refine ZF ?_ | ((first | refine xm ?_ | refine xrA rfl ?_ | fail); try refine nx ?_) | (refine xw ?_; refine nx ?_) | exact ⟨⟩ | fail
   have sW := fun M => hg M ts[i][j] (Qk (ts[i].take j)) (aJ _ (lAm aR))
   have iA := (sW M).1
   refine Con.callB (G1 := []) (sW _).2 (Aa.le_refl _) (lAf _) ?_
   rintro v M' G' ⟨ov', rfl, pX, rfl⟩
   (refine nx ?_; try with_reducible exact ⟨⟩)
   have ed : (Eo f true (ts[i].take j)).length ≤ 3 * (ts[i].take j).length := Ag8 (fun o ho b => (hg M o b (aJ _ (List.mem_of_mem_take ho))).1) true
   have mT : (ts[i].take j).length ≤ j := by simp; omega
   refine ⟨_, E5 (T := 83) pX (fun p hp => by simp [hp]), Bg1 _, Or.inl ⟨ov, _, rfl, _, aQ, _, B8 [[_, _, _], osg 70 oq vs', osg 83 ov _, osg 83 ov' _] 2 (by simp), ?_, ?_, ?_⟩⟩
   ·simp only [maxLen]; omega
   ·omega
   intro o' bH _
   simp only [lBb, lBg, lAs, lAt, lCk, lC3, Db, Da, C9, lAj, lAp, lAc, lAa]
   repeat' first | refine su ?_ | refine rg ?_ | (refine Aq.call (Fz _) ?_; try refine nx ?_) | with_reducible assumption | (refine JD ?_ (fun hc K' hK => ?_) ?_; rotate_left) | (refine xrA rfl ?_; try refine nx ?_) | exact ⟨⟩ | fail
   have e := Aa0 (f := f) aR
   have ih3 := ih2 (j + 1, o') ⟨by dsimp only; omega, by rw [e, lA4, lB0]; exact bH⟩ (by dsimp only; omega)
   dsimp only at ih3
   rw [Aa1 aR, e, lA4, lB0] at ih3
   refine JA ih3 ?_ eS
   exact eE
  ·have aR : j = ts[i].length := by omega
   subst aR
   rw [lB2] at aQ ⊢
   refine ⟨[osv ov (Eo f true ts[i]).length], Or.inr ⟨b, 0, rfl, An 0 rfl rfl (by simp)⟩, by simp [Bq, Ch, Value.oneCell'], Or.inl ⟨oq, i, rfl, vs', ig, _, B8 [[_, _, _], osg 70 oq vs', osg 83 ov _] 1 (by simp), ?_, ?_, ?_⟩⟩
   ·simp only [maxLen]; omega
   ·omega
   intro o' bH _
   simp only [lBb, lBg, lAs, lAt, lCk, lC3, Db, Da, C9, lAj, lAp, lAc, lAa]
   repeat' first | refine su ?_ | refine rg ?_ | (refine xw ?_; refine nx ?_) | exact ⟨⟩ | fail
   refine JF ?_ (B8 [[_, _, _], osg 83 ov _, osg 70 o' _] 1 (by simp))
   simp only [lBb, lBg, lAs, lAt, lCk, lC3, Db, Da, C9, lAj, lAp, lAc, lAa]
   refine EV.freeze ?_
   have ih3 := ih (i + 1, Mi.add (osg 83 ov ((Eo f true ts[i]).flatMap Bd)), o', vs' ++ [osv ov (Eo f true ts[i]).length]) ⟨by dsimp only; omega, Aa.le_trans cy (JB _ _), bH, by simp [cO], ?_⟩ (by dsimp only; omega)
   dsimp only at ih3
   refine JA ih3 ?_ eS
   ·exact eE
   ·intro k cM cU
    dsimp only at cM cU ⊢
    by_cases gm : k < vs'.length
    ·rw [lCq gm]
     exact (kX k gm cU).mono (JB _ _)
    ·have : k = i := by simp at cM; omega
     subst this
     rw [lCn (by omega)]
     simp only [cO, lF9, lAt]
     exact ⟨_, _, rfl, E5 aQ (fun p hp => hp)⟩
 ·have bo : i = ts.length := by omega
  subst bo
  refine JF ?_ (B8 [[_, _], osg 70 oq vs'] 1 (by simp))
  simp only [lBb, lBg, lAs, lAt, lCk, lC3, Db, Da, C9, lAj, lAp, lAc, lAa]
  refine EV.freeze ?_
  (refine rt Q52_ok ?_; try with_reducible exact ⟨⟩)
  refine ⟨_, An 1 rfl rfl (by simp), _, rfl, oad oq, Rd oq, vs', by simp, by simpa using cO, ?_, ?_⟩
  ·simpa using E5 ig (fun p hp => hp)
  ·intro k h1 h2
   simp only [lDn]
   exact (kX k h1 (by simpa using h2)).mono (JB _ _)
end
def Ek (l : List OpV) : List OpV := l.flatMap Cy
theorem Uj : ∀ (b : Bool) (l : List OpV), Eo (fun o _ => Cy o) b l = Ek l
 | _, [] => rfl
 | b, o :: l => by rw [Eo, Uj]; simp [Ek]
theorem Di {ts : List (List OpV)} (h : A1 ts = 0) : Gy ts = true ∧ ts.length ≠ 0 ∧ ts.flatten.all Ny = true := by
 unfold A1 at h
 split at h
 ·omega
 ·split at h
  ·omega
  ·split at h
   ·rename_i h1 h2 h3; exact ⟨by simpa using h1, h2, h3⟩
   ·omega
theorem Iu {ts : List (List OpV)} (h : A1 ts = 0) : ts.flatten.length ≤ 14 ∧ ts.length ≤ 3 := by
 obtain ⟨hl, _, hall⟩ := Di h
 have key : ∀ (l : List OpV) (s : LimS), (∀ o ∈ l, Ny o = true) → (l.length : Int) + s.acc + s.fen ≤ (l.foldl Ao s).acc + (l.foldl Ao s).fen := by
  intro l
  induction l with
  | nil => intro s _; simp
  | cons o l ih =>
   intro s h
   have ih2 := ih (Ao s o) (fun x hx => h x (lBa _ hx))
   obtain ⟨q1, _, _⟩ := (Fk o).1 (h o (lB1 ..))
   have hk : 0 ≤ o.kind ∧ o.kind < 6 := by simp only [Wc, lA6, decide_eq_true_eq] at q1; exact q1.1
   have h1 : s.acc + s.fen + 1 ≤ (Ao s o).acc + (Ao s o).fen := by
    unfold Ao
    split
    ·dsimp only; omega
    ·rw [if_pos (by simp [Bs]; omega)]
     dsimp only
     split <;> omega
   rw [lD3, lB3]
   omega
 have := key ts.flatten ⟨0, 0, 0, 0, 0⟩ (lAz.1 hall)
 simp only [Gy, lA6, decide_eq_true_eq] at hl
 have e : (Bi ts.flatten) = ts.flatten.foldl Ao ⟨0, 0, 0, 0, 0⟩ := rfl
 rw [← e] at this
 dsimp only at this
 exact ⟨by omega, by omega⟩
theorem Kz (o : OpV) : (Cy o).length ≤ 3 := by
 unfold Cy; split <;> simp
section
variable {M : Aa}
theorem Bg2 {l : List OpV} (hl : ∀ o ∈ l, Ny o = true) : ByC Tryz.prog 83 70 (fun o _ => Cy o) l := by
 intro M o b ho
 refine ⟨Kz o, (Ky o b (hl o ho)).mono ?_⟩
 rintro v M' G' ⟨bb, rfl, rfl⟩
 refine ⟨some (bb, (Cy o).length, []), rfl, ⟨?_, ?_, lA5 _, ?_⟩, by simp [osg]⟩
 ·rw [Gx (sz := 5) (fun _ => rfl)]
 ·rw [lAa, Gx (sz := 5) (fun _ => rfl)]
 ·have := Kz o; simp only [maxLen]; omega
theorem On (ts : List (List OpV)) (s : Value) (hs : Dv M 5 Bd s ts) (hb : Sized ts) :
  Con Tryz.prog 30 #[.agg #[s]] M [] fun v M' _ => (A1 ts ≠ 0 ∧ v = .tuple #[.agg #[.slice none 0 0], vi (A1 ts)]) ∨ (A1 ts = 0 ∧ ∃ s', v = .tuple #[.agg #[s'], vi 0] ∧ Dv M' 5 Bd s' (ts.map Ek)) := by
 have aM := hs
 obtain ⟨a, c, vs, rfl, hl, aH, hk⟩ := hs
 refine Con.enter Q46_ok (args := [.agg #[.slice a ts.length c]]) (by simp [Q46]) fun w0 => ?_
 simp only [Q46, A9]
 repeat' first | refine st ?_ | refine rg ?_ | (refine Aq.call (Qj _ _ (aM.mono (JB _ _)) hb) ?_; try refine nx ?_) | (refine cX ?_ ?_ <;> intro h <;> try exact Ah h) | refine rt Q46_ok ?_ | ((first | with_reducible intro b | refine xrA rfl ?_ | fail); try refine nx ?_) | (refine xw ?_; refine nx ?_) | exact ⟨⟩ | fail
 ·exact .inl h
 ·obtain ⟨_, _, hall⟩ := Di h
  have jF := Iu h
  refine Con.callA (G1 := []) (Nz _ _ ts _ aM (by omega) (by omega) (Bg2 (lAz.1 hall))) (lAf _) ?_
  rintro v M' G' bB ⟨s', rfl, ah⟩
  obtain ⟨a', c', vs', rfl, bj⟩ := ah
  (refine nx ?_; try with_reducible exact ⟨⟩)
  repeat' first | refine rt Q46_ok ?_ | (refine xrA rfl ?_; try refine nx ?_) | (refine xw ?_; refine nx ?_) | exact ⟨⟩ | fail
  refine .inr ⟨h, _, rfl, ?_⟩
  have e : Eo (fun o _ => Cy o) true = Ek := funext fun l => Uj true l
  rw [← e]
  exact ⟨a', c', vs', rfl, bj⟩
end
variable {P : Program}
def Oo (P : Program) (l : Nat) (args : Array Value) (M : Aa) (G : Own) (Φ : Value → Aa → Own → Prop) : Prop :=
 ∀ w, EV.St w (G.map (·.1)) M M G w → ∃ r : Loop, w.heap[l]? = some (.loop r) ∧ args.size = r.params.size ∧
  Rb P l r.fn ((r.params.zip args).foldl (fun tmps (t, a) => tmps.setIfInBounds t a) r.tmps) r.assign r.body w fun v w' => ∃ M' G', EV.St w (G.map (·.1)) M M' G' w' ∧ Φ v M' G'
section
variable {C : Cx P} {l : Nat} {args : Array Value} {M : Aa} {G G1 G2 : Own} {K : Value → Aa → Own → Prop} {Φ : Value → Aa → Own → Prop}
theorem Oo.callA (h : Oo P l args M G1 Φ) (hG : G.Perm (G1 ++ G2)) (hk : ∀ v M' G', M.le M' → Φ v M' G' → K v M' (G2 ++ G')) : Fx C l args M G K := by
 intro w hs
 have ah := hs.perm hG
 obtain ⟨r, h1, h2, h3⟩ := h w (ah.part (JB _ _))
 refine ⟨r, h1, h2, h3.mono ?_⟩
 rintro v w' ⟨M', G', k1, k2⟩
 exact ⟨M', G2 ++ G', (ah.callA k1).perm lBt, hk v M' G' k1.base k2⟩
end
def Cx.round (P : Program) (l : Nat) (f : FuncId) (nt : Nat) (w0 : World) (F : List Nat) (M0 : Aa) (Φ : Value → Aa → Own → Prop) : Cx P where
 b := { (default : Frame) with fn := f, kind := .normal, roundOf := some l }
 T := fun cs m => ∀ c cs', cs = c :: cs' → ∃ v w', (∃ M' G', EV.St w0 F M0 M' G' w' ∧ Φ v M' G') ∧ Steps P m (lone (c.finish v) cs' w')
 back := by
  intro cs m m' hs h c cs' e
  obtain ⟨v, w', h1, h2⟩ := h c cs' e
  exact ⟨v, w', h1, Steps.trans (.one hs) h2⟩
 nt := nt
 ds := []
 w0 := w0
 F := F
 M0 := M0
def Dh3 : List Nat → List Value → Env → Env
 | t :: ps, v :: vs, ρ => Dh3 ps vs ((t, v) :: ρ)
 | _, _, ρ => ρ
theorem Yf {nt : Nat} : ∀ (ps : List Nat) (vs : List Value) (ρ : Env) (a : Act), (∀ t ∈ ps, t < nt) → Fc nt ρ a →
  Fc nt (Dh3 ps vs ρ) { a with tmps := (ps.zip vs).foldl (fun tmps (t, v) => tmps.setIfInBounds t v) a.tmps }
 | [], _, ρ, a, _, h => h
 | _ :: _, [], ρ, a, _, h => h
 | t :: ps, v :: vs, ρ, a, hp, h => by
  have h1 := h.put t (hp t (lB1 ..)) v
  have h2 := Yf ps vs ((t, v) :: ρ) (a.put (some t) v) (fun q hq => hp q (lBa _ hq)) h1
  simpa [Dh3, Act.put] using h2
structure LoopIs (P : Program) (V : List Nat) (r : Loop) (f : FuncId) (nt : Nat) (ps : List Nat) (asn bd : RCode) (ρ : Env) : Prop where
 fn : r.fn = f
 par : r.params.toList = ps
 pb : ∀ t ∈ ps, t < nt
 fits : Fc nt ρ { tmps := r.tmps, defers := [] }
 asg : CmpC P nt V r.assign asn
 body : CmpC P nt V r.body bd
section
variable {l : Nat} {f : FuncId} {nt : Nat} {V : List Nat} {ps : List Nat} {asn bd : RCode} {ρ : Env} {r : Loop} {M : Aa} {G : Own} {Φ : Value → Aa → Own → Prop}
theorem Oo.enter {vs : List Value} (hl : (l, Obj.loop r) ∈ G) (hr : LoopIs P V r f nt ps asn bd ρ) (hv : vs.length = ps.length)
  (h : ∀ w0, EV (Cx.round P l f nt w0 (G.map (·.1)) M Φ) V [.code asn, .begins, .code bd] (Dh3 ps vs ρ) M G) : Oo P l vs.toArray M G Φ := by
 intro w hs
 have hps := hr.par
 refine ⟨r, hs.own _ hl, ?_, ?_⟩
 ·rw [lE3, hv, ← hps, Array.length_toList]
 ·intro c cs
  have hf : Fc nt (Dh3 ps vs ρ) { tmps := (ps.zip vs).foldl (fun tmps (t, v) => tmps.setIfInBounds t v) r.tmps, defers := [] } := Yf ps vs ρ { tmps := r.tmps, defers := [] } hr.pb hr.fits
  have := h w [.code r.assign, .beginRound, .code r.body] (.cons (.code hr.asg) (.cons .begins (.cons (.code hr.body) .nil))) _ w hf rfl hs (c :: cs) c cs rfl
  obtain ⟨v, w', h1, h2⟩ := this
  refine ⟨v, w', h1, ?_⟩
  have e : (r.params.zip vs.toArray).foldl (fun tmps (t, a) => tmps.setIfInBounds t a) r.tmps = (ps.zip vs).foldl (fun tmps (t, v) => tmps.setIfInBounds t v) r.tmps := by
   rw [← hps, ← Array.foldl_toList, Array.toList_zip]
  rw [e, hr.fn]
  exact h2
theorem JX {w0 w : World} {F : List Nat} {M0 : Aa} {G0 : Own} {r r' : Loop} (hs : EV.St w0 F M0 M ((l, Obj.loop r) :: G0) w) : EV.St w0 F M0 M ((l, Obj.loop r') :: G0) (w.putObj l (.loop r')) :=
 hs.put (i := 0) (o' := .loop r') rfl rfl ⟨rfl, lA5 _⟩ rfl (by simp) (fun k hk => World.putObj_heap_other hk) (World.putObj_heap_same (hs.lt (lB1 ..)))
variable {w0 : World} {F : List Nat} {M0 : Aa} {G0 : Own} {k : List RItem}
theorem EV.begins (aa : r.state = .ready) (h : EV (Cx.round P l f nt w0 F M0 Φ) V k ρ M ((l, Obj.loop { r with state := .busy }) :: G0)) : EV (Cx.round P l f nt w0 F M0 Φ) V (.begins :: k) ρ M ((l, Obj.loop r) :: G0) := by
 intro k' hk a w hf hd hs cs
 cases hk with
 | cons hx hk => cases hx with
  | begins =>
   have hl := hs.own (l, Obj.loop r) (lB1 ..)
   exact (Cx.round P l f nt w0 F M0 Φ).back (stepR_beginRound rfl (run_beginRound hl aa)) (h _ hk a _ hf hd (JX hs) cs)
theorem EV.endRound (h : Φ (.bool true) M ((l, Obj.loop { r with state := .ready, pending := none }) :: G0)) : EV (Cx.round P l f nt w0 F M0 Φ) V [] ρ M ((l, Obj.loop r) :: G0) := by
 intro k' hk a w hf hd hs cs c cs' e
 subst e
 cases hk
 have hl := hs.own (l, Obj.loop r) (lB1 ..)
 exact ⟨_, _, ⟨M, _, JX hs, h⟩, .one (stepR_round_end rfl rfl (run_endRound none hl))⟩
theorem EV.retRound (h : Φ (.bool false) M ((l, Obj.loop { r with state := .done, pending := some .ret }) :: G0)) : EV (Cx.round P l f nt w0 F M0 Φ) V (.code .ret :: k) ρ M ((l, Obj.loop r) :: G0) := by
 intro k' hk a w hf hd hs cs c cs' e
 subst e
 cases hk with
 | cons hx hk => cases hx with
  | code hc => cases hc with
   | ret =>
    have hl := hs.own (l, Obj.loop r) (lB1 ..)
    exact ⟨_, _, ⟨M, _, JX hs, h⟩, .one (stepR_round_ret rfl rfl (run_endRound (some .ret) hl))⟩
end
end Go.EV
